/- The law MailCodes: the walk. -/
import Derived.Test.YtpccbobomppdbaaZM27
import Derived.Test.YtpccbobomppdbaaZM28
import Derived.Test.YtpccbobomppdbaaZM31
import Derived.Test.YtpccbobomppdbaaZM33
namespace Go.Proofs.Ytpccbobomppdbaa
open Go.RowKit

set_option maxRecDepth 100000 in
set_option maxHeartbeats 4000000 in
theorem mcl_any (m : Ml) (A : Option Addr) (c : Nat) (A' : Option Addr) (c' : Nat) (w : World) (hr : Rd w 2 A m.items.length (m.items.flatMap encI)) (hr' : Rd w 2 A' m.ask.items.length (m.ask.items.flatMap encI)) (bm : BdM m) :
    Calls Try.prog 5 #[mlV m (.slice A m.items.length c) (.slice A' m.ask.items.length c')] w fun e W => e = .returned (.bool true) ∧ Below w.heap.size w W := by
  have hga : m.ask.good.size ≤ 9223372036854775807 := by have := bm.ask.good; omega
  have HR := Lib.hid (fun W (hW : Below w.heap.size w W) => hr.below hW)
  have HR' := Lib.hid (fun W (hW : Below w.heap.size w W) => hr'.below hW)
  have HBM := Lib.hid bm
  have hl1 := bm.li
  have hl2 := bm.lk
  obtain ⟨la, hla⟩ : ∃ la, m.items.length = la := ⟨_, rfl⟩
  obtain ⟨ka, hka⟩ : ∃ ka, m.ask.items.length = ka := ⟨_, rfl⟩
  have HLA := Lib.hid hla
  have HKA := Lib.hid hka
  rw [hla] at hl1 ⊢
  rw [hka] at hl2 ⊢
  show Calls Try.prog 5 #[.agg #[.int .i64 m.kind, .int .i64 m.order, .slice A la c, .int .i64 m.ask.client, .int .i64 m.ask.number, .int .i64 m.ask.kind, .int .i64 m.ask.order, .int .i64 m.ask.region, .int .i64 m.ask.to, .int .i64 m.ask.n, .string m.ask.good, .slice A' ka c', .int .i64 m.yc, .int .i64 m.yn, .int .i64 m.yd, .int .i64 m.yN]] w _
  obtain ⟨W2, hW2⟩ : ∃ W2, w.alloc (.cells #[.int .i64 m.kind, .int .i64 m.order, .slice A la c, .int .i64 m.ask.client, .int .i64 m.ask.number, .int .i64 m.ask.kind, .int .i64 m.ask.order, .int .i64 m.ask.region, .int .i64 m.ask.to, .int .i64 m.ask.n, .string m.ask.good, .slice A' ka c', .int .i64 m.yc, .int .i64 m.yn, .int .i64 m.yd, .int .i64 m.yN] 29) = W2 := ⟨_, rfl⟩
  have ka0 := block_new w (.cells #[.int .i64 m.kind, .int .i64 m.order, .slice A la c, .int .i64 m.ask.client, .int .i64 m.ask.number, .int .i64 m.ask.kind, .int .i64 m.ask.order, .int .i64 m.ask.region, .int .i64 m.ask.to, .int .i64 m.ask.n, .string m.ask.good, .slice A' ka c', .int .i64 m.yc, .int .i64 m.yn, .int .i64 m.yd, .int .i64 m.yN] 29)
  have hb0 := (Below.refl _ w).alloc (Nat.le_refl _) (.cells #[.int .i64 m.kind, .int .i64 m.order, .slice A la c, .int .i64 m.ask.client, .int .i64 m.ask.number, .int .i64 m.ask.kind, .int .i64 m.ask.order, .int .i64 m.ask.region, .int .i64 m.ask.to, .int .i64 m.ask.n, .string m.ask.good, .slice A' ka c', .int .i64 m.yc, .int .i64 m.yn, .int .i64 m.yd, .int .i64 m.yN] 29)
  have kA := ka0
  rw [hW2] at ka0 hb0
  have HB2 := Lib.hid hb0
  have HCA : Hid (∀ W, Below W2.heap.size W2 W → W.heap[w.heap.size]? = some (.cells #[.int .i64 m.kind, .int .i64 m.order, .slice A la c, .int .i64 m.ask.client, .int .i64 m.ask.number, .int .i64 m.ask.kind, .int .i64 m.ask.order, .int .i64 m.ask.region, .int .i64 m.ask.to, .int .i64 m.ask.n, .string m.ask.good, .slice A' ka c', .int .i64 m.yc, .int .i64 m.yn, .int .i64 m.yd, .int .i64 m.yN] 29 (0, 0))) := Lib.hid (fun W hW => (hW.block _ (lt_of_block ka0)).trans ka0)
  have HW2 := Lib.hid hW2
  have HR2 : Hid (∀ W, Below W2.heap.size W2 W → Rd W 2 A m.items.length (m.items.flatMap encI)) := Lib.hid (fun W hW => HR.out W (HB2.out.trans (hW.mono HB2.out.size)))
  have HR2' : Hid (∀ W, Below W2.heap.size W2 W → Rd W 2 A' m.ask.items.length (m.ask.items.flatMap encI)) := Lib.hid (fun W hW => HR'.out W (HB2.out.trans (hW.mono HB2.out.size)))
  have HMY : Hid (∀ W, Below W2.heap.size W2 W → Calls Try.prog 14 #[.agg #[.int .i64 m.kind, .int .i64 m.order, .slice A la c, .int .i64 m.ask.client, .int .i64 m.ask.number, .int .i64 m.ask.kind, .int .i64 m.ask.order, .int .i64 m.ask.region, .int .i64 m.ask.to, .int .i64 m.ask.n, .string m.ask.good, .slice A' ka c', .int .i64 m.yc, .int .i64 m.yn, .int .i64 m.yd, .int .i64 m.yN]] W fun e W' => e = .returned (.bool (mayM m)) ∧ Below W.heap.size W W') := Lib.hid (fun W hW => hla ▸ hka ▸ mmay_any m A c A' c' W (HR2.out W hW) (HR2'.out W hW) HBM.out.items HBM.out.ask.items hga)
  have HXM : Hid (∀ W, Below W2.heap.size W2 W → Calls Try.prog 15 #[.agg #[.int .i64 m.kind, .int .i64 m.order, .slice A la c, .int .i64 m.ask.client, .int .i64 m.ask.number, .int .i64 m.ask.kind, .int .i64 m.ask.order, .int .i64 m.ask.region, .int .i64 m.ask.to, .int .i64 m.ask.n, .string m.ask.good, .slice A' ka c', .int .i64 m.yc, .int .i64 m.yn, .int .i64 m.yd, .int .i64 m.yN]] W fun e W' => e = .returned (.bool (mayM m)) ∧ Below W.heap.size W W') := Lib.hid (fun W hW => hla ▸ hka ▸ xmmay_any m A c A' c' W (HR2.out W hW) (HR2'.out W hW) HBM.out.items HBM.out.ask.items hga)
  have ra2 := cell_at kA 2
  have ra11 := cell_at kA 11
  clear hr hr' bm hla hka hW2 ka0 hb0
  go_enter Try.func5, Try.ntmps5
  by_cases h1 : (100 : Int) < la
  · go_wp2_with fail
    rw [HW2.out]
    refine (mlives_any W2).mono ?_
    rintro e w3 ⟨rfl, hb⟩
    have HC3 := Lib.hid hb
    clear hb
    go_wp2
    go_ret
    exact ⟨ret_bool (by simp), HB2.out.trans (HC3.out.mono HB2.out.size)⟩
  by_cases h2 : (100 : Int) < ka
  · go_wp2_with fail
    rw [HW2.out]
    refine (mlives_any W2).mono ?_
    rintro e w3 ⟨rfl, hb⟩
    have HC3 := Lib.hid hb
    clear hb
    go_wp2
    go_ret
    exact ⟨ret_bool (by simp), HB2.out.trans (HC3.out.mono HB2.out.size)⟩
  cases hm : mayM m
  · have HE : Hid (∀ W, Below W2.heap.size W2 W → Calls Try.prog 8 #[.agg #[.int .i64 m.kind, .int .i64 m.order, .slice A la c, .int .i64 m.ask.client, .int .i64 m.ask.number, .int .i64 m.ask.kind, .int .i64 m.ask.order, .int .i64 m.ask.region, .int .i64 m.ask.to, .int .i64 m.ask.n, .string m.ask.good, .slice A' ka c', .int .i64 m.yc, .int .i64 m.yn, .int .i64 m.yd, .int .i64 m.yN]] W fun e W' => e = .returned (.tuple #[.slice none 0 0, .int .i64 1]) ∧ Below W.heap.size W W') := Lib.hid (fun W hW => HLA.out ▸ HKA.out ▸ menc_no m A c A' c' W (HR2.out W hW) (HR2'.out W hW) HBM.out.items HBM.out.ask.items hga hm)
    rw [hm] at HMY HXM
    clear hm hga
    go_wp2_with (first | (refine mail_load (by rfl) (.tmp 1) rfl _ rfl #[.int .i64 m.kind, .int .i64 m.order, .slice A la c, .int .i64 m.ask.client, .int .i64 m.ask.number, .int .i64 m.ask.kind, .int .i64 m.ask.order, .int .i64 m.ask.region, .int .i64 m.ask.to, .int .i64 m.ask.n, .string m.ask.good, .slice A' ka c', .int .i64 m.yc, .int .i64 m.yn, .int .i64 m.yd, .int .i64 m.yN] (kA) rfl ?_))
    rw [HW2.out]
    refine (HE.out W2 (Below.refl _ _)).mono ?_
    rintro e w3 ⟨rfl, hb⟩
    have HC3 := Lib.hid hb
    clear hb kA ra2 ra11
    go_wp2_with fail
    refine wp_region_flow (fun W => Below W2.heap.size W2 W) [0, 1, 2, 3, 5, 4, 6, 7, 8, 9, 10, 11, 12, 13, 14, 15] (by kernel_rfl) (by kernel_rfl) (by kernel_rfl) (HC3.out.drew) ?_
    refine flow_call (.bool true) rfl (by kernel_rfl) (by rfl) (by kernel_rfl) (fun W hW => ⟨_, _, _, by go_simp, (mlives_any W).mono fun e w' ⟨he, hb⟩ => ⟨he, hW.trans (hb.mono hW.size)⟩⟩) ?_
    simp only [Act.put, List.setIfInBounds_toArray, List.set_cons_succ, List.set_cons_zero]
    iterate 2
     refine flow_val ?_ rfl (by kernel_rfl) (by rfl) (fun W hW => ?_) ?_
     rotate_left 1
     · go_simp <;> with_reducible rfl
     simp only [Act.put, List.setIfInBounds_toArray, List.set_cons_succ, List.set_cons_zero]
    iterate 2
     refine flow_val ?_ rfl (by kernel_rfl) (by rfl) (fun W hW => ?_) ?_
     rotate_left 1
     · refine mail_exec (.tmp 1) ?_ _ ?_ #[.int .i64 m.kind, .int .i64 m.order, .slice A la c, .int .i64 m.ask.client, .int .i64 m.ask.number, .int .i64 m.ask.kind, .int .i64 m.ask.order, .int .i64 m.ask.region, .int .i64 m.ask.to, .int .i64 m.ask.n, .string m.ask.good, .slice A' ka c', .int .i64 m.yc, .int .i64 m.yn, .int .i64 m.yd, .int .i64 m.yN] (HCA.out W hW.1) rfl <;> rfl
     simp only [Act.put, List.setIfInBounds_toArray, List.set_cons_succ, List.set_cons_zero]
    refine flow_call (.bool false) rfl (by kernel_rfl) (by rfl) (by kernel_rfl) (fun W hW => ⟨_, _, _, by go_simp, (HMY.out W hW.1).mono fun e w' ⟨he, hb⟩ => ⟨he, ⟨hW.1.trans (hb.mono hW.1.size), trivial⟩⟩⟩) ?_
    simp only [Act.put, List.setIfInBounds_toArray, List.set_cons_succ, List.set_cons_zero]
    refine flow_call (.bool false) rfl (by kernel_rfl) (by rfl) (by kernel_rfl) (fun W hW => ⟨_, _, _, by go_simp, (HXM.out W hW.1.1).mono fun e w' ⟨he, hb⟩ => ⟨he, ⟨⟨hW.1.1.trans (hb.mono hW.1.1.size), trivial⟩, trivial⟩⟩⟩) ?_
    simp only [Act.put, List.setIfInBounds_toArray, List.set_cons_succ, List.set_cons_zero]
    iterate 5
     refine flow_val ?_ rfl (by kernel_rfl) (by rfl) (fun W hW => ?_) ?_
     rotate_left 1
     · go_simp <;> with_reducible rfl
     simp only [Act.put, List.setIfInBounds_toArray, List.set_cons_succ, List.set_cons_zero]
    refine flow_val ?_ rfl (by kernel_rfl) (by rfl) (fun W hW => ?_) ?_
    rotate_left 1
    · refine mail_exec (.tmp 1) ?_ _ ?_ #[.int .i64 m.kind, .int .i64 m.order, .slice A la c, .int .i64 m.ask.client, .int .i64 m.ask.number, .int .i64 m.ask.kind, .int .i64 m.ask.order, .int .i64 m.ask.region, .int .i64 m.ask.to, .int .i64 m.ask.n, .string m.ask.good, .slice A' ka c', .int .i64 m.yc, .int .i64 m.yn, .int .i64 m.yd, .int .i64 m.yN] (HCA.out W hW.1.1.1) rfl <;> rfl
    simp only [Act.put, List.setIfInBounds_toArray, List.set_cons_succ, List.set_cons_zero]
    refine flow_call (.bool false) rfl (by kernel_rfl) (by rfl) (by kernel_rfl) (fun W hW => ⟨_, _, _, by go_simp, (HXM.out W hW.1.1.1).mono fun e w' ⟨he, hb⟩ => ⟨he, ⟨⟨⟨hW.1.1.1.trans (hb.mono hW.1.1.1.size), trivial⟩, trivial⟩, trivial⟩⟩⟩) ?_
    simp only [Act.put, List.setIfInBounds_toArray, List.set_cons_succ, List.set_cons_zero]
    iterate 2
     refine flow_val ?_ rfl (by kernel_rfl) (by rfl) (fun W hW => ?_) ?_
     rotate_left 1
     · go_simp <;> with_reducible rfl
     simp only [Act.put, List.setIfInBounds_toArray, List.set_cons_succ, List.set_cons_zero]
    refine flow_done ?_
    intro W hW
    have HC5 := Lib.hid (hW.1.1.1.1)
    clear hW
    obtain ⟨w5, hw⟩ : ∃ w5, w5 = W := ⟨_, rfl⟩
    subst hw
    go_wp2
    go_ret
    exact ⟨ret_bool (by simp), HB2.out.trans (HC5.out.mono HB2.out.size)⟩
  have hlim := mayM_lim hm
  have HE : Hid (∀ W, Below W2.heap.size W2 W → Calls Try.prog 8 #[.agg #[.int .i64 m.kind, .int .i64 m.order, .slice A la c, .int .i64 m.ask.client, .int .i64 m.ask.number, .int .i64 m.ask.kind, .int .i64 m.ask.order, .int .i64 m.ask.region, .int .i64 m.ask.to, .int .i64 m.ask.n, .string m.ask.good, .slice A' ka c', .int .i64 m.yc, .int .i64 m.yn, .int .i64 m.yd, .int .i64 m.yN]] W fun e W' => ∃ v, e = .returned (.tuple #[v, .int .i64 0]) ∧ Bs W' v (encM m) ∧ Below W.heap.size W W') := Lib.hid (fun W hW => HLA.out ▸ HKA.out ▸ menc_ok m A c A' c' W (HR2.out W hW) (HR2'.out W hW) HBM.out.items HBM.out.ask.items hga hm HBM.out.yN)
  have HXE2 : Hid (∀ W, Below W2.heap.size W2 W → Calls Try.prog 17 #[.agg #[.int .i64 m.kind, .int .i64 m.order, .slice A la c, .int .i64 m.ask.client, .int .i64 m.ask.number, .int .i64 m.ask.kind, .int .i64 m.ask.order, .int .i64 m.ask.region, .int .i64 m.ask.to, .int .i64 m.ask.n, .string m.ask.good, .slice A' ka c', .int .i64 m.yc, .int .i64 m.yn, .int .i64 m.yd, .int .i64 m.yN]] W (RetOw W (encM m))) := Lib.hid (fun W hW => HLA.out ▸ HKA.out ▸ xmenc_any m A c A' c' W (HR2.out W hW) (HR2'.out W hW) hm HBM.out.yN)
  have HDC : Hid (∀ W v, Bs W v (encM m) → Calls Try.prog 16 #[v] W (RetDecM W (some m))) := Lib.hid (fun W v hv => ((unM_iff (encM_lt m) m).2 ⟨hm, HBM.out.yN, rfl⟩) ▸ mdec_any v (encM m) W hv (encM_lt _) (by have := encM_le hlim; omega))
  rw [hm] at HMY HXM
  have HLT := Lib.hid (encM_lt m)
  have hel := encM_le hlim
  clear hm hga hlim
  go_wp2_with (first | (refine mail_load (by rfl) (.tmp 1) rfl _ rfl #[.int .i64 m.kind, .int .i64 m.order, .slice A la c, .int .i64 m.ask.client, .int .i64 m.ask.number, .int .i64 m.ask.kind, .int .i64 m.ask.order, .int .i64 m.ask.region, .int .i64 m.ask.to, .int .i64 m.ask.n, .string m.ask.good, .slice A' ka c', .int .i64 m.yc, .int .i64 m.yn, .int .i64 m.yd, .int .i64 m.yN] (kA) rfl ?_))
  rw [HW2.out]
  refine (HE.out W2 (Below.refl _ _)).mono ?_
  rintro e w3 ⟨x1, rfl, hx1, hb⟩
  have HX1 := Lib.hid hx1
  obtain ⟨A1, c1, rfl, q1, q2, q3⟩ := hx1
  have HC3 := Lib.hid hb
  obtain ⟨n1, hn1⟩ : ∃ n1, (encM m).length = n1 := ⟨_, rfl⟩
  rw [hn1] at HX1 hel ⊢
  have HLE : Hid (decide ((n1 : Int) ≤ 2048) = true) := Lib.hid (by simp; omega)
  clear hb hn1 q1 q2 q3 kA ra2 ra11 hel
  have HX34 := Lib.hid (fun W (hW : Below w3.heap.size w3 W) => HX1.out.below hW)
  go_wp2_with fail
  refine wp_region_flow (fun W => Below W2.heap.size W2 W ∧ Below w3.heap.size w3 W) [0, 1, 2, 3, 5, 4, 6, 7, 8, 9, 10, 11, 12, 13, 14, 15] (by kernel_rfl) (by kernel_rfl) (by kernel_rfl) (⟨HC3.out.drew, (Below.refl _ w3).drew⟩) ?_
  refine flow_call (.bool true) rfl (by kernel_rfl) (by rfl) (by kernel_rfl) (fun W hW => ⟨_, _, _, by go_simp, (mlives_any W).mono fun e w' ⟨he, hb⟩ => ⟨he, ⟨hW.1.trans (hb.mono hW.1.size), hW.2.trans (hb.mono hW.2.size)⟩⟩⟩) ?_
  simp only [Act.put, List.setIfInBounds_toArray, List.set_cons_succ, List.set_cons_zero]
  iterate 2
   refine flow_val ?_ rfl (by kernel_rfl) (by rfl) (fun W hW => ?_) ?_
   rotate_left 1
   · go_simp <;> with_reducible rfl
   simp only [Act.put, List.setIfInBounds_toArray, List.set_cons_succ, List.set_cons_zero]
  iterate 2
   refine flow_val ?_ rfl (by kernel_rfl) (by rfl) (fun W hW => ?_) ?_
   rotate_left 1
   · refine mail_exec (.tmp 1) ?_ _ ?_ #[.int .i64 m.kind, .int .i64 m.order, .slice A la c, .int .i64 m.ask.client, .int .i64 m.ask.number, .int .i64 m.ask.kind, .int .i64 m.ask.order, .int .i64 m.ask.region, .int .i64 m.ask.to, .int .i64 m.ask.n, .string m.ask.good, .slice A' ka c', .int .i64 m.yc, .int .i64 m.yn, .int .i64 m.yd, .int .i64 m.yN] (HCA.out W hW.1.1) rfl <;> rfl
   simp only [Act.put, List.setIfInBounds_toArray, List.set_cons_succ, List.set_cons_zero]
  refine flow_call (.bool true) rfl (by kernel_rfl) (by rfl) (by kernel_rfl) (fun W hW => ⟨_, _, _, by go_simp, (HMY.out W hW.1.1).mono fun e w' ⟨he, hb⟩ => ⟨he, ⟨⟨hW.1.1.trans (hb.mono hW.1.1.size), hW.1.2.trans (hb.mono hW.1.2.size)⟩, trivial⟩⟩⟩) ?_
  simp only [Act.put, List.setIfInBounds_toArray, List.set_cons_succ, List.set_cons_zero]
  refine flow_call (.bool true) rfl (by kernel_rfl) (by rfl) (by kernel_rfl) (fun W hW => ⟨_, _, _, by go_simp, (HXM.out W hW.1.1.1).mono fun e w' ⟨he, hb⟩ => ⟨he, ⟨⟨⟨hW.1.1.1.trans (hb.mono hW.1.1.1.size), hW.1.1.2.trans (hb.mono hW.1.1.2.size)⟩, trivial⟩, trivial⟩⟩⟩) ?_
  simp only [Act.put, List.setIfInBounds_toArray, List.set_cons_succ, List.set_cons_zero]
  iterate 5
   refine flow_val ?_ rfl (by kernel_rfl) (by rfl) (fun W hW => ?_) ?_
   rotate_left 1
   · go_simp <;> with_reducible rfl
   simp only [Act.put, List.setIfInBounds_toArray, List.set_cons_succ, List.set_cons_zero]
  refine flow_val ?_ rfl (by kernel_rfl) (by rfl) (fun W hW => ?_) ?_
  rotate_left 1
  · refine mail_exec (.tmp 1) ?_ _ ?_ #[.int .i64 m.kind, .int .i64 m.order, .slice A la c, .int .i64 m.ask.client, .int .i64 m.ask.number, .int .i64 m.ask.kind, .int .i64 m.ask.order, .int .i64 m.ask.region, .int .i64 m.ask.to, .int .i64 m.ask.n, .string m.ask.good, .slice A' ka c', .int .i64 m.yc, .int .i64 m.yn, .int .i64 m.yd, .int .i64 m.yN] (HCA.out W hW.1.1.1.1) rfl <;> rfl
  simp only [Act.put, List.setIfInBounds_toArray, List.set_cons_succ, List.set_cons_zero]
  refine flow_call (.bool true) rfl (by kernel_rfl) (by rfl) (by kernel_rfl) (fun W hW => ⟨_, _, _, by go_simp, (HXM.out W hW.1.1.1.1).mono fun e w' ⟨he, hb⟩ => ⟨he, ⟨⟨⟨⟨hW.1.1.1.1.trans (hb.mono hW.1.1.1.1.size), hW.1.1.1.2.trans (hb.mono hW.1.1.1.2.size)⟩, trivial⟩, trivial⟩, trivial⟩⟩⟩) ?_
  simp only [Act.put, List.setIfInBounds_toArray, List.set_cons_succ, List.set_cons_zero]
  iterate 2
   refine flow_val ?_ rfl (by kernel_rfl) (by rfl) (fun W hW => ?_) ?_
   rotate_left 1
   · go_simp <;> with_reducible rfl
   simp only [Act.put, List.setIfInBounds_toArray, List.set_cons_succ, List.set_cons_zero]
  refine flow_done ?_
  intro W hW
  have HC5 := Lib.hid (hW.1.1.1.1.1)
  have HX5 := Lib.hid (HX34.out W hW.1.1.1.1.2)
  clear hW
  obtain ⟨w5, hw⟩ : ∃ w5, w5 = W := ⟨_, rfl⟩
  subst hw
  go_wp2_with fail
  refine (HDC.out w5 _ HX5.out).mono ?_
  rintro e w6 ⟨hs, _⟩
  obtain ⟨A4, c4, A5, c5, he, hr4, hr5, hb4⟩ := hs m rfl
  rw [HLA.out, HKA.out] at he
  have he2 : e = .returned (.tuple #[.agg #[.int .i64 m.kind, .int .i64 m.order, .slice A4 la c4, .int .i64 m.ask.client, .int .i64 m.ask.number, .int .i64 m.ask.kind, .int .i64 m.ask.order, .int .i64 m.ask.region, .int .i64 m.ask.to, .int .i64 m.ask.n, .string m.ask.good, .slice A5 ka c5, .int .i64 m.yc, .int .i64 m.yn, .int .i64 m.yd, .int .i64 m.yN], .int .i64 0]) := he
  subst he2
  have kp := block_new w6 (.cells #[.int .i64 m.kind, .int .i64 m.order, .slice A4 la c4, .int .i64 m.ask.client, .int .i64 m.ask.number, .int .i64 m.ask.kind, .int .i64 m.ask.order, .int .i64 m.ask.region, .int .i64 m.ask.to, .int .i64 m.ask.n, .string m.ask.good, .slice A5 ka c5, .int .i64 m.yc, .int .i64 m.yn, .int .i64 m.yd, .int .i64 m.yN] 29)
  have hb6 := (Below.refl w6.heap.size w6).alloc (Nat.le_refl _) (.cells #[.int .i64 m.kind, .int .i64 m.order, .slice A4 la c4, .int .i64 m.ask.client, .int .i64 m.ask.number, .int .i64 m.ask.kind, .int .i64 m.ask.order, .int .i64 m.ask.region, .int .i64 m.ask.to, .int .i64 m.ask.n, .string m.ask.good, .slice A5 ka c5, .int .i64 m.yc, .int .i64 m.yn, .int .i64 m.yd, .int .i64 m.yN] 29)
  have hb56 := hb4.trans (hb6.mono hb4.size)
  have HC6 := Lib.hid (HC5.out.trans (hb56.mono HC5.out.size))
  have HR6 := Lib.hid (hr4.below hb6)
  have HR6' := Lib.hid (hr5.below hb6)
  have HX6 := Lib.hid (HX5.out.below hb56)
  obtain ⟨pb, hpb⟩ : ∃ pb, w6.heap.size = pb := ⟨_, rfl⟩
  obtain ⟨W5, hW5⟩ : ∃ W5, w6.alloc (.cells #[.int .i64 m.kind, .int .i64 m.order, .slice A4 la c4, .int .i64 m.ask.client, .int .i64 m.ask.number, .int .i64 m.ask.kind, .int .i64 m.ask.order, .int .i64 m.ask.region, .int .i64 m.ask.to, .int .i64 m.ask.n, .string m.ask.good, .slice A5 ka c5, .int .i64 m.yc, .int .i64 m.yn, .int .i64 m.yd, .int .i64 m.yN] 29) = W5 := ⟨_, rfl⟩
  rw [hW5] at kp HC6 HR6 HR6' HX6
  rw [hpb] at kp
  have HCP : Hid (∀ W, Below W5.heap.size W5 W → W.heap[pb]? = some (.cells #[.int .i64 m.kind, .int .i64 m.order, .slice A4 la c4, .int .i64 m.ask.client, .int .i64 m.ask.number, .int .i64 m.ask.kind, .int .i64 m.ask.order, .int .i64 m.ask.region, .int .i64 m.ask.to, .int .i64 m.ask.n, .string m.ask.good, .slice A5 ka c5, .int .i64 m.yc, .int .i64 m.yn, .int .i64 m.yd, .int .i64 m.yN] 29 (0, 0))) := Lib.hid (fun W hW => (hW.block _ (lt_of_block kp)).trans kp)
  have HCA5 : Hid (∀ W, Below W5.heap.size W5 W → W.heap[w.heap.size]? = some (.cells #[.int .i64 m.kind, .int .i64 m.order, .slice A la c, .int .i64 m.ask.client, .int .i64 m.ask.number, .int .i64 m.ask.kind, .int .i64 m.ask.order, .int .i64 m.ask.region, .int .i64 m.ask.to, .int .i64 m.ask.n, .string m.ask.good, .slice A' ka c', .int .i64 m.yc, .int .i64 m.yn, .int .i64 m.yd, .int .i64 m.yN] 29 (0, 0))) := Lib.hid (fun W hW => HCA.out W (HC6.out.trans (hW.mono HC6.out.size)))
  have HXE : Hid (∀ W, Below W5.heap.size W5 W → Calls Try.prog 17 #[.agg #[.int .i64 m.kind, .int .i64 m.order, .slice A la c, .int .i64 m.ask.client, .int .i64 m.ask.number, .int .i64 m.ask.kind, .int .i64 m.ask.order, .int .i64 m.ask.region, .int .i64 m.ask.to, .int .i64 m.ask.n, .string m.ask.good, .slice A' ka c', .int .i64 m.yc, .int .i64 m.yn, .int .i64 m.yd, .int .i64 m.yN]] W (RetOw W (encM m))) := Lib.hid (fun W hW => HXE2.out W (HC6.out.trans (hW.mono HC6.out.size)))
  have HXS : Hid (∀ W, Below W5.heap.size W5 W → Calls Try.prog 9 #[.agg #[.int .i64 m.kind, .int .i64 m.order, .slice A4 la c4, .int .i64 m.ask.client, .int .i64 m.ask.number, .int .i64 m.ask.kind, .int .i64 m.ask.order, .int .i64 m.ask.region, .int .i64 m.ask.to, .int .i64 m.ask.n, .string m.ask.good, .slice A5 ka c5, .int .i64 m.yc, .int .i64 m.yn, .int .i64 m.yd, .int .i64 m.yN], .agg #[.int .i64 m.kind, .int .i64 m.order, .slice A la c, .int .i64 m.ask.client, .int .i64 m.ask.number, .int .i64 m.ask.kind, .int .i64 m.ask.order, .int .i64 m.ask.region, .int .i64 m.ask.to, .int .i64 m.ask.n, .string m.ask.good, .slice A' ka c', .int .i64 m.yc, .int .i64 m.yn, .int .i64 m.yd, .int .i64 m.yN]] W fun e W' => e = .returned (.bool true) ∧ Below W.heap.size W W') := Lib.hid (fun W hW => by
    have h := xmsame_any m m A4 A5 c4 c5 A A' c c' W (HR6.out.below hW) (HR6'.out.below hW) (HR2.out W (HC6.out.trans (hW.mono HC6.out.size))) (HR2'.out W (HC6.out.trans (hW.mono HC6.out.size))) HBM.out.items.2 HBM.out.ask.items.2
    rw [eqM_iff.2 rfl, HLA.out, HKA.out] at h
    exact h)
  obtain ⟨T1, hT1⟩ : ∃ T1, strOf (encM m) = T1 := ⟨_, rfl⟩
  have HE1 := Lib.hid hT1
  have HS1 : Hid (∀ W, Below W5.heap.size W5 W → (convert 31 9 (.slice A1 n1 c1)).run Try.prog W = .ok (.string T1) W) := Lib.hid (fun W hW => by
    obtain ⟨A', c', e1, _, _, r1⟩ := HX6.out.below hW
    cases e1
    exact hT1 ▸ run_str W A1 _ c1 (encM m) r1 HLT.out)
  have HW5 := Lib.hid hW5
  have HPB := Lib.hid hpb
  clear hs hr4 hr5 hb4 he hb6 hb56 hpb hW5 kp hT1
  go_wp2_with fail
  rw [HW5.out, HPB.out]
  refine wp_region_flow (fun W => Below W5.heap.size W5 W) [0, 1, 2, 3, 4, 5, 6, 7, 8, 9, 10, 11, 12, 13, 14, 15, 16, 17, 18, 19, 20] (by kernel_rfl) (by kernel_rfl) (by kernel_rfl) ((Below.refl _ W5).drew) ?_
  refine flow_val ?_ rfl (by kernel_rfl) (by rfl) (fun W hW => ?_) ?_
  rotate_left 1
  · go_simp <;> with_reducible rfl
  simp only [Act.put, List.setIfInBounds_toArray, List.set_cons_succ, List.set_cons_zero]
  refine flow_val ?_ rfl (by kernel_rfl) (by rfl) (fun W hW => ?_) ?_
  rotate_left 1
  · have s1 := HS1.out W hW; go_simp <;> with_reducible rfl
  simp only [Act.put, List.setIfInBounds_toArray, List.set_cons_succ, List.set_cons_zero]
  refine flow_val ?_ rfl (by kernel_rfl) (by rfl) (fun W hW => ?_) ?_
  rotate_left 1
  · refine mail_exec (.tmp 1) ?_ _ ?_ #[.int .i64 m.kind, .int .i64 m.order, .slice A la c, .int .i64 m.ask.client, .int .i64 m.ask.number, .int .i64 m.ask.kind, .int .i64 m.ask.order, .int .i64 m.ask.region, .int .i64 m.ask.to, .int .i64 m.ask.n, .string m.ask.good, .slice A' ka c', .int .i64 m.yc, .int .i64 m.yn, .int .i64 m.yd, .int .i64 m.yN] (HCA5.out W hW) rfl <;> rfl
  simp only [Act.put, List.setIfInBounds_toArray, List.set_cons_succ, List.set_cons_zero]
  refine flow_new (fun v W => Bs W v (encM m)) rfl (by kernel_rfl) (by rfl) (by kernel_rfl) (fun W hW => ⟨_, _, _, by go_simp, (HXE.out W hW).mono fun e w' ⟨v, he, hv, hb⟩ => ⟨v, he, hW.trans (hb.mono hW.size), Bs.own_lt hv⟩⟩) ?_
  rintro v57 ⟨_, _, A57, c57, rfl, _, _, _⟩
  simp only [Act.put, List.setIfInBounds_toArray, List.set_cons_succ, List.set_cons_zero]
  refine flow_val ?_ rfl (by kernel_rfl) (by rfl) (fun W hW => ?_) ?_
  rotate_left 1
  · have s2 := HE1.out ▸ run_str W A57 _ c57 (encM m) hW.2.rd' HLT.out; go_simp <;> with_reducible rfl
  simp only [Act.put, List.setIfInBounds_toArray, List.set_cons_succ, List.set_cons_zero]
  iterate 4
   refine flow_val ?_ rfl (by kernel_rfl) (by rfl) (fun W hW => ?_) ?_
   rotate_left 1
   · go_simp <;> with_reducible rfl
   simp only [Act.put, List.setIfInBounds_toArray, List.set_cons_succ, List.set_cons_zero]
  refine flow_val ?_ rfl (by kernel_rfl) (by rfl) (fun W hW => ?_) ?_
  rotate_left 1
  · have q := HLE.out; go_simp <;> with_reducible rfl
  simp only [Act.put, List.setIfInBounds_toArray, List.set_cons_succ, List.set_cons_zero]
  iterate 6
   refine flow_val ?_ rfl (by kernel_rfl) (by rfl) (fun W hW => ?_) ?_
   rotate_left 1
   · go_simp <;> with_reducible rfl
   simp only [Act.put, List.setIfInBounds_toArray, List.set_cons_succ, List.set_cons_zero]
  refine flow_val ?_ rfl (by kernel_rfl) (by rfl) (fun W hW => ?_) ?_
  rotate_left 1
  · refine mail_exec (.tmp 5) ?_ _ ?_ #[.int .i64 m.kind, .int .i64 m.order, .slice A4 la c4, .int .i64 m.ask.client, .int .i64 m.ask.number, .int .i64 m.ask.kind, .int .i64 m.ask.order, .int .i64 m.ask.region, .int .i64 m.ask.to, .int .i64 m.ask.n, .string m.ask.good, .slice A5 ka c5, .int .i64 m.yc, .int .i64 m.yn, .int .i64 m.yd, .int .i64 m.yN] (HCP.out W hW.1) rfl <;> rfl
  simp only [Act.put, List.setIfInBounds_toArray, List.set_cons_succ, List.set_cons_zero]
  refine flow_val ?_ rfl (by kernel_rfl) (by rfl) (fun W hW => ?_) ?_
  rotate_left 1
  · refine mail_exec (.tmp 1) ?_ _ ?_ #[.int .i64 m.kind, .int .i64 m.order, .slice A la c, .int .i64 m.ask.client, .int .i64 m.ask.number, .int .i64 m.ask.kind, .int .i64 m.ask.order, .int .i64 m.ask.region, .int .i64 m.ask.to, .int .i64 m.ask.n, .string m.ask.good, .slice A' ka c', .int .i64 m.yc, .int .i64 m.yn, .int .i64 m.yd, .int .i64 m.yN] (HCA5.out W hW.1) rfl <;> rfl
  simp only [Act.put, List.setIfInBounds_toArray, List.set_cons_succ, List.set_cons_zero]
  refine flow_call (.bool true) rfl (by kernel_rfl) (by rfl) (by kernel_rfl) (fun W hW => ⟨_, _, _, by go_simp, (HXS.out W hW.1).mono fun e w' ⟨he, hb⟩ => ⟨he, hW.1.trans (hb.mono hW.1.size), hW.2.below hb⟩⟩) ?_
  simp only [Act.put, List.setIfInBounds_toArray, List.set_cons_succ, List.set_cons_zero]
  iterate 2
   refine flow_val ?_ rfl (by kernel_rfl) (by rfl) (fun W hW => ?_) ?_
   rotate_left 1
   · go_simp <;> with_reducible rfl
   simp only [Act.put, List.setIfInBounds_toArray, List.set_cons_succ, List.set_cons_zero]
  refine flow_done ?_
  intro W hW
  have HC7 := Lib.hid hW.1.1
  clear hW
  go_wp2
  go_ret
  exact ⟨ret_bool (by simp), HB2.out.trans ((HC6.out.trans (HC7.out.mono HC6.out.size)).mono HB2.out.size)⟩
end Go.Proofs.Ytpccbobomppdbaa
