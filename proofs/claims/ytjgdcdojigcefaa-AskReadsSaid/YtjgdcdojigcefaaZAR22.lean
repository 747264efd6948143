/- Joined: The reference's Decode of a request. From a walk to a row's statement, and how arguments that came in are opened. How arguments that came in are opened: slices of whatever elements, element by element; numbers; texts; their sizes. How arguments that came in are opened: bytes. -/
import Derived.Test.YtjgdcdojigcefaaZAR21
import Derived.Test.YtjgdcdojigcefaaRows
import Derived.Test.YtjgdcdojigcefaaZAR1
import Derived.ProofKit
import Derived.OpenShut
import Derived.ShutString
import Derived.ChangeOld
import Derived.Deep.Slices
import Derived.Deep.Fields
import Derived.Test.YtjgdcdojigcefaaZAR10
import Derived.SizedLaws
namespace Go.Proofs.Ytjgdcdojigcefaa
open Go.RowKit

/-- The reference's taker of what came in. -/
theorem ist_arg {w W : World} {A : Option Addr} {c p : Nat} {bs : List Nat} {T : TypeId} (h1 : bs.length ≤ c) (h2 : c ≤ maxLen) (h3 : Rd w 1 A bs.length (bs.map u8v)) (h4 : ∀ b ∈ bs, b < 256) (h5 : SlA A c) (hb : Below w.heap.size w W) (hp : W.heap[p]? = some (.cells #[.slice A bs.length c, .bool false] T (0, 0))) :
    ∃ D : Option Nat, IsT W T p D (bs, false) ∧ ∀ d, D = some d → d < w.heap.size := by
  refine ⟨if 0 < bs.length then A.map (·.block) else none, ⟨A, c, hp, h1, h2, h3.below hb, fun hn a ha => ?_, h4, h5⟩, fun d hd => ?_⟩
  · simp only at hn
    rw [if_pos hn, ha]; rfl
  · split at hd
    · rename_i hn
      obtain ⟨g, o, e, hg, _⟩ := h3.2 hn
      rw [e] at hd
      simp at hd
      omega
    · cases hd
def RetDecX (w : World) (r : Option Ak) (e : Ending) (W : World) : Prop :=
  (∀ a, r = some a → ∃ A c, e = .returned (.tuple #[akV a (.slice A a.items.length c), .bool true]) ∧ Rd W 2 A a.items.length (a.items.flatMap encI) ∧ Below w.heap.size w W) ∧
  (r = none → e = .returned (.tuple #[akV zeroA (.slice none 0 0), .bool false]) ∧ Below w.heap.size w W)
set_option maxRecDepth 100000 in
set_option maxHeartbeats 4000000 in
theorem xadec_any (A : Option Addr) (c : Nat) (bs : List Nat) (w : World) (h1 : bs.length ≤ c) (h2 : c ≤ maxLen) (h3 : Rd w 1 A bs.length (bs.map u8v)) (h4 : ∀ b ∈ bs, b < 256) (h5 : SlA A c) :
    Calls Try.prog 18 #[.slice A bs.length c] w (RetDecX w (unXA bs)) := by
  have HUN : Hid (unXA bs = if xokA (bs, false) = true ∧ (x4A (bs, false)).2.1 = [] then some (xA (bs, false)) else none) := Lib.hid rfl
  have hb1 := (Below.refl w.heap.size w).alloc (Nat.le_refl _) (.cells #[.int .i64 0, .int .i64 0, .int .i64 0, .int .i64 0, .int .i64 0, .int .i64 0, .int .i64 0, .string { data := #[] }, .slice none 0 0] 24)
  have hb2 := hb1.alloc hb1.size (.cells #[.slice A bs.length c, .bool false] 71)
  have kr := block_alloc (block_new w (.cells #[.int .i64 0, .int .i64 0, .int .i64 0, .int .i64 0, .int .i64 0, .int .i64 0, .int .i64 0, .string { data := #[] }, .slice none 0 0] 24)) (.cells #[.slice A bs.length c, .bool false] 71)
  have kq := block_new (w.alloc (.cells #[.int .i64 0, .int .i64 0, .int .i64 0, .int .i64 0, .int .i64 0, .int .i64 0, .int .i64 0, .string { data := #[] }, .slice none 0 0] 24)) (.cells #[.slice A bs.length c, .bool false] 71)
  simp only [World.size_alloc] at kq
  obtain ⟨pr, hpr⟩ : ∃ pr, w.heap.size = pr := ⟨_, rfl⟩
  obtain ⟨W2, hW2⟩ : ∃ W2, (w.alloc (.cells #[.int .i64 0, .int .i64 0, .int .i64 0, .int .i64 0, .int .i64 0, .int .i64 0, .int .i64 0, .string { data := #[] }, .slice none 0 0] 24)).alloc (.cells #[.slice A bs.length c, .bool false] 71) = W2 := ⟨_, rfl⟩
  rw [hW2] at hb2 kr kq
  rw [hpr] at kr kq
  obtain ⟨D, hT, hD⟩ := ist_arg h1 h2 h3 h4 h5 hb2 kq
  have HRD := Lib.hid (xaread_any (pr + 1) D (bs, false) W2 hT (fun e => by have := hD _ e; omega) (fun d hd => Nat.lt_of_lt_of_le (hD d hd) hb2.size))
  obtain ⟨ak, hak⟩ : ∃ ak, xA (bs, false) = ak := ⟨_, rfl⟩
  obtain ⟨OK, hOK⟩ : ∃ OK, xokA (bs, false) = OK := ⟨_, rfl⟩
  obtain ⟨s2, hs2⟩ : ∃ s2, (x4A (bs, false)).2 = s2 := ⟨_, rfl⟩
  rw [hak, hOK, hs2] at HUN HRD
  have HB2 := Lib.hid hb2
  have HKR := Lib.hid kr
  have HPE := Lib.hid hpr
  have HW2 := Lib.hid hW2
  obtain ⟨nb, hnb⟩ : ∃ nb, bs.length = nb := ⟨_, rfl⟩
  rw [hnb] at HW2 ⊢
  clear h1 h2 h3 h4 h5 hb1 hb2 kr kq hpr hW2 hT hD hak hOK hs2 hnb
  go_enter Try.func18, Try.ntmps18
  go_wp2_with fail
  rw [HW2.out, HPE.out]
  refine HRD.out.mono ?_
  rintro e w3 ⟨Av, cv, rfl, hrd, hl16, hx, haw0⟩
  obtain ⟨a1, a2, a3, a4, a5, a6, a7, a8, a9⟩ := ak
  simp only at hrd hl16 ⊢
  obtain ⟨m, hm⟩ : ∃ m, a9.length = m := ⟨_, rfl⟩
  have HMM := Lib.hid hm
  rw [hm] at hrd hl16 ⊢
  have hr3 := hx.2.keep0 HKR.out (by simp)
  have hk2 := lt_of_block HKR.out
  have haw : 0 < m → ∀ a, Av = some a → a.block ≠ pr := fun _ a ha => by have := haw0 a ha; omega
  obtain ⟨⟨Aq, cq, hq3, hqc, hqm, _⟩, hf⟩ := hx
  have hqc2 : s2.1.length ≤ 9223372036854775807 := by unfold maxLen at hqm; omega
  obtain ⟨pb, hpb⟩ : ∃ pb, w3.heap.size = pb := ⟨_, rfl⟩
  have hrl : pr < pb ∧ pr + 1 < pb := by rw [← hpb]; exact ⟨lt_of_block hr3, lt_of_block hq3⟩
  have hb4 := (Below.refl w3.heap.size w3).alloc (Nat.le_refl _) (.cells #[.int .i64 a1, .int .i64 a2, .int .i64 a3, .int .i64 a4, .int .i64 a5, .int .i64 a6, .int .i64 a7, .string a8, .slice Av m cv] 24)
  have kb := block_new w3 (.cells #[.int .i64 a1, .int .i64 a2, .int .i64 a3, .int .i64 a4, .int .i64 a5, .int .i64 a6, .int .i64 a7, .string a8, .slice Av m cv] 24)
  rw [hpb] at kb
  have HRD3 := Lib.hid hrd
  have HB3 := Lib.hid (HB2.out.trans (hf.belowT (p := pr + 1) (by rw [HPE.out]; omega) HB2.out.size))
  have HR3 := Lib.hid hr3
  have HR4 := Lib.hid ((hb4.block _ (lt_of_block hr3)).trans hr3)
  have HQ4 := Lib.hid ((hb4.block _ (lt_of_block hq3)).trans hq3)
  have HPBL := Lib.hid hrl
  have HKB := Lib.hid kb
  have HRG : Hid (0 < m → ∀ a, Av = some a → a.block < pb) := Lib.hid (fun hn a ha => by
    obtain ⟨g, o, e, hg, _⟩ := hrd.2 hn
    rw [e] at ha
    cases ha
    rw [← hpb]
    exact hg)
  have HPB := Lib.hid hpb
  have x0 := cell_at hq3 0
  have hq0 := cell_at HQ4.out 0
  obtain ⟨ns, hns⟩ : ∃ ns, s2.1.length = ns := ⟨_, rfl⟩
  have HNS := Lib.hid hns
  have hql : pr + 1 < w3.heap.size := by rw [hpb]; exact hrl.2
  rw [hns] at x0 hq0 hqc2
  have HAW : Hid (0 < m → ∀ a, Av = some a → a.block ≠ pr) := Lib.hid haw
  clear hrd hf hqc hqm hb4 hm hns kb haw haw0 hk2
  cases OK
  · clear hq0 x0
    have hu : unXA bs = none := by rw [HUN.out, if_neg (by simp)]
    have HUU := Lib.hid hu
    clear hu
    have z0 := cell_at HR4.out 0
    have f0 := frozen_at HR4.out 0
    have z1 := cell_at HR4.out 1
    have f1 := frozen_at HR4.out 1
    have z2 := cell_at HR4.out 2
    have f2 := frozen_at HR4.out 2
    have z3 := cell_at HR4.out 3
    have f3 := frozen_at HR4.out 3
    have z4 := cell_at HR4.out 4
    have f4 := frozen_at HR4.out 4
    have z5 := cell_at HR4.out 5
    have f5 := frozen_at HR4.out 5
    have z6 := cell_at HR4.out 6
    have f6 := frozen_at HR4.out 6
    have z7 := cell_at HR4.out 7
    have f7 := frozen_at HR4.out 7
    have z8 := cell_at HR4.out 8
    have f8 := frozen_at HR4.out 8
    have hrl2 : pr < w3.heap.size := by rw [HPB.out]; exact HPBL.out.1
    have v0 := cell_at hr3 0
    have vf0 := frozen_at hr3 0
    have v1 := cell_at hr3 1
    have vf1 := frozen_at hr3 1
    have v2 := cell_at hr3 2
    have vf2 := frozen_at hr3 2
    have v3 := cell_at hr3 3
    have vf3 := frozen_at hr3 3
    have v4 := cell_at hr3 4
    have vf4 := frozen_at hr3 4
    have v5 := cell_at hr3 5
    have vf5 := frozen_at hr3 5
    have v6 := cell_at hr3 6
    have vf6 := frozen_at hr3 6
    have v7 := cell_at hr3 7
    have vf7 := frozen_at hr3 7
    have v8 := cell_at hr3 8
    have vf8 := frozen_at hr3 8
    go_wp2_with fail
    obtain ⟨W9, h9, ⟨t0, t1, t2, t3, t4, t5, t6, t7, t8⟩, hc9, hF, hB⟩ := ask_store HR3.out (.int .i64 0) (.int .i64 0) (.int .i64 0) (.int .i64 0) (.int .i64 0) (.int .i64 0) (.int .i64 0) (.string { data := #[] }) (.slice none 0 0)
    rw [h9]
    have hb10 := (Below.refl W9.heap.size W9).alloc (Nat.le_refl _) (.cells #[.int .i64 a1, .int .i64 a2, .int .i64 a3, .int .i64 a4, .int .i64 a5, .int .i64 a6, .int .i64 a7, .string a8, .slice Av m cv] 24)
    have hc10 := block_alloc hc9 (.cells #[.int .i64 a1, .int .i64 a2, .int .i64 a3, .int .i64 a4, .int .i64 a5, .int .i64 a6, .int .i64 a7, .string a8, .slice Av m cv] 24)
    have hprl := lt_of_block hc9
    have u0 := cell_at hc10 0
    have u1 := cell_at hc10 1
    have u2 := cell_at hc10 2
    have u3 := cell_at hc10 3
    have u4 := cell_at hc10 4
    have u5 := cell_at hc10 5
    have u6 := cell_at hc10 6
    have u7 := cell_at hc10 7
    have u8 := cell_at hc10 8
    refine bodyPost_ret (v := .tuple #[.agg #[.int .i64 0, .int .i64 0, .int .i64 0, .int .i64 0, .int .i64 0, .int .i64 0, .int .i64 0, .string { data := #[] }, .slice none 0 0], .bool false]) (by simp [results, Try.f18, go_sem, u0, u1, u2, u3, u4, u5, u6, u7, u8]) rfl ?_
    exact ⟨fun a ha => (by rw [HUU.out] at ha; cases ha), fun _ => ⟨rfl, (HB3.out.trans (hB _ (by rw [HPE.out]; exact Nat.le_refl _))).trans (hb10.mono (Nat.le_trans HB3.out.size (hB pr (Nat.le_refl _)).size))⟩⟩
  · by_cases hz : ns = 0
    · subst hz
      have hu : unXA bs = some ⟨a1, a2, a3, a4, a5, a6, a7, a8, a9⟩ := by rw [HUN.out, if_pos ⟨rfl, List.eq_nil_of_length_eq_zero (HNS.out)⟩]
      have HUU := Lib.hid hu
      clear hu
      have z0 := cell_at HR4.out 0
      have f0 := frozen_at HR4.out 0
      have z1 := cell_at HR4.out 1
      have f1 := frozen_at HR4.out 1
      have z2 := cell_at HR4.out 2
      have f2 := frozen_at HR4.out 2
      have z3 := cell_at HR4.out 3
      have f3 := frozen_at HR4.out 3
      have z4 := cell_at HR4.out 4
      have f4 := frozen_at HR4.out 4
      have z5 := cell_at HR4.out 5
      have f5 := frozen_at HR4.out 5
      have z6 := cell_at HR4.out 6
      have f6 := frozen_at HR4.out 6
      have z7 := cell_at HR4.out 7
      have f7 := frozen_at HR4.out 7
      have z8 := cell_at HR4.out 8
      have f8 := frozen_at HR4.out 8
      have hrl2 : pr < w3.heap.size := by rw [HPB.out]; exact HPBL.out.1
      have v0 := cell_at hr3 0
      have vf0 := frozen_at hr3 0
      have v1 := cell_at hr3 1
      have vf1 := frozen_at hr3 1
      have v2 := cell_at hr3 2
      have vf2 := frozen_at hr3 2
      have v3 := cell_at hr3 3
      have vf3 := frozen_at hr3 3
      have v4 := cell_at hr3 4
      have vf4 := frozen_at hr3 4
      have v5 := cell_at hr3 5
      have vf5 := frozen_at hr3 5
      have v6 := cell_at hr3 6
      have vf6 := frozen_at hr3 6
      have v7 := cell_at hr3 7
      have vf7 := frozen_at hr3 7
      have v8 := cell_at hr3 8
      have vf8 := frozen_at hr3 8
      go_wp2_with fail
      obtain ⟨W9, h9, ⟨t0, t1, t2, t3, t4, t5, t6, t7, t8⟩, hc9, hF, hB⟩ := ask_store HR3.out (.int .i64 a1) (.int .i64 a2) (.int .i64 a3) (.int .i64 a4) (.int .i64 a5) (.int .i64 a6) (.int .i64 a7) (.string a8) (.slice Av m cv)
      rw [h9]
      have hb10 := (Below.refl W9.heap.size W9).alloc (Nat.le_refl _) (.cells #[.int .i64 a1, .int .i64 a2, .int .i64 a3, .int .i64 a4, .int .i64 a5, .int .i64 a6, .int .i64 a7, .string a8, .slice Av m cv] 24)
      have hc10 := block_alloc hc9 (.cells #[.int .i64 a1, .int .i64 a2, .int .i64 a3, .int .i64 a4, .int .i64 a5, .int .i64 a6, .int .i64 a7, .string a8, .slice Av m cv] 24)
      have hprl := lt_of_block hc9
      have u0 := cell_at hc10 0
      have u1 := cell_at hc10 1
      have u2 := cell_at hc10 2
      have u3 := cell_at hc10 3
      have u4 := cell_at hc10 4
      have u5 := cell_at hc10 5
      have u6 := cell_at hc10 6
      have u7 := cell_at hc10 7
      have u8 := cell_at hc10 8
      refine bodyPost_ret (v := .tuple #[.agg #[.int .i64 a1, .int .i64 a2, .int .i64 a3, .int .i64 a4, .int .i64 a5, .int .i64 a6, .int .i64 a7, .string a8, .slice Av m cv], .bool true]) (by simp [results, Try.f18, go_sem, u0, u1, u2, u3, u4, u5, u6, u7, u8]) rfl ?_
      refine ⟨fun a ha => ?_, fun h => by rw [HUU.out] at h; cases h⟩
      rw [HUU.out] at ha
      injection ha with ha
      subst ha
      exact ⟨Av, cv, by simp only; rw [HMM.out], by simp only; rw [HMM.out]; exact (HRD3.out.frame hF (fun hn a ha => by have := HAW.out hn a ha; simpa using this)).below hb10, (HB3.out.trans (hB _ (by rw [HPE.out]; exact Nat.le_refl _))).trans (hb10.mono (Nat.le_trans HB3.out.size (hB pr (Nat.le_refl _)).size))⟩
    · have hz2 : 0 < ns := by omega
      have hz3 : decide ((0 : Int) < (ns : Int)) = true := by simp; omega
      have hu : unXA bs = none := by rw [HUN.out, if_neg (by rintro ⟨_, h⟩; rw [h] at HNS; exact hz HNS.out.symm)]
      have HUU := Lib.hid hu
      clear hu
      have z0 := cell_at HR4.out 0
      have f0 := frozen_at HR4.out 0
      have z1 := cell_at HR4.out 1
      have f1 := frozen_at HR4.out 1
      have z2 := cell_at HR4.out 2
      have f2 := frozen_at HR4.out 2
      have z3 := cell_at HR4.out 3
      have f3 := frozen_at HR4.out 3
      have z4 := cell_at HR4.out 4
      have f4 := frozen_at HR4.out 4
      have z5 := cell_at HR4.out 5
      have f5 := frozen_at HR4.out 5
      have z6 := cell_at HR4.out 6
      have f6 := frozen_at HR4.out 6
      have z7 := cell_at HR4.out 7
      have f7 := frozen_at HR4.out 7
      have z8 := cell_at HR4.out 8
      have f8 := frozen_at HR4.out 8
      have hrl2 : pr < w3.heap.size := by rw [HPB.out]; exact HPBL.out.1
      have v0 := cell_at hr3 0
      have vf0 := frozen_at hr3 0
      have v1 := cell_at hr3 1
      have vf1 := frozen_at hr3 1
      have v2 := cell_at hr3 2
      have vf2 := frozen_at hr3 2
      have v3 := cell_at hr3 3
      have vf3 := frozen_at hr3 3
      have v4 := cell_at hr3 4
      have vf4 := frozen_at hr3 4
      have v5 := cell_at hr3 5
      have vf5 := frozen_at hr3 5
      have v6 := cell_at hr3 6
      have vf6 := frozen_at hr3 6
      have v7 := cell_at hr3 7
      have vf7 := frozen_at hr3 7
      have v8 := cell_at hr3 8
      have vf8 := frozen_at hr3 8
      go_wp2_with fail
      obtain ⟨W9, h9, ⟨t0, t1, t2, t3, t4, t5, t6, t7, t8⟩, hc9, hF, hB⟩ := ask_store HR3.out (.int .i64 0) (.int .i64 0) (.int .i64 0) (.int .i64 0) (.int .i64 0) (.int .i64 0) (.int .i64 0) (.string { data := #[] }) (.slice none 0 0)
      rw [h9]
      have hb10 := (Below.refl W9.heap.size W9).alloc (Nat.le_refl _) (.cells #[.int .i64 a1, .int .i64 a2, .int .i64 a3, .int .i64 a4, .int .i64 a5, .int .i64 a6, .int .i64 a7, .string a8, .slice Av m cv] 24)
      have hc10 := block_alloc hc9 (.cells #[.int .i64 a1, .int .i64 a2, .int .i64 a3, .int .i64 a4, .int .i64 a5, .int .i64 a6, .int .i64 a7, .string a8, .slice Av m cv] 24)
      have hprl := lt_of_block hc9
      have u0 := cell_at hc10 0
      have u1 := cell_at hc10 1
      have u2 := cell_at hc10 2
      have u3 := cell_at hc10 3
      have u4 := cell_at hc10 4
      have u5 := cell_at hc10 5
      have u6 := cell_at hc10 6
      have u7 := cell_at hc10 7
      have u8 := cell_at hc10 8
      refine bodyPost_ret (v := .tuple #[.agg #[.int .i64 0, .int .i64 0, .int .i64 0, .int .i64 0, .int .i64 0, .int .i64 0, .int .i64 0, .string { data := #[] }, .slice none 0 0], .bool false]) (by simp [results, Try.f18, go_sem, u0, u1, u2, u3, u4, u5, u6, u7, u8]) rfl ?_
      exact ⟨fun a ha => (by rw [HUU.out] at ha; cases ha), fun _ => ⟨rfl, (HB3.out.trans (hB _ (by rw [HPE.out]; exact Nat.le_refl _))).trans (hb10.mono (Nat.le_trans HB3.out.size (hB pr (Nat.le_refl _)).size))⟩⟩
end Go.Proofs.Ytjgdcdojigcefaa

namespace Go.Proofs.Ytjgdcdojigcefaa
open Go.ChangeShapes Go.WideShapes Go.ChangeAt Go.RowKit Go.Deep

theorem own : ownKnob Try.prog.godebug = none := by kernel_rfl
theorem laidOut : laidOutB Try.prog = true := by kernel_rfl

section
variable {H : Type} {enc : TypeId × Value → H} {P : Program}
theorem trodAll_below (hl : laidOutB P = true) {W W' : World} (hb : Below W.heap.size W W') : ∀ (ts : List TypeId), (∀ t ∈ ts, P.readableRec t = true ∧ t < P.types.size) → ∀ (vs : List Value) (ds : List (DataW H)) (ps : List MemPlace),
    DataW.TrodAll enc P W 0 (fun _ => true) true ts vs ds ps → (∀ x ∈ ps, x.block < W.heap.size) → DataW.TrodAll enc P W' 0 (fun b => decide (b < W.heap.size)) true ts vs ds ps
  | [], _, [], [], _, h, _ => h
  | [], _, _ :: _, _, _, h, _ => h.elim
  | [], _, [], _ :: _, _, h, _ => h.elim
  | _ :: _, _, [], _, _, h, _ => h.elim
  | _ :: _, _, _ :: _, [], _, h, _ => h.elim
  | t :: ts, hts, v :: vs, d :: ds, ps, h, hlt => by
    obtain ⟨p, q, h1, h2, rfl⟩ := h
    obtain ⟨hr, hrow⟩ := hts t (by simp)
    exact ⟨p, q, Below.trod hl hr hrow h1 hb (fun x hx => hlt x (by simp [hx])), trodAll_below hl hb ts (fun t ht => hts t (by simp [ht])) vs ds q h2 (fun x hx => hlt x (by simp [hx])), rfl⟩

/-- What a law owes behind its walk: it answered true, and nothing that was there has turned. -/
theorem post_true (hl : laidOutB P = true) {f : Func} {s : ChangeSpec} {W W' : World} {args : Array Value} {ds gs : List (DataW H)} {before : List MemPlace} {tb : TypeId}
    (hts : ∀ t ∈ f.params.toList, P.readableRec t = true ∧ t < P.types.size) (hrt : f.resultTypes = #[tb]) (hb : P.underlying tb = some .bool) (hvars : s.vars = [])
    (hres : (s.fn H (ds ++ gs)).results = [.lit (.bool true)]) (hargs : (s.fn H (ds ++ gs)).args = ds) (hsv : (s.fn H (ds ++ gs)).vars = [])
    (hW : DataW.Whole enc P f.params.toList s.vars false W args.toList ds gs before) (bel : Below W.heap.size W W') :
    s.post enc P f false true false false W args (.bool true) W' := by
  have hW' := hW
  obtain ⟨p, q, hA, hV, hpq, _⟩ := hW
  rw [hvars] at hV
  have hlt := hW'.lt
  obtain ⟨rfl, rfl⟩ := trodVars_none hV
  refine ⟨ds, [], before, [], p, [], hW', ?_, ?_, ?_, bel.frame _, fun h => by cases h⟩
  · rw [hres, hrt]
    exact trodAll_mk1 (shut_bool hb _)
  · rw [hargs]
    exact trodAll_below hl bel _ hts _ _ _ hA (fun x hx => hlt x (by rw [hpq]; simp [hx]))
  · rw [hvars, hsv]
    exact rfl
end

/-- A slice of integers that came in. -/
def IsRow (k : IntKind) (w : World) (a : Option Addr) (len cap : Nat) (zs : List Int) : Prop :=
  len ≤ cap ∧ cap ≤ maxLen ∧ Rd w 1 a len (zs.map (Value.int k)) ∧ ∀ n ∈ zs, (Lit.int k n).wf = true

theorem IsRow.length {k : IntKind} {w : World} {a : Option Addr} {len cap : Nat} {zs : List Int} (h : IsRow k w a len cap zs) : zs.length = len := by
  have := h.2.2.1.1
  simpa using this
theorem IsRow.at_ {k : IntKind} {w : World} {a : Option Addr} {len cap : Nat} {zs : List Int} (h : IsRow k w a len cap zs) (hi : 0 < len) : ∃ g o, a = some ⟨g, o, none⟩ ∧ g < w.heap.size ∧ ∀ i (h : i < zs.length), w.cell? ⟨g, o + i, none⟩ = some (.int k zs[i]) := by
  obtain ⟨g, o, ha, hg, hc⟩ := h.2.2.1.2 hi
  exact ⟨g, o, ha, hg, fun i hi => hc i _ (by simp [hi])⟩
theorem IsRow.below {k : IntKind} {w w' : World} {a : Option Addr} {len cap : Nat} {zs : List Int} (h : IsRow k w a len cap zs) (hb : Below w.heap.size w w') : IsRow k w' a len cap zs :=
  ⟨h.1, h.2.1, h.2.2.1.below hb, h.2.2.2⟩

section
variable {H : Type} {enc : TypeId × Value → H} {P : Program} {w : World}
theorem open_row {t e : TypeId} {k : IntKind} {v : Value} {base : Nat} {d : DataW H} {p : List MemPlace} (ht : P.underlying t = some (.slice e)) (he : P.underlying e = some (.int k)) (hC : P.cellsOf e = 1)
    (hv : Value.okWide P w .any base t v) (h : DataW.Trod enc P w 0 (fun _ => true) true t v d p) : ∃ a len cap zs, v = .slice a len cap ∧ IsRow k w a len cap zs := by
  obtain ⟨a0, len0, cap0, rfl⟩ := okWide_slice ht hv
  obtain ⟨fuel, hf⟩ := h
  rcases open_ints ht he hC hf with ⟨hcs, _⟩ | ⟨x, l, c, zs, hcs, _, hl, hm, hz, _, hcell, hwz⟩
  · simp [Value.cells] at hcs
    obtain ⟨rfl, rfl, rfl⟩ := hcs
    exact ⟨_, _, _, [], rfl, Nat.le_refl _, Nat.zero_le _, Rd.nil, by simp⟩
  · simp [Value.cells] at hcs
    obtain ⟨rfl, rfl, rfl⟩ := hcs
    have hz' : zs.length = cap0 := by simpa using hz
    refine ⟨_, _, _, zs.take len0, rfl, hl, hm, ⟨by simp; omega, fun hn => ?_⟩, fun n hn => hwz n (List.mem_of_mem_take hn)⟩
    obtain ⟨g, o, s⟩ := x
    have hc := hcell 0 (by omega)
    have hspot : s = none := by simpa [Addr.add] using World.cell?_spot hc
    subst hspot
    refine ⟨g, o, rfl, by simpa [Addr.add] using World.block_lt_of_cell? w _ hc, fun j u hu => ?_⟩
    have hj : j < zs.length ∧ j < len0 := by
      have := (List.getElem?_eq_some_iff.1 hu).1
      simp at this
      omega
    have hcj := hcell j hj.1
    rw [List.getElem?_map, List.getElem?_take, if_pos hj.2, List.getElem?_eq_getElem hj.1] at hu
    simp only [Option.map_some, Option.some.injEq] at hu
    rw [← hu]
    have e : (⟨g, o, none⟩ : Addr).add j = ⟨g, o + j, none⟩ := by unfold Addr.add; split <;> simp_all
    rw [e] at hcj
    rw [hcj]
    simp [List.getD, hj.1]
end

end Go.Proofs.Ytjgdcdojigcefaa

namespace Go.Proofs.Ytjgdcdojigcefaa
open Go.ChangeShapes Go.WideShapes Go.ChangeAt Go.RowKit Go.Deep

theorem add_none (g o j : Nat) : (⟨g, o, none⟩ : Addr).add j = ⟨g, o + j, none⟩ := by unfold Addr.add; split <;> simp_all
theorem flatMap_at' {α : Type} (enc : α → List Value) (size : Nat) (h : ∀ x, (enc x).length = size) (zs : List α) (i j : Nat) (hi : i < zs.length) (hj : j < size) : (zs.flatMap enc)[i * size + j]? = (enc zs[i])[j]? := by
  induction zs generalizing i with
  | nil => simp at hi
  | cons z zs ih =>
    cases i with
    | zero =>
      rw [List.flatMap_cons, List.getElem?_append_left (by rw [h]; omega)]
      simp
    | succ i =>
      rw [List.flatMap_cons, List.getElem?_append_right (by rw [h, Nat.succ_mul]; omega), h, show (i + 1) * size + j - size = i * size + j from by rw [Nat.succ_mul]; omega, ih i (by simpa using hi)]
      simp
theorem flatMap_len' {α : Type} (enc : α → List Value) (size : Nat) (h : ∀ x, (enc x).length = size) (zs : List α) : (zs.flatMap enc).length = zs.length * size := by
  induction zs with
  | nil => simp
  | cons z zs ih => rw [List.flatMap_cons, List.length_append, h, ih, List.length_cons, Nat.succ_mul]; omega

section
variable {H : Type} {enc : TypeId × Value → H} {P : Program} {w : World} {base : Nat} {held : Bool}
theorem choose_list {α : Type} (p : Nat → α → Prop) : ∀ n, (∀ i, i < n → ∃ z, p i z) → ∃ zs : List α, zs.length = n ∧ ∀ i (h : i < zs.length), p i zs[i]
  | 0, _ => ⟨[], rfl, fun i h => absurd h (by simp)⟩
  | n + 1, h => by
    obtain ⟨zs, hl, hz⟩ := choose_list p n (fun i hi => h i (by omega))
    obtain ⟨z, hp⟩ := h n (by omega)
    refine ⟨zs ++ [z], by simp [hl], fun i hi => ?_⟩
    by_cases hin : i < zs.length
    · rw [List.getElem_append_left hin]; exact hz i hin
    · have : i = n := by simp at hi; omega
      subst this
      rw [List.getElem_append_right (by omega)]
      simpa [hl] using hp
/-- A slice, opened: 'hel' opens an element. -/
theorem open_list {α : Type} {t e : TypeId} {size fuel : Nat} {cs : List Value} {x : DataW H × List MemPlace} (ht : P.underlying t = some (.slice e)) (hC : P.cellsOf e = size) (hs : 0 < size) (encE : α → List Value) (Good : α → Prop) (hlen : ∀ z, (encE z).length = size)
    (hel : ∀ n cs x, DataW.trod enc P w base (fun _ => true) held n e cs = some x → (∀ m ∈ x.1.weights P e, m ≤ reachBytes) → ∃ z, cs = encE z ∧ Good z)
    (h : DataW.trod enc P w base (fun _ => true) held fuel t cs = some x) (hw : ∀ m ∈ x.1.weights P t, m ≤ reachBytes) :
    ∃ (A : Option Addr) (c : Nat) (zs : List α), cs = [.slice A zs.length c] ∧ zs.length ≤ c ∧ c * P.bytesOf e ≤ reachBytes ∧ c ≤ maxLen ∧ SlA A c ∧ Rd w size A zs.length (zs.flatMap encE) ∧ ∀ z ∈ zs, Good z := by
  rcases open_slice ht h with ⟨hcs, hx⟩ | ⟨a, len, cap, m, n, D, Pl, hcs, hb, hl, hm, hmm, hx, hi⟩
  · exact ⟨none, 0, [], hcs, Nat.le_refl _, by simp, Nat.zero_le _, .inl rfl, Rd.nil, by simp⟩
  · have hmc : m = cap := by simpa using hmm
    subst hmc
    subst hx
    have hwe : ∀ q, q ∈ DataW.weightsAll P e ((List.range len).map D) → q ≤ reachBytes := fun q hq => hw q (by simp [DataW.weights, ht, hq])
    have hall : ∀ (l : List (DataW H)) (d : DataW H), d ∈ l → ∀ q ∈ d.weights P e, q ∈ DataW.weightsAll P e l := by
      intro l
      induction l with
      | nil => intro d hd; simp at hd
      | cons d' l ih =>
        intro d hd q hq
        rw [DataW.weightsAll]
        rcases List.mem_cons.1 hd with e | e
        · subst e; exact List.mem_append_left _ hq
        · exact List.mem_append_right _ (ih d e q hq)
    rw [hC] at hi
    have hcell : ∀ i, i < m → ∃ cs', w.cells? base (a.add (i * size)) size = some cs' ∧ DataW.trod enc P w base (fun _ => true) held n e cs' = some (D i, Pl i) := hi
    obtain ⟨zs, hzl, hz⟩ := choose_list (fun i (z : α) => w.cells? base (a.add (i * size)) size = some (encE z) ∧ Good z) len (fun i hil => by
      obtain ⟨cs', h1, h2⟩ := hcell i (by omega)
      obtain ⟨z, rfl, hg⟩ := hel n cs' _ h2 (fun q hq => hwe q (hall _ (D i) (List.mem_map.2 ⟨i, by simpa using hil, rfl⟩) q hq))
      exact ⟨z, h1, hg⟩)
    have hspot : 0 < m → ∃ g o, a = ⟨g, o, none⟩ ∧ g < w.heap.size := fun h0 => by
      obtain ⟨cs', h1, _⟩ := hcell 0 h0
      obtain ⟨_, hcl, hat⟩ := World.cells?_some h1
      have h2 := hat 0 hs
      obtain ⟨g, o, s⟩ := a
      have hc0 : cs'[0]? = some (cs'[0]'(by omega)) := List.getElem?_eq_getElem (by omega)
      rw [hc0] at h2
      have e0 : (⟨g, o, s⟩ : Addr).add (0 * size) = ⟨g, o, s⟩ := by cases s <;> simp [Addr.add]
      rw [e0] at h2
      have e1 : (⟨g, o, s⟩ : Addr).add 0 = ⟨g, o, s⟩ := by cases s <;> simp [Addr.add]
      rw [e1] at h2
      have hsp : s = none := by simpa using World.cell?_spot h2
      subst hsp
      exact ⟨g, o, rfl, by simpa using World.block_lt_of_cell? w _ h2⟩
    subst hzl
    refine ⟨some a, m, zs, hcs, hl, ?_, hm, ?_, ⟨flatMap_len' encE size hlen zs, fun h0 => ?_⟩, fun z hzm => ?_⟩
    · have e0 : zs.length + (m - zs.length) = m := by omega
      exact hw (m * P.bytesOf e) (by simp [DataW.weights, ht, e0])
    · by_cases h0 : m = 0
      · exact .inl h0
      · obtain ⟨g, o, rfl, _⟩ := hspot (by omega)
        exact .inr ⟨g, o, rfl⟩
    · obtain ⟨g, o, rfl, hg⟩ := hspot (by omega)
      refine ⟨g, o, rfl, hg, fun j u hu => ?_⟩
      have hj : j < zs.length * size := by
        have := (List.getElem?_eq_some_iff.1 hu).1
        rwa [flatMap_len' encE size hlen] at this
      have hji : j / size < zs.length := by rw [Nat.div_lt_iff_lt_mul hs]; exact hj
      obtain ⟨h1, _⟩ := hz (j / size) hji
      obtain ⟨_, hcl, hat⟩ := World.cells?_some h1
      have h2 := hat (j % size) (Nat.mod_lt _ hs)
      have e1 : j / size * size + j % size = j := by rw [Nat.mul_comm]; exact Nat.div_add_mod j size
      have h3 := flatMap_at' encE size hlen zs (j / size) (j % size) hji (Nat.mod_lt _ hs)
      rw [e1, hu] at h3
      rw [← h3, add_add, e1] at h2
      rwa [add_none] at h2
    · obtain ⟨i, hil, rfl⟩ := List.getElem_of_mem hzm
      exact (hz i hil).2

theorem trod_str {t : TypeId} {fuel : Nat} {cs : List Value} {x : DataW H × List MemPlace} (ht : P.underlying t = some .string) (h : DataW.trod enc P w base (fun _ => true) held fuel t cs = some x) (hw : ∀ m ∈ x.1.weights P t, m ≤ reachBytes) :
    ∃ s : ByteArray, cs = [.string s] ∧ s.size ≤ 140737488351232 := by
  obtain ⟨s, h1, h2, _⟩ := DataW.trod_string ht h
  refine ⟨s, h1, ?_⟩
  have := hw s.data.toList.length (by rw [h2]; simp [DataW.weights])
  unfold reachBytes at this
  have e : s.data.toList.length = s.size := by simp
  omega
theorem trod_i64 {t : TypeId} {fuel : Nat} {cs : List Value} {x : DataW H × List MemPlace} (ht : P.underlying t = some (.int .i64)) (h : DataW.trod enc P w base (fun _ => true) held fuel t cs = some x) : ∃ n : Int, cs = [.int .i64 n] ∧ -9223372036854775808 ≤ n ∧ n ≤ 9223372036854775807 := by
  obtain ⟨n, h1, _, h2⟩ := DataW.trod_int ht h
  exact ⟨n, h1, bounds_i64 h2⟩
theorem open_i64 {t : TypeId} {v : Value} {b0 : Nat} {d : DataW H} {p : List MemPlace} (ht : P.underlying t = some (.int .i64))
    (hv : Value.okWide P w .any b0 t v) (h : DataW.Trod enc P w base (fun _ => true) held t v d p) : ∃ n : Int, v = .int .i64 n ∧ -9223372036854775808 ≤ n ∧ n ≤ 9223372036854775807 := by
  obtain ⟨fuel, hf⟩ := h
  obtain ⟨n, h1, h2⟩ := trod_i64 ht hf
  refine ⟨n, ?_, h2⟩
  obtain ⟨m, rfl⟩ := okWide_int ht hv
  simpa [Value.cells] using h1
/-- The weights of one argument. -/
theorem weights_at {ts : List TypeId} {ds : List (DataW H)} (h : (DataW.weightsEach P ts ds).all (· ≤ reachBytes) = true) {j : Nat} {t : TypeId} {d : DataW H} (ht : ts[j]? = some t) (hd : ds[j]? = some d) : ∀ m ∈ d.weights P t, m ≤ reachBytes := by
  intro m hm
  have := List.all_eq_true.1 h m (DataW.weights_mem_each ht hd m hm)
  simpa using this
end
end Go.Proofs.Ytjgdcdojigcefaa

namespace Go.Proofs.Ytjgdcdojigcefaa
open Go.ChangeShapes Go.WideShapes Go.ChangeAt Go.RowKit Go.Deep

section
variable {H : Type} {enc : TypeId × Value → H} {P : Program} {w : World} {base : Nat} {held : Bool}
theorem map_flat : ∀ zs : List Nat, zs.map u8v = zs.flatMap (fun b => [u8v b])
  | [] => rfl
  | z :: zs => by rw [List.map_cons, List.flatMap_cons, map_flat zs]; rfl
/-- Bytes that came in. -/
def IsBy (w : World) (A : Option Addr) (c : Nat) (bs : List Nat) : Prop := bs.length ≤ c ∧ c ≤ 140737488351232 ∧ Rd w 1 A bs.length (bs.map u8v) ∧ (∀ b ∈ bs, b < 256) ∧ SlA A c
theorem IsBy.bs {w : World} {A : Option Addr} {c : Nat} {bs : List Nat} (h : IsBy w A c bs) : Bs w (.slice A bs.length c) bs := ⟨A, c, rfl, h.1, by have := h.2.1; unfold maxLen; omega, h.2.2.1⟩
theorem IsBy.below {w w' : World} {A : Option Addr} {c : Nat} {bs : List Nat} (h : IsBy w A c bs) (b : Below w.heap.size w w') : IsBy w' A c bs := ⟨h.1, h.2.1, h.2.2.1.below b, h.2.2.2⟩
theorem IsBy.frame {w w' : World} {A : Option Addr} {c : Nat} {bs : List Nat} {S : List Nat} (h : IsBy w A c bs) (f : Fr 0 [] S w w') (hS : 0 < bs.length → ∀ a, A = some a → a.block ∉ S) : IsBy w' A c bs := ⟨h.1, h.2.1, h.2.2.1.frame f hS, h.2.2.2⟩

theorem trod_bytes {t e : TypeId} {fuel : Nat} {cs : List Value} {x : DataW H × List MemPlace} (ht : P.underlying t = some (.slice e)) (he : P.underlying e = some (.int .u8)) (hC : P.cellsOf e = 1) (hB : P.bytesOf e = 1)
    (h : DataW.trod enc P w base (fun _ => true) held fuel t cs = some x) (hw : ∀ m ∈ x.1.weights P t, m ≤ reachBytes) : ∃ A c bs, cs = [.slice A bs.length c] ∧ IsBy w A c bs := by
  obtain ⟨A, c, zs, h1, h2, h3, h4, h5, h6, h7⟩ := open_list (α := Nat) ht hC (by omega) (fun b => [u8v b]) (fun b => b < 256) (fun _ => rfl) (fun n cs x hx _ => by
    obtain ⟨z, rfl, _, hz⟩ := DataW.trod_int he hx
    have := bounds_u8 hz
    obtain ⟨m, rfl⟩ : ∃ m : Nat, z = m := ⟨z.toNat, by omega⟩
    exact ⟨m, rfl, by omega⟩) h hw
  rw [hB] at h3
  refine ⟨A, c, zs, h1, h2, by unfold reachBytes at h3; omega, ?_, h7, h5⟩
  rw [map_flat zs]
  exact h6
theorem open_bytes {t e : TypeId} {v : Value} {b0 : Nat} {d : DataW H} {p : List MemPlace} (ht : P.underlying t = some (.slice e)) (he : P.underlying e = some (.int .u8)) (hC : P.cellsOf e = 1) (hB : P.bytesOf e = 1)
    (hv : Value.okWide P w .any b0 t v) (h : DataW.Trod enc P w base (fun _ => true) held t v d p) (hw : ∀ m ∈ d.weights P t, m ≤ reachBytes) : ∃ A c bs, v = .slice A bs.length c ∧ IsBy w A c bs := by
  obtain ⟨a0, len0, cap0, rfl⟩ := okWide_slice ht hv
  obtain ⟨fuel, hf⟩ := h
  obtain ⟨A, c, bs, h1, h2⟩ := trod_bytes ht he hC hB hf hw
  simp [Value.cells] at h1
  obtain ⟨rfl, rfl, rfl⟩ := h1
  exact ⟨_, _, bs, rfl, h2⟩
end
end Go.Proofs.Ytjgdcdojigcefaa
