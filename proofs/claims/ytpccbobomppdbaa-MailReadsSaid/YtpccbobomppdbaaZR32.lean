/- Joined: The reference's Decode of a request. What the reference's Decode of a mail rests on. -/
import Derived.Test.YtpccbobomppdbaaZR31
import Derived.Test.YtpccbobomppdbaaZR28
import Derived.Test.YtpccbobomppdbaaZR21
import Derived.Deep.Cut
namespace Go.Proofs.Ytpccbobomppdbaa
open Go.RowKit

/-- The reference's taker of what came in. -/
theorem ist_arg {w W : World} {A : Option Addr} {c p : Nat} {bs : List Nat} {T : TypeId} (h1 : bs.length ≤ c) (h2 : c ≤ maxLen) (h3 : Rd w 1 A bs.length (bs.map u8v)) (h4 : ∀ b ∈ bs, b < 256) (h5 : SlA A c) (hb : Below w.heap.size w W) (hp : W.heap[p]? = some (.cells #[.slice A bs.length c, .bool false] T (0, 0))) :
    ∃ D : Option Nat, IsT W T p D (bs, false) ∧ ∀ d, D = some d → d < w.heap.size := by
  refine ⟨if 0 < bs.length then A.map (·.block) else none, ⟨A, c, hp, h1, h2, h3.below hb, fun hn a ha => ?_, h4, h5⟩, fun d hd => ?_⟩
  · simp only at hn
    rw [if_pos hn, ha]; rfl
  · split at hd
    · rename_i hn
      obtain ⟨g, o, e, hg, _⟩ := h3.2 hn
      rw [e] at hd
      simp at hd
      omega
    · cases hd
def RetDecX (w : World) (r : Option Ak) (e : Ending) (W : World) : Prop :=
  (∀ a, r = some a → ∃ A c, e = .returned (.tuple #[akV a (.slice A a.items.length c), .bool true]) ∧ Rd W 2 A a.items.length (a.items.flatMap encI) ∧ Below w.heap.size w W) ∧
  (r = none → e = .returned (.tuple #[akV zeroA (.slice none 0 0), .bool false]) ∧ Below w.heap.size w W)
set_option maxRecDepth 100000 in
set_option maxHeartbeats 4000000 in
theorem xadec_any (A : Option Addr) (c : Nat) (bs : List Nat) (w : World) (h1 : bs.length ≤ c) (h2 : c ≤ maxLen) (h3 : Rd w 1 A bs.length (bs.map u8v)) (h4 : ∀ b ∈ bs, b < 256) (h5 : SlA A c) :
    Calls Try.prog 51 #[.slice A bs.length c] w (RetDecX w (unXA bs)) := by
  have HUN : Hid (unXA bs = if xokA (bs, false) = true ∧ (x4A (bs, false)).2.1 = [] then some (xA (bs, false)) else none) := Lib.hid rfl
  have hb1 := (Below.refl w.heap.size w).alloc (Nat.le_refl _) (.cells #[.int .i64 0, .int .i64 0, .int .i64 0, .int .i64 0, .int .i64 0, .int .i64 0, .int .i64 0, .string { data := #[] }, .slice none 0 0] 24)
  have hb2 := hb1.alloc hb1.size (.cells #[.slice A bs.length c, .bool false] 82)
  have kr := block_alloc (block_new w (.cells #[.int .i64 0, .int .i64 0, .int .i64 0, .int .i64 0, .int .i64 0, .int .i64 0, .int .i64 0, .string { data := #[] }, .slice none 0 0] 24)) (.cells #[.slice A bs.length c, .bool false] 82)
  have kq := block_new (w.alloc (.cells #[.int .i64 0, .int .i64 0, .int .i64 0, .int .i64 0, .int .i64 0, .int .i64 0, .int .i64 0, .string { data := #[] }, .slice none 0 0] 24)) (.cells #[.slice A bs.length c, .bool false] 82)
  simp only [World.size_alloc] at kq
  obtain ⟨pr, hpr⟩ : ∃ pr, w.heap.size = pr := ⟨_, rfl⟩
  obtain ⟨W2, hW2⟩ : ∃ W2, (w.alloc (.cells #[.int .i64 0, .int .i64 0, .int .i64 0, .int .i64 0, .int .i64 0, .int .i64 0, .int .i64 0, .string { data := #[] }, .slice none 0 0] 24)).alloc (.cells #[.slice A bs.length c, .bool false] 82) = W2 := ⟨_, rfl⟩
  rw [hW2] at hb2 kr kq
  rw [hpr] at kr kq
  obtain ⟨D, hT, hD⟩ := ist_arg h1 h2 h3 h4 h5 hb2 kq
  have HRD := Lib.hid (xaread_any (pr + 1) D (bs, false) W2 hT (fun e => by have := hD _ e; omega) (fun d hd => Nat.lt_of_lt_of_le (hD d hd) hb2.size))
  obtain ⟨ak, hak⟩ : ∃ ak, xA (bs, false) = ak := ⟨_, rfl⟩
  obtain ⟨OK, hOK⟩ : ∃ OK, xokA (bs, false) = OK := ⟨_, rfl⟩
  obtain ⟨s2, hs2⟩ : ∃ s2, (x4A (bs, false)).2 = s2 := ⟨_, rfl⟩
  rw [hak, hOK, hs2] at HUN HRD
  have HB2 := Lib.hid hb2
  have HKR := Lib.hid kr
  have HPE := Lib.hid hpr
  have HW2 := Lib.hid hW2
  obtain ⟨nb, hnb⟩ : ∃ nb, bs.length = nb := ⟨_, rfl⟩
  rw [hnb] at HW2 ⊢
  clear h1 h2 h3 h4 h5 hb1 hb2 kr kq hpr hW2 hT hD hak hOK hs2 hnb
  go_enter Try.func51, Try.ntmps51
  go_wp2_with fail
  rw [HW2.out, HPE.out]
  refine HRD.out.mono ?_
  rintro e w3 ⟨Av, cv, rfl, hrd, hl16, hx, haw0⟩
  obtain ⟨a1, a2, a3, a4, a5, a6, a7, a8, a9⟩ := ak
  simp only at hrd hl16 ⊢
  obtain ⟨m, hm⟩ : ∃ m, a9.length = m := ⟨_, rfl⟩
  have HMM := Lib.hid hm
  rw [hm] at hrd hl16 ⊢
  have hr3 := hx.2.keep0 HKR.out (by simp)
  have hk2 := lt_of_block HKR.out
  have haw : 0 < m → ∀ a, Av = some a → a.block ≠ pr := fun _ a ha => by have := haw0 a ha; omega
  obtain ⟨⟨Aq, cq, hq3, hqc, hqm, _⟩, hf⟩ := hx
  have hqc2 : s2.1.length ≤ 9223372036854775807 := by unfold maxLen at hqm; omega
  obtain ⟨pb, hpb⟩ : ∃ pb, w3.heap.size = pb := ⟨_, rfl⟩
  have hrl : pr < pb ∧ pr + 1 < pb := by rw [← hpb]; exact ⟨lt_of_block hr3, lt_of_block hq3⟩
  have hb4 := (Below.refl w3.heap.size w3).alloc (Nat.le_refl _) (.cells #[.int .i64 a1, .int .i64 a2, .int .i64 a3, .int .i64 a4, .int .i64 a5, .int .i64 a6, .int .i64 a7, .string a8, .slice Av m cv] 24)
  have kb := block_new w3 (.cells #[.int .i64 a1, .int .i64 a2, .int .i64 a3, .int .i64 a4, .int .i64 a5, .int .i64 a6, .int .i64 a7, .string a8, .slice Av m cv] 24)
  rw [hpb] at kb
  have HRD3 := Lib.hid hrd
  have HB3 := Lib.hid (HB2.out.trans (hf.belowT (p := pr + 1) (by rw [HPE.out]; omega) HB2.out.size))
  have HR3 := Lib.hid hr3
  have HR4 := Lib.hid ((hb4.block _ (lt_of_block hr3)).trans hr3)
  have HQ4 := Lib.hid ((hb4.block _ (lt_of_block hq3)).trans hq3)
  have HPBL := Lib.hid hrl
  have HKB := Lib.hid kb
  have HRG : Hid (0 < m → ∀ a, Av = some a → a.block < pb) := Lib.hid (fun hn a ha => by
    obtain ⟨g, o, e, hg, _⟩ := hrd.2 hn
    rw [e] at ha
    cases ha
    rw [← hpb]
    exact hg)
  have HPB := Lib.hid hpb
  have x0 := cell_at hq3 0
  have hq0 := cell_at HQ4.out 0
  obtain ⟨ns, hns⟩ : ∃ ns, s2.1.length = ns := ⟨_, rfl⟩
  have HNS := Lib.hid hns
  have hql : pr + 1 < w3.heap.size := by rw [hpb]; exact hrl.2
  rw [hns] at x0 hq0 hqc2
  have HAW : Hid (0 < m → ∀ a, Av = some a → a.block ≠ pr) := Lib.hid haw
  clear hrd hf hqc hqm hb4 hm hns kb haw haw0 hk2
  cases OK
  · clear hq0 x0
    have hu : unXA bs = none := by rw [HUN.out, if_neg (by simp)]
    have HUU := Lib.hid hu
    clear hu
    have z0 := cell_at HR4.out 0
    have f0 := frozen_at HR4.out 0
    have z1 := cell_at HR4.out 1
    have f1 := frozen_at HR4.out 1
    have z2 := cell_at HR4.out 2
    have f2 := frozen_at HR4.out 2
    have z3 := cell_at HR4.out 3
    have f3 := frozen_at HR4.out 3
    have z4 := cell_at HR4.out 4
    have f4 := frozen_at HR4.out 4
    have z5 := cell_at HR4.out 5
    have f5 := frozen_at HR4.out 5
    have z6 := cell_at HR4.out 6
    have f6 := frozen_at HR4.out 6
    have z7 := cell_at HR4.out 7
    have f7 := frozen_at HR4.out 7
    have z8 := cell_at HR4.out 8
    have f8 := frozen_at HR4.out 8
    have hrl2 : pr < w3.heap.size := by rw [HPB.out]; exact HPBL.out.1
    have v0 := cell_at hr3 0
    have vf0 := frozen_at hr3 0
    have v1 := cell_at hr3 1
    have vf1 := frozen_at hr3 1
    have v2 := cell_at hr3 2
    have vf2 := frozen_at hr3 2
    have v3 := cell_at hr3 3
    have vf3 := frozen_at hr3 3
    have v4 := cell_at hr3 4
    have vf4 := frozen_at hr3 4
    have v5 := cell_at hr3 5
    have vf5 := frozen_at hr3 5
    have v6 := cell_at hr3 6
    have vf6 := frozen_at hr3 6
    have v7 := cell_at hr3 7
    have vf7 := frozen_at hr3 7
    have v8 := cell_at hr3 8
    have vf8 := frozen_at hr3 8
    go_wp2_with fail
    obtain ⟨W9, h9, ⟨t0, t1, t2, t3, t4, t5, t6, t7, t8⟩, hc9, hF, hB⟩ := ask_store HR3.out (.int .i64 0) (.int .i64 0) (.int .i64 0) (.int .i64 0) (.int .i64 0) (.int .i64 0) (.int .i64 0) (.string { data := #[] }) (.slice none 0 0)
    rw [h9]
    have hb10 := (Below.refl W9.heap.size W9).alloc (Nat.le_refl _) (.cells #[.int .i64 a1, .int .i64 a2, .int .i64 a3, .int .i64 a4, .int .i64 a5, .int .i64 a6, .int .i64 a7, .string a8, .slice Av m cv] 24)
    have hc10 := block_alloc hc9 (.cells #[.int .i64 a1, .int .i64 a2, .int .i64 a3, .int .i64 a4, .int .i64 a5, .int .i64 a6, .int .i64 a7, .string a8, .slice Av m cv] 24)
    have hprl := lt_of_block hc9
    have u0 := cell_at hc10 0
    have u1 := cell_at hc10 1
    have u2 := cell_at hc10 2
    have u3 := cell_at hc10 3
    have u4 := cell_at hc10 4
    have u5 := cell_at hc10 5
    have u6 := cell_at hc10 6
    have u7 := cell_at hc10 7
    have u8 := cell_at hc10 8
    refine bodyPost_ret (v := .tuple #[.agg #[.int .i64 0, .int .i64 0, .int .i64 0, .int .i64 0, .int .i64 0, .int .i64 0, .int .i64 0, .string { data := #[] }, .slice none 0 0], .bool false]) (by simp [results, Try.f51, go_sem, u0, u1, u2, u3, u4, u5, u6, u7, u8]) rfl ?_
    exact ⟨fun a ha => (by rw [HUU.out] at ha; cases ha), fun _ => ⟨rfl, (HB3.out.trans (hB _ (by rw [HPE.out]; exact Nat.le_refl _))).trans (hb10.mono (Nat.le_trans HB3.out.size (hB pr (Nat.le_refl _)).size))⟩⟩
  · by_cases hz : ns = 0
    · subst hz
      have hu : unXA bs = some ⟨a1, a2, a3, a4, a5, a6, a7, a8, a9⟩ := by rw [HUN.out, if_pos ⟨rfl, List.eq_nil_of_length_eq_zero (HNS.out)⟩]
      have HUU := Lib.hid hu
      clear hu
      have z0 := cell_at HR4.out 0
      have f0 := frozen_at HR4.out 0
      have z1 := cell_at HR4.out 1
      have f1 := frozen_at HR4.out 1
      have z2 := cell_at HR4.out 2
      have f2 := frozen_at HR4.out 2
      have z3 := cell_at HR4.out 3
      have f3 := frozen_at HR4.out 3
      have z4 := cell_at HR4.out 4
      have f4 := frozen_at HR4.out 4
      have z5 := cell_at HR4.out 5
      have f5 := frozen_at HR4.out 5
      have z6 := cell_at HR4.out 6
      have f6 := frozen_at HR4.out 6
      have z7 := cell_at HR4.out 7
      have f7 := frozen_at HR4.out 7
      have z8 := cell_at HR4.out 8
      have f8 := frozen_at HR4.out 8
      have hrl2 : pr < w3.heap.size := by rw [HPB.out]; exact HPBL.out.1
      have v0 := cell_at hr3 0
      have vf0 := frozen_at hr3 0
      have v1 := cell_at hr3 1
      have vf1 := frozen_at hr3 1
      have v2 := cell_at hr3 2
      have vf2 := frozen_at hr3 2
      have v3 := cell_at hr3 3
      have vf3 := frozen_at hr3 3
      have v4 := cell_at hr3 4
      have vf4 := frozen_at hr3 4
      have v5 := cell_at hr3 5
      have vf5 := frozen_at hr3 5
      have v6 := cell_at hr3 6
      have vf6 := frozen_at hr3 6
      have v7 := cell_at hr3 7
      have vf7 := frozen_at hr3 7
      have v8 := cell_at hr3 8
      have vf8 := frozen_at hr3 8
      go_wp2_with fail
      obtain ⟨W9, h9, ⟨t0, t1, t2, t3, t4, t5, t6, t7, t8⟩, hc9, hF, hB⟩ := ask_store HR3.out (.int .i64 a1) (.int .i64 a2) (.int .i64 a3) (.int .i64 a4) (.int .i64 a5) (.int .i64 a6) (.int .i64 a7) (.string a8) (.slice Av m cv)
      rw [h9]
      have hb10 := (Below.refl W9.heap.size W9).alloc (Nat.le_refl _) (.cells #[.int .i64 a1, .int .i64 a2, .int .i64 a3, .int .i64 a4, .int .i64 a5, .int .i64 a6, .int .i64 a7, .string a8, .slice Av m cv] 24)
      have hc10 := block_alloc hc9 (.cells #[.int .i64 a1, .int .i64 a2, .int .i64 a3, .int .i64 a4, .int .i64 a5, .int .i64 a6, .int .i64 a7, .string a8, .slice Av m cv] 24)
      have hprl := lt_of_block hc9
      have u0 := cell_at hc10 0
      have u1 := cell_at hc10 1
      have u2 := cell_at hc10 2
      have u3 := cell_at hc10 3
      have u4 := cell_at hc10 4
      have u5 := cell_at hc10 5
      have u6 := cell_at hc10 6
      have u7 := cell_at hc10 7
      have u8 := cell_at hc10 8
      refine bodyPost_ret (v := .tuple #[.agg #[.int .i64 a1, .int .i64 a2, .int .i64 a3, .int .i64 a4, .int .i64 a5, .int .i64 a6, .int .i64 a7, .string a8, .slice Av m cv], .bool true]) (by simp [results, Try.f51, go_sem, u0, u1, u2, u3, u4, u5, u6, u7, u8]) rfl ?_
      refine ⟨fun a ha => ?_, fun h => by rw [HUU.out] at h; cases h⟩
      rw [HUU.out] at ha
      injection ha with ha
      subst ha
      exact ⟨Av, cv, by simp only; rw [HMM.out], by simp only; rw [HMM.out]; exact (HRD3.out.frame hF (fun hn a ha => by have := HAW.out hn a ha; simpa using this)).below hb10, (HB3.out.trans (hB _ (by rw [HPE.out]; exact Nat.le_refl _))).trans (hb10.mono (Nat.le_trans HB3.out.size (hB pr (Nat.le_refl _)).size))⟩
    · have hz2 : 0 < ns := by omega
      have hz3 : decide ((0 : Int) < (ns : Int)) = true := by simp; omega
      have hu : unXA bs = none := by rw [HUN.out, if_neg (by rintro ⟨_, h⟩; rw [h] at HNS; exact hz HNS.out.symm)]
      have HUU := Lib.hid hu
      clear hu
      have z0 := cell_at HR4.out 0
      have f0 := frozen_at HR4.out 0
      have z1 := cell_at HR4.out 1
      have f1 := frozen_at HR4.out 1
      have z2 := cell_at HR4.out 2
      have f2 := frozen_at HR4.out 2
      have z3 := cell_at HR4.out 3
      have f3 := frozen_at HR4.out 3
      have z4 := cell_at HR4.out 4
      have f4 := frozen_at HR4.out 4
      have z5 := cell_at HR4.out 5
      have f5 := frozen_at HR4.out 5
      have z6 := cell_at HR4.out 6
      have f6 := frozen_at HR4.out 6
      have z7 := cell_at HR4.out 7
      have f7 := frozen_at HR4.out 7
      have z8 := cell_at HR4.out 8
      have f8 := frozen_at HR4.out 8
      have hrl2 : pr < w3.heap.size := by rw [HPB.out]; exact HPBL.out.1
      have v0 := cell_at hr3 0
      have vf0 := frozen_at hr3 0
      have v1 := cell_at hr3 1
      have vf1 := frozen_at hr3 1
      have v2 := cell_at hr3 2
      have vf2 := frozen_at hr3 2
      have v3 := cell_at hr3 3
      have vf3 := frozen_at hr3 3
      have v4 := cell_at hr3 4
      have vf4 := frozen_at hr3 4
      have v5 := cell_at hr3 5
      have vf5 := frozen_at hr3 5
      have v6 := cell_at hr3 6
      have vf6 := frozen_at hr3 6
      have v7 := cell_at hr3 7
      have vf7 := frozen_at hr3 7
      have v8 := cell_at hr3 8
      have vf8 := frozen_at hr3 8
      go_wp2_with fail
      obtain ⟨W9, h9, ⟨t0, t1, t2, t3, t4, t5, t6, t7, t8⟩, hc9, hF, hB⟩ := ask_store HR3.out (.int .i64 0) (.int .i64 0) (.int .i64 0) (.int .i64 0) (.int .i64 0) (.int .i64 0) (.int .i64 0) (.string { data := #[] }) (.slice none 0 0)
      rw [h9]
      have hb10 := (Below.refl W9.heap.size W9).alloc (Nat.le_refl _) (.cells #[.int .i64 a1, .int .i64 a2, .int .i64 a3, .int .i64 a4, .int .i64 a5, .int .i64 a6, .int .i64 a7, .string a8, .slice Av m cv] 24)
      have hc10 := block_alloc hc9 (.cells #[.int .i64 a1, .int .i64 a2, .int .i64 a3, .int .i64 a4, .int .i64 a5, .int .i64 a6, .int .i64 a7, .string a8, .slice Av m cv] 24)
      have hprl := lt_of_block hc9
      have u0 := cell_at hc10 0
      have u1 := cell_at hc10 1
      have u2 := cell_at hc10 2
      have u3 := cell_at hc10 3
      have u4 := cell_at hc10 4
      have u5 := cell_at hc10 5
      have u6 := cell_at hc10 6
      have u7 := cell_at hc10 7
      have u8 := cell_at hc10 8
      refine bodyPost_ret (v := .tuple #[.agg #[.int .i64 0, .int .i64 0, .int .i64 0, .int .i64 0, .int .i64 0, .int .i64 0, .int .i64 0, .string { data := #[] }, .slice none 0 0], .bool false]) (by simp [results, Try.f51, go_sem, u0, u1, u2, u3, u4, u5, u6, u7, u8]) rfl ?_
      exact ⟨fun a ha => (by rw [HUU.out] at ha; cases ha), fun _ => ⟨rfl, (HB3.out.trans (hB _ (by rw [HPE.out]; exact Nat.le_refl _))).trans (hb10.mono (Nat.le_trans HB3.out.size (hB pr (Nat.le_refl _)).size))⟩⟩
end Go.Proofs.Ytpccbobomppdbaa

namespace Go.Proofs.Ytpccbobomppdbaa
open Go.RowKit

/-- What Decode's blocks hold: the taker, the answer's cell. -/
def XmT (w W : World) (pr : Nat) (D : Option Nat) (s : St) : Prop :=
  IsT W 82 (pr + 1) D s ∧ W.heap[pr]? = some (.cells #[.int .i64 0, .int .i64 0, .slice none 0 0, .int .i64 0, .int .i64 0, .int .i64 0, .int .i64 0, .int .i64 0, .int .i64 0, .int .i64 0, .string { data := #[] }, .slice none 0 0, .int .i64 0, .int .i64 0, .int .i64 0, .int .i64 0] 29 (0, 0)) ∧ Below w.heap.size w W
theorem XmT.turn {w W W' : World} {pr : Nat} {D : Option Nat} {s s' : St} (h : XmT w W pr D s) (hT : IsT W' 82 (pr + 1) D s') (hf : Fr 0 [] [pr + 1] W W') (hp : w.heap.size = pr) : XmT w W' pr D s' := by
  obtain ⟨_, h2, h3⟩ := h
  exact ⟨hT, hf.keep0 h2 (by simp), h3.trans (hf.belowT (by omega) h3.size)⟩
theorem XmT.fr {w W W' : World} {pr pa : Nat} {D : Option Nat} {s : St} (h : XmT w W pr D s) (f : Fr 0 [] [pa] W W') (hb : Below w.heap.size w W') (h1 : pr + 1 ≠ pa) (h2 : D ≠ some pa) (h3 : pr ≠ pa) : XmT w W' pr D s := by
  obtain ⟨k1, k2, _⟩ := h
  exact ⟨k1.keep f (by simpa using h1) (fun d hd => by simp; rintro rfl; exact h2 hd), f.keep0 k2 (by simpa using h3), hb⟩
theorem XmT.keepC {w W W' : World} {pr : Nat} {D : Option Nat} {s : St} (h : XmT w W pr D s) (hb : Below W.heap.size W W') : XmT w W' pr D s := by
  obtain ⟨k1, k2, k3⟩ := h
  exact ⟨k1.below hb, (hb.block _ (lt_of_block k2)).trans k2, k3.trans (hb.mono k3.size)⟩
/-- What the reference's Decode answers. -/
def RetDecY (w : World) (r : Option Ml) (e : Ending) (W : World) : Prop :=
  (∀ m, r = some m → ∃ A c A' c', e = .returned (.tuple #[mlV m (.slice A m.items.length c) (.slice A' m.ask.items.length c'), .bool true]) ∧ Rd W 2 A m.items.length (m.items.flatMap encI) ∧ Rd W 2 A' m.ask.items.length (m.ask.items.flatMap encI) ∧ Below w.heap.size w W) ∧
  (r = none → e = .returned (.tuple #[mlV zeroMl (.slice none 0 0) (.slice none 0 0), .bool false]) ∧ Below w.heap.size w W)
/-- What the reference's Decode of a request answers, in one. -/
theorem xadec_one (A : Option Addr) (c : Nat) (bs : List Nat) (w : World) (h1 : bs.length ≤ c) (h2 : c ≤ maxLen) (h3 : Rd w 1 A bs.length (bs.map u8v)) (h4 : ∀ b ∈ bs, b < 256) (h5 : SlA A c) :
    Calls Try.prog 51 #[.slice A bs.length c] w fun e W => ∃ a A c ok, e = .returned (.tuple #[.agg #[.int .i64 a.client, .int .i64 a.number, .int .i64 a.kind, .int .i64 a.order, .int .i64 a.region, .int .i64 a.to, .int .i64 a.n, .string a.good, .slice A a.items.length c], .bool ok]) ∧ Rd W 2 A a.items.length (a.items.flatMap encI) ∧ Below w.heap.size w W ∧ (unXA bs = some a ∧ ok = true ∨ unXA bs = none ∧ ok = false) ∧ BdL a.items ∧ a.good.size ≤ 9223372036854775807 := by
  refine (xadec_any A c bs w h1 h2 h3 h4 h5).mono fun e W ⟨k1, k2⟩ => ?_
  cases hu : unXA bs with
  | some a =>
    obtain ⟨A, c, he, hr, hb⟩ := k1 a hu
    have hm := (unA_iff h4 a).1 ((unA_eq h4).trans hu)
    have hlm := mayA_lim hm.1
    refine ⟨a, A, c, true, he, hr, hb, .inl ⟨rfl, rfl⟩, ⟨fun z hz => ?_, ?_⟩, ?_⟩
    · have := hlm.pit z hz
      exact ⟨by omega, by omega, by omega⟩
    · have := (mayI_at hlm.c9).1; omega
    · have := hlm.c8; omega
  | none =>
    obtain ⟨he, hb⟩ := k2 hu
    refine ⟨zeroA, none, 0, false, he, Rd.nil, hb, .inr ⟨rfl, rfl⟩, ⟨fun z hz => ?_, ?_⟩, ?_⟩
    · cases hz
    · simp [zeroA]
    · simp [zeroA]
theorem rtextT_cap {s : St} {m : Int} : ((rtextT s m).1.length : Int) ≤ max m 0 := by
  have h := numT_range s 0 (if (s.1.length : Int) < m then s.1.length else m)
  have h2 : (if (s.1.length : Int) < m then (s.1.length : Int) else m) ≤ m := by split <;> omega
  unfold rtextT
  generalize numT s 0 (if (s.1.length : Int) < m then s.1.length else m) = r at h
  simp only
  split
  · simp; omega
  · simp only [List.length_take]
    omega
end Go.Proofs.Ytpccbobomppdbaa
