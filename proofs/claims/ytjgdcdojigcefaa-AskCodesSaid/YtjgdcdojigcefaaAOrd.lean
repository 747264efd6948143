/- ask.Order, ask.Owner and ask.Home. -/
import Derived.Test.YtjgdcdojigcefaaAMay
namespace Go.Proofs.Ytjgdcdojigcefaa
open Go.RowKit

def ordA (a : Ak) : Int := if a.kind = 1 ∧ mayA a = true then 64 * a.number + a.client else 0
def ownA (o : Int) : Int := if o < 1 then 0 else o % 64
def homeA (c r : Int) : Int := if c < 0 ∨ r < 1 then 0 else c % r
theorem owner_any (o : Int) (w : World) : Calls Try.prog 21 #[.int .i64 o] w fun e W => e = .returned (.int .i64 (ownA o)) ∧ w = W := by
  by_cases h : o < 1
  · have HO : Hid (ownA o = 0) := Lib.hid (by unfold ownA; rw [if_pos h])
    go_enter Try.func21, Try.ntmps21
    go_wp2
    go_ret
    exact ⟨ret_int HO.out.symm, rfl⟩
  · have HO : Hid (ownA o = o.tmod 64) := Lib.hid (by unfold ownA; rw [if_neg h, Int.tmod_eq_emod_of_nonneg (by omega)])
    go_enter Try.func21, Try.ntmps21
    go_wp2
    go_ret
    exact ⟨ret_int (by rw [HO.out, Int.tmod_eq_emod_of_nonneg (by omega)]), rfl⟩
theorem home_any (c r : Int) (w : World) : Calls Try.prog 20 #[.int .i64 c, .int .i64 r] w fun e W => e = .returned (.int .i64 (homeA c r)) ∧ w = W := by
  by_cases h : c < 0
  · have HO : Hid (homeA c r = 0) := Lib.hid (by unfold homeA; rw [if_pos (.inl h)])
    go_enter Try.func20, Try.ntmps20
    go_wp2
    go_ret
    exact ⟨ret_int HO.out.symm, rfl⟩
  · by_cases h2 : r < 1
    · have HO : Hid (homeA c r = 0) := Lib.hid (by unfold homeA; rw [if_pos (.inr h2)])
      go_enter Try.func20, Try.ntmps20
      go_wp2
      go_ret
      exact ⟨ret_int HO.out.symm, rfl⟩
    · have HO : Hid (homeA c r = c.tmod r) := Lib.hid (by unfold homeA; rw [if_neg (by omega), Int.tmod_eq_emod_of_nonneg (by omega)])
      have h0 : ¬ r = 0 := by omega
      have h1 : (r == 0) = false := by simp; omega
      have hc0 : 0 ≤ c := by omega
      go_enter Try.func20, Try.ntmps20
      go_wp2
      go_ret
      exact ⟨ret_int (by first | exact HO.out.symm | rw [HO.out, Int.tmod_eq_emod_of_nonneg hc0]), rfl⟩
set_option maxRecDepth 100000 in
theorem aord_any (a : Ak) (A : Option Addr) (c : Nat) (w : World) (hr : Rd w 2 A a.items.length (a.items.flatMap encI)) (hb : BdL a.items) (hg : a.good.size ≤ 9223372036854775807) :
    Calls Try.prog 19 #[akV a (.slice A a.items.length c)] w fun e W => e = .returned (.int .i64 (ordA a)) ∧ Below w.heap.size w W := by
  have HM := Lib.hid (fun W (hW : Below w.heap.size w W) => amay_any a A c W (hr.below hW) hb hg)
  have HOR : Hid (ordA a = if a.kind = 1 ∧ mayA a = true then 64 * a.number + a.client else 0) := Lib.hid rfl
  obtain ⟨MA, hMA⟩ : ∃ MA, mayA a = MA := ⟨_, rfl⟩
  have HLM : Hid (MA = true → 0 ≤ a.client ∧ a.client ≤ 63 ∧ 1 ≤ a.number ∧ a.number ≤ 4294967296) := Lib.hid (fun h => by have h2 := mayA_lim (hMA.trans h); exact ⟨h2.c1.1, h2.c1.2, h2.c2.1, h2.c2.2⟩)
  rw [hMA] at HM HOR
  obtain ⟨OR, hOR⟩ : ∃ OR, ordA a = OR := ⟨_, rfl⟩
  rw [hOR] at HOR ⊢
  clear hOR hMA hr hb hg
  obtain ⟨client, number, kind, order, region, to, n, good, items⟩ := a
  simp only at *
  obtain ⟨m, hm⟩ : ∃ m, items.length = m := ⟨_, rfl⟩
  rw [hm] at HM ⊢
  have HB := Lib.hid ((Below.refl _ w).alloc (Nat.le_refl _) (.cells #[.int .i64 client, .int .i64 number, .int .i64 kind, .int .i64 order, .int .i64 region, .int .i64 to, .int .i64 n, .string good, .slice A m c] 24))
  clear hm
  by_cases hk : kind = 1
  · subst hk
    go_enter Try.func19, Try.ntmps19
    go_wp2_with fail
    have kb := block_new w (.cells #[.int .i64 client, .int .i64 number, .int .i64 1, .int .i64 order, .int .i64 region, .int .i64 to, .int .i64 n, .string good, .slice A m c] 24)
    have c0 := cell_at kb 0
    have c1 := cell_at kb 1
    refine (HM.out _ HB.out).mono ?_
    rintro e w1 ⟨rfl, hb⟩
    have kb1 := (hb.block _ (lt_of_block kb)).trans kb
    have HB1 := Lib.hid (HB.out.trans (hb.mono HB.out.size))
    cases MA
    · have HO : Hid (OR = 0) := Lib.hid (by rw [HOR.out, if_neg (by simp)])
      clear hb kb kb1 c0 c1
      go_wp2
      go_ret
      exact ⟨ret_int HO.out.symm, HB1.out⟩
    · have HO : Hid (OR = 64 * number + client) := Lib.hid (by rw [HOR.out, if_pos (by simp)])
      obtain ⟨l1, l2, l3, l4⟩ := HLM.out rfl
      have d0 := cell_at kb1 0
      have d1 := cell_at kb1 1
      clear hb kb kb1 c0 c1
      go_wp2
      go_ret
      exact ⟨ret_int HO.out.symm, HB1.out⟩
  · have e1 : (kind == 1) = false := by simp; omega
    have e2 : (kind != 1) = true := by rw [bne, e1]; rfl
    have HO : Hid (OR = 0) := Lib.hid (by rw [HOR.out, if_neg (by simp; omega)])
    go_enter Try.func19, Try.ntmps19
    go_wp2
    go_ret
    exact ⟨ret_int HO.out.symm, HB.out⟩
end Go.Proofs.Ytjgdcdojigcefaa
