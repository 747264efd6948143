/- The law LinkOrder: what comes are the other's bodies, in order, each once. The walk. -/
import Derived.Test.YtnmbblkfaoihfaaZLY31
import Derived.Test.YtnmbblkfaoihfaaZLY32
namespace Go.Proofs.Ytnmbblkfaoihfaa
open Go.RowKit

/-- A deed that came in. -/
structure LDeed where
  kind : Int
  A : Int
  n : Int
def encD (z : LDeed) : List Value := [.int .i64 z.kind, .int .i64 z.A, .int .i64 z.n]
theorem flatD_at (zs : List LDeed) (k j : Nat) (hk : k < zs.length) (hj : j < 3) : (zs.flatMap encD)[k * 3 + j]? = (encD zs[k])[j]? := by
  induction zs generalizing k with
  | nil => simp at hk
  | cons z zs ih =>
    cases k with
    | zero => rw [List.flatMap_cons, List.getElem?_append_left (by show _ < 3; omega)]; simp
    | succ k => rw [List.flatMap_cons, List.getElem?_append_right (by show 3 ≤ _; omega), show (k + 1) * 3 + j - (encD z).length = k * 3 + j by show (k + 1) * 3 + j - 3 = _; omega, ih k (by simpa using hk)]; simp

set_option maxRecDepth 100000 in
set_option maxHeartbeats 2000000 in
theorem order_any (A0 : Option Addr) (c0 : Nat) (zs : List LDeed) (w : World) (hn : zs.length ≤ 140737488355328) (hrd : Rd w 3 A0 zs.length (zs.flatMap encD)) :
    Calls Try.prog 3 #[.slice A0 zs.length c0] w fun e w' => e = .returned (.bool true) ∧ Below w.heap.size w w' := by
  go_enter Try.func3, Try.ntmps3
  obtain ⟨m, hm⟩ : ∃ m, zs.length = m := ⟨_, rfl⟩
  have HM := Lib.hid hm
  have HRD := Lib.hid hrd
  rw [hm] at hn ⊢
  clear hm hrd
  go_wp2_with fail
  refine (begin_any w).mono ?_
  rintro e w1 ⟨y, pe, rfl, hI⟩
  have HI := Lib.hid hI
  clear hI
  go_wp2_with fail
  refine (lives_any w1).mono ?_
  rintro e w2 ⟨rfl, hb⟩
  have HI2 := Lib.hid (HI.out.below hb)
  clear hb HI
  go_wp2_with fail
  go_loopw [4] (fun iv wr => ∃ (k : Nat) (P : Play) (vs vc vw : Bool → Value) (z3 : Bool → List (LPk × Value)), k ≤ m ∧ k ≤ 300 ∧ iv = .int .i64 k ∧ IsY w y pe P vs vc vw z3 wr ∧ GoodY P ∧ FewY P k) (fun iv _ => m - (intOf iv).toNat)
  case atStart => exact ⟨0, zeroY, _, _, _, _, Nat.zero_le _, by omega, rfl, HI2.out, zero_good.1, zero_good.2⟩
  case round =>
    obtain ⟨k, P, vs, vc, vw, z3, hk, hk3, rfl, hI, hG, hF⟩ := hrel
    have HI := Lib.hid hI
    have HG := Lib.hid hG
    have HF := Lib.hid hF
    clear hI hG hF HI2
    by_cases hlm : k < m
    · by_cases hl3 : k < 300
      · obtain ⟨g, o, rfl, hg, hcell⟩ := HRD.out.2 (by have := HM.out; omega)
        have hle : decide ((k : Int) < 300) = true := by simp; omega
        have hkz : k < zs.length := by have := HM.out; omega
        obtain ⟨z, hz⟩ : ∃ z, zs[k] = z := ⟨_, rfl⟩
        have hat := fun j (hj : j < 3) => flatD_at zs k j hkz hj
        simp only [hz] at hat
        have k0 : wr.cell? ⟨g, o + k * 3, none⟩ = some (.int .i64 z.kind) := (HI.out.two.bel.cell (p := ⟨g, o + k * 3, none⟩) hg).trans (hcell (k * 3 + 0) _ ((hat 0 (by omega)).trans rfl))
        have k1 : wr.cell? ⟨g, o + k * 3 + 1, none⟩ = some (.int .i64 z.A) := (HI.out.two.bel.cell (p := ⟨g, o + k * 3 + 1, none⟩) hg).trans (by rw [Nat.add_assoc]; exact hcell (k * 3 + 1) _ ((hat 1 (by omega)).trans rfl))
        have k2 : wr.cell? ⟨g, o + k * 3 + 2, none⟩ = some (.int .i64 z.n) := (HI.out.two.bel.cell (p := ⟨g, o + k * 3 + 2, none⟩) hg).trans (by rw [Nat.add_assoc]; exact hcell (k * 3 + 2) _ ((hat 2 (by omega)).trans rfl))
        have HDO := Lib.hid (do_any w y pe P z.kind z.A z.n wr vs vc vw z3 HI.out HG.out k HF.out (by omega))
        obtain ⟨hg2, hf2⟩ := HG.out.do_ HF.out (by omega) z.kind z.A z.n
        have HG2 := Lib.hid hg2
        have HF2 := Lib.hid hf2
        obtain ⟨P2, hP2⟩ : ∃ P2, doY P z.kind z.A z.n = P2 := ⟨_, rfl⟩
        rw [hP2] at HDO HG2 HF2
        clear hcell hat hz hkz hP2 hg2 hf2
        go_wp2_with fail
        refine HDO.out.mono ?_
        rintro e w5 ⟨rfl, hI5⟩
        obtain ⟨vs5, vc5, vw5, z5, hI5⟩ := hI5
        have HI5 := Lib.hid hI5
        clear hI5 HDO k0 k1 k2
        go_wp2_with fail
        refine (right_any w y pe P2 w5 vs5 vc5 vw5 z5 HI5.out HG2.out.right).mono ?_
        rintro e w6 ⟨rfl, hb6⟩
        have HI6 := Lib.hid (HI5.out.below hb6)
        clear hb6 HI5
        go_wp2_with fail
        go_roundw
        case rel => exact ⟨k + 1, P2, _, _, _, _, hlm, hl3, by go_num, HI6.out, HG2.out, HF2.out⟩
        case measure => simp [intOf]; omega
      · have hle : decide ((k : Int) < 300) = false := by simp; omega
        go_wp2
        go_ret
        exact ⟨rfl, HI.out.two.bel⟩
    · have hd : decide (k < m) = false := by simpa using hlm
      go_wp2
      go_ret
      exact ⟨rfl, HI.out.two.bel⟩
end Go.Proofs.Ytnmbblkfaoihfaa
