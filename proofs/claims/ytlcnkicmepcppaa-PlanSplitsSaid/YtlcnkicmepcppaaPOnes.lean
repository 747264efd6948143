/- math/bits.OnesCount of a byte's numbers; slices.Compare of numbers. -/
import Derived.Test.YtlcnkicmepcppaaPPlaces
namespace Go.Proofs.Ytlcnkicmepcppaa
open Go.RowKit

def o1 (c : Int) : Int := IntKind.u64.wrap (bits .and .u64 (c / 2) 6148914691236517205 + bits .and .u64 c 6148914691236517205)
def o2 (x : Int) : Int := IntKind.u64.wrap (bits .and .u64 (x / 4) 3689348814741910323 + bits .and .u64 x 3689348814741910323)
def o3 (x : Int) : Int := bits .and .u64 (IntKind.u64.wrap (x / 16 + x)) 1085102592571150095
def o4 (x : Int) : Int := IntKind.u64.wrap (x + x / 256)
def o5 (x : Int) : Int := IntKind.u64.wrap (x + x / 65536)
def o6 (x : Int) : Int := IntKind.u64.wrap (x + x / 4294967296)
theorem ones_all : ∀ c : Fin 256, bits .and .i64 (wrap64 (o6 (o5 (o4 (o3 (o2 (o1 (c.val : Int)))))))) 127 = ((placesK c.val 8).length : Int) := by decide +kernel
set_option maxRecDepth 100000 in
set_option maxHeartbeats 1000000 in
theorem ones64_any (c : Nat) (w : World) (hc : c < 256) : Calls Try.prog 43 #[.int .u64 c] w fun e w' => e = .returned (.int .i64 (placesK c 8).length) ∧ w = w' := by
  have hall := ones_all ⟨c, hc⟩
  simp only at hall
  obtain ⟨x1, e1⟩ : ∃ x, o1 (c : Int) = x := ⟨_, rfl⟩
  obtain ⟨x2, e2⟩ : ∃ x, o2 x1 = x := ⟨_, rfl⟩
  obtain ⟨x3, e3⟩ : ∃ x, o3 x2 = x := ⟨_, rfl⟩
  obtain ⟨x4, e4⟩ : ∃ x, o4 x3 = x := ⟨_, rfl⟩
  obtain ⟨x5, e5⟩ : ∃ x, o5 x4 = x := ⟨_, rfl⟩
  obtain ⟨x6, e6⟩ : ∃ x, o6 x5 = x := ⟨_, rfl⟩
  rw [e1, e2, e3, e4, e5, e6] at hall
  unfold o1 at e1
  unfold o2 at e2
  unfold o3 at e3
  unfold o4 at e4
  unfold o5 at e5
  unfold o6 at e6
  have HALL := Lib.hid hall
  clear hall
  go_enter Try.func43, Try.ntmps43
  go_wp2
  go_ret
  exact ⟨ret_int HALL.out, rfl⟩
theorem ones_any (c : Nat) (w : World) (hc : c < 256) : Calls Try.prog 32 #[.int .u64 c] w fun e w' => e = .returned (.int .i64 (placesK c 8).length) ∧ w = w' := by
  have H := Lib.hid (ones64_any c w hc)
  go_enter Try.func32, Try.ntmps32
  go_wp2_with fail
  refine H.out.mono ?_
  rintro e w1 ⟨rfl, rfl⟩
  go_wp2
  go_ret
  exact ⟨rfl, rfl⟩
theorem nan_any (x : Int) (w : World) : Calls Try.prog 50 #[.int .i64 x] w fun e w' => e = .returned (.bool false) ∧ w = w' := by
  go_enter Try.func50, Try.ntmps50
  go_wp2
  go_ret
  exact ⟨by simp, rfl⟩
def cmpI (x y : Int) : Int := if x < y then -1 else if y < x then 1 else 0
set_option maxHeartbeats 1000000 in
theorem cmpI_any (x y : Int) (w : World) : Calls Try.prog 44 #[.int .i64 x, .int .i64 y] w fun e w' => e = .returned (.int .i64 (cmpI x y)) ∧ w = w' := by
  have H : ∀ x w, Calls Try.prog 50 #[.int .i64 x] w fun e w' => e = .returned (.bool false) ∧ w = w' := nan_any
  go_enter Try.func44, Try.ntmps44
  go_wp2_with fail
  refine (H x w).mono ?_
  rintro e w1 ⟨rfl, rfl⟩
  go_wp2_with fail
  refine (H y w).mono ?_
  rintro e w1 ⟨rfl, rfl⟩
  rcases Int.lt_trichotomy x y with h | h | h
  · go_wp2
    go_ret
    exact ⟨ret_int (by unfold cmpI; rw [if_pos h]), rfl⟩
  · subst h
    go_wp2
    go_ret
    exact ⟨ret_int (by unfold cmpI; simp), rfl⟩
  · have h' : ¬ x < y := by omega
    have e : Hid (cmpI x y = 1) := Lib.hid (by unfold cmpI; rw [if_neg h', if_pos h])
    go_wp2
    go_ret
    exact ⟨ret_int e.out.symm, rfl⟩
/-- The order of two lists of numbers. -/
def cmpL : List Int → List Int → Int
  | [], [] => 0
  | [], _ :: _ => -1
  | _ :: _, [] => 1
  | x :: a, y :: b => if cmpI x y ≠ 0 then cmpI x y else cmpL a b
theorem cmpL_drop {a b : List Int} {k : Nat} (ha : k < a.length) (hb : k < b.length) : cmpL (a.drop k) (b.drop k) = if cmpI a[k] b[k] ≠ 0 then cmpI a[k] b[k] else cmpL (a.drop (k + 1)) (b.drop (k + 1)) := by
  rw [List.drop_eq_getElem_cons ha, List.drop_eq_getElem_cons hb]
  rfl
set_option maxRecDepth 100000 in
set_option maxHeartbeats 1000000 in
theorem compare_any (A : Option Addr) (c : Nat) (a : List Int) (B : Option Addr) (d : Nat) (b : List Int) (w : World) (hr : Rd w 1 A a.length (a.map i64v)) (hs : Rd w 1 B b.length (b.map i64v)) (hm : a.length ≤ 1000000) :
    Calls Try.prog 33 #[.slice A a.length c, .slice B b.length d] w fun e w' => e = .returned (.int .i64 (cmpL a b)) ∧ w = w' := by
  obtain ⟨m, hm2⟩ : ∃ m, a.length = m := ⟨_, rfl⟩
  obtain ⟨n, hn2⟩ : ∃ n, b.length = n := ⟨_, rfl⟩
  have HM := Lib.hid hm2
  have HN := Lib.hid hn2
  have HR := Lib.hid hr
  have HS := Lib.hid hs
  rw [hm2] at hm ⊢
  rw [hn2] at ⊢
  clear hr hs hm2 hn2
  go_enter Try.func33, Try.ntmps33
  go_wp2_with fail
  go_loopw [11] (fun iv wr => w = wr ∧ ∃ k : Nat, k ≤ m ∧ k ≤ n ∧ iv = .int .i64 k ∧ cmpL (a.drop k) (b.drop k) = cmpL a b) (fun iv => fun _ => m - (intOf iv).toNat)
  case atStart => exact ⟨rfl, 0, Nat.zero_le _, Nat.zero_le _, rfl, rfl⟩
  case round =>
    obtain ⟨rfl, k, hk, hkn, rfl, hc⟩ := hrel
    have HC := Lib.hid hc
    clear hc
    by_cases hlt : k < m
    · have hka : k < a.length := by have := HM.out; omega
      obtain ⟨g, o, rfl, hg, hcell⟩ := HR.out.2 (by omega)
      have c0 : w.cell? ⟨g, o + k, none⟩ = some (.int .i64 a[k]) := hcell k _ (by simp [hka, i64v])
      clear hcell
      by_cases hln : k < n
      · have hkb : k < b.length := by have := HN.out; omega
        obtain ⟨g2, o2, rfl, hg2, hcell⟩ := HS.out.2 (by omega)
        have c1 : w.cell? ⟨g2, o2 + k, none⟩ = some (.int .i64 b[k]) := hcell k _ (by simp [hkb, i64v])
        have hdr := cmpL_drop hka hkb
        have HDR := Lib.hid (hdr.symm.trans HC.out)
        obtain ⟨x, hx⟩ : ∃ x, a[k] = x := ⟨_, rfl⟩
        obtain ⟨y, hy⟩ : ∃ y, b[k] = y := ⟨_, rfl⟩
        rw [hx] at c0
        rw [hy] at c1
        have HCM := Lib.hid (cmpI_any x y)
        obtain ⟨z, hz⟩ : ∃ z, cmpI x y = z := ⟨_, rfl⟩
        rw [hz] at HCM
        have HDR2 : Hid ((if z ≠ 0 then z else cmpL (a.drop (k + 1)) (b.drop (k + 1))) = cmpL a b) := Lib.hid (by
          have := HDR.out
          rw [hx, hy, hz] at this
          exact this)
        clear hcell hdr hx hy hz HDR
        go_wp2_with fail
        refine (HCM.out w).mono ?_
        rintro e w1 ⟨rfl, rfl⟩
        by_cases hz0 : z = 0
        · have hzb : (z != 0) = false := by simp [hz0]
          have HR3 : Hid (cmpL (a.drop (k + 1)) (b.drop (k + 1)) = cmpL a b) := Lib.hid (by rw [← HDR2.out, if_neg (by simp [hz0])])
          clear hz0 c0 c1
          go_wp2_with fail
          go_roundw
          case rel => exact ⟨trivial, k + 1, hlt, hln, by go_num, HR3.out⟩
          case measure => simp [intOf]; omega
        · have hzb : (z != 0) = true := by simp [hz0]
          have HR3 : Hid (z = cmpL a b) := Lib.hid (by rw [← HDR2.out, if_pos hz0])
          clear hz0 c0 c1
          go_wp2
          go_ret
          exact ⟨ret_int HR3.out, rfl⟩
      · have hb0 : b.drop k = [] := List.drop_eq_nil_of_le (by have := HN.out; omega)
        have HR3 : Hid ((1 : Int) = cmpL a b) := Lib.hid (by rw [← HC.out, hb0, List.drop_eq_getElem_cons hka]; rfl)
        have hln' : decide (n ≤ k) = true := by simp; omega
        clear hb0
        go_wp2
        go_ret
        exact ⟨ret_int HR3.out, rfl⟩
    · have ekm : k = m := by omega
      have ha0 : a.drop k = [] := List.drop_eq_nil_of_le (by have := HM.out; omega)
      by_cases hln : m < n
      · have HR3 : Hid ((-1 : Int) = cmpL a b) := Lib.hid (by rw [← HC.out, ha0, List.drop_eq_getElem_cons (show k < b.length by have := HN.out; omega)]; rfl)
        clear ha0 ekm
        go_wp2
        go_ret
        exact ⟨ret_int HR3.out, rfl⟩
      · have hb0 : b.drop k = [] := List.drop_eq_nil_of_le (by have := HN.out; omega)
        have HR3 : Hid ((0 : Int) = cmpL a b) := Lib.hid (by rw [← HC.out, ha0, hb0]; rfl)
        clear ha0 hb0 ekm
        go_wp2
        go_ret
        exact ⟨ret_int HR3.out, rfl⟩
end Go.Proofs.Ytlcnkicmepcppaa
