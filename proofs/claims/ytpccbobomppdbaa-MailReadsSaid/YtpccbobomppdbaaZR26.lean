/- The reference's May of a request. -/
import Derived.Test.YtpccbobomppdbaaZR9
namespace Go.Proofs.Ytpccbobomppdbaa
open Go.RowKit

theorem right_on {k : Int} {c : Nat} {x y : Bool} (h : hasF k c = true) : rightB k c x y = x := by unfold rightB; rw [if_pos h]
theorem right_off {k : Int} {c : Nat} {x y : Bool} (h : hasF k c = false) : rightB k c x y = y := by unfold rightB; rw [if_neg (by rw [h]; simp)]
theorem mayA_parts (a : Ak) (h : (fldA a.kind).isEmpty = false) : mayA a = ((inB a.client 0 63 && inB a.number 1 4294967296) && (rightB a.kind 111 (inB a.order 1 1099511627776) (a.order == 0) && ((rightB a.kind 114 (inB a.region 0 7) (a.region == 0) && rightB a.kind 116 (inB a.to 0 7 && (a.to != a.region)) (a.to == 0)) && (rightB a.kind 103 (goodS a.good) (decide (a.good.size = 0)) && (rightB a.kind 105 (!a.items.isEmpty && mayI a.items) a.items.isEmpty && mayNA a.kind a.n))))) := by
 have e : mayA a = ((!(fldA a.kind).isEmpty && inB a.client 0 63 && inB a.number 1 4294967296) && (rightB a.kind 111 (inB a.order 1 1099511627776) (a.order == 0) && (rightB a.kind 114 (inB a.region 0 7) (a.region == 0) && (rightB a.kind 116 (inB a.to 0 7 && (a.to != a.region)) (a.to == 0) && (rightB a.kind 103 (goodS a.good) (decide (a.good.size = 0)) && (rightB a.kind 105 (!a.items.isEmpty && mayI a.items) a.items.isEmpty && mayNA a.kind a.n)))))) := rfl
 rw [e, h, Bool.not_false, Bool.true_and]
 simp only [Bool.and_assoc]
theorem in_neg (n a b : Int) : inB n a b = (!decide (n < a) && !decide (b < n)) := by
 unfold inB
 by_cases h1 : a ≤ n <;> by_cases h2 : n ≤ b <;> simp [h1, h2] <;> omega
theorem z_neg (n : Int) : (n == 0) = !(n != 0) := by cases h : (n == 0) <;> simp [bne, h]
theorem ne_neg (n k : Int) : (n != k) = !(n == k) := rfl
theorem z_all (n : Int) : (n == 0) = (!decide (n < 0) && (!decide (7 < n) && !(n != 0))) := by
 by_cases h : n = 0
 · subst h; rfl
 · have e : (n == 0) = false := by simp; omega
   rw [e]
   simp [bne, e]
theorem good_off (s : ByteArray) : decide (s.size = 0) = (!goodS s && (s.toList == [])) := by
 have h : s.toList.length = s.size := by rw [Lib.toList_data]; exact Array.length_toList
 by_cases h0 : s.size = 0
 · have e : s.toList = [] := List.eq_nil_of_length_eq_zero (h.trans h0)
   have hg : goodS s = false := by unfold goodS; rw [decide_eq_false (show ¬ 1 ≤ s.size by omega)]; simp
   rw [decide_eq_true h0, hg, e]
   rfl
 · have e : s.toList ≠ [] := fun e => h0 (by rw [← h, e]; rfl)
   have : (s.toList == []) = false := beq_eq_false_iff_ne.2 e
   rw [decide_eq_false h0, this]
   simp
theorem items_on (l : List It) : (!l.isEmpty && mayI l) = (!(l.length == 0) && mayI l) := by cases l <;> simp
theorem items_off (l : List It) : l.isEmpty = (!decide (0 < l.length) && mayI l) := by
 cases l with
 | nil => rw [mayI_nil]; rfl
 | cons x l => simp
theorem mayN1 {k n : Int} (h : k = 1) : mayNA k n = ((n == 0) || (n == 1)) := by
 subst h
 show inB n 0 1 = _
 unfold inB
 by_cases h1 : n = 0
 · subst h1; rfl
 · by_cases h2 : n = 1
   · subst h2; rfl
   · have e1 : (n == 0) = false := by simp; omega
     have e2 : (n == 1) = false := by simp; omega
     rw [e1, e2]
     simp
     omega
theorem mayN7 {k n : Int} (h : k = 7) : mayNA k n = mayC n := by subst h; rfl
theorem mayN11 {k n : Int} (h : k = 11) : mayNA k n = (decide (1 ≤ n) && decide (n ≤ 4294967297)) := by subst h; rfl
theorem mayN0 {k n : Int} (h1 : k ≠ 1) (h7 : k ≠ 7) (h11 : k ≠ 11) : mayNA k n = (n == 0) := by unfold mayNA; rw [if_neg h1, if_neg h7, if_neg h11]; rfl
theorem fldA_k1 {k : Int} (h : fldA k = [110, 105]) : k = 1 := by
 unfold fldA at h
 repeat' split at h
 all_goals first | omega | exact absurd h (by decide)
theorem fldA_k2 {k : Int} (h : fldA k = [111]) : k = 2 ∨ k = 3 ∨ k = 4 := by
 unfold fldA at h
 repeat' split at h
 all_goals first | omega | exact absurd h (by decide)
theorem fldA_k5 {k : Int} (h : fldA k = [111, 114, 105]) : k = 5 := by
 unfold fldA at h
 repeat' split at h
 all_goals first | omega | exact absurd h (by decide)
theorem fldA_k6 {k : Int} (h : fldA k = [114, 105]) : k = 6 ∨ k = 8 ∨ k = 9 := by
 unfold fldA at h
 repeat' split at h
 all_goals first | omega | exact absurd h (by decide)
theorem fldA_k7 {k : Int} (h : fldA k = [114, 110, 103]) : k = 7 := by
 unfold fldA at h
 repeat' split at h
 all_goals first | omega | exact absurd h (by decide)
theorem fldA_k10 {k : Int} (h : fldA k = [114, 116, 105]) : k = 10 := by
 unfold fldA at h
 repeat' split at h
 all_goals first | omega | exact absurd h (by decide)
theorem fldA_k11 {k : Int} (h : fldA k = [110]) : k = 11 := by
 unfold fldA at h
 repeat' split at h
 all_goals first | omega | exact absurd h (by decide)
set_option maxRecDepth 100000 in
set_option maxHeartbeats 4000000 in
theorem xamay_k1 (client number kind order region to n : Int) (good : ByteArray) (items : List It) (A : Option Addr) (c : Nat) (w : World) (hk : fldA kind = [110, 105]) (hr : Rd w 2 A items.length (items.flatMap encI)) (hb : BdL items) (hg : good.size ≤ 9223372036854775807) :
 Calls Try.prog 36 #[akV ⟨client, number, kind, order, region, to, n, good, items⟩ (.slice A items.length c)] w fun e W => e = .returned (.bool (mayA ⟨client, number, kind, order, region, to, n, good, items⟩)) ∧ Below w.heap.size w W := by
 obtain ⟨m, hm2⟩ : ∃ m, items.length = m := ⟨_, rfl⟩
 obtain ⟨CN, hCN⟩ : ∃ CN, (inB client 0 63 && inB number 1 4294967296) = CN := ⟨_, rfl⟩
 obtain ⟨L1, hL1⟩ : ∃ L1, decide (order < 1) = L1 := ⟨_, rfl⟩
 obtain ⟨L2, hL2⟩ : ∃ L2, decide (1099511627776 < order) = L2 := ⟨_, rfl⟩
 obtain ⟨Z1, hZ1⟩ : ∃ Z1, (order != 0) = Z1 := ⟨_, rfl⟩
 obtain ⟨RL, hRL⟩ : ∃ RL, decide (region < 0) = RL := ⟨_, rfl⟩
 obtain ⟨RG, hRG⟩ : ∃ RG, decide (7 < region) = RG := ⟨_, rfl⟩
 obtain ⟨RZ, hRZ⟩ : ∃ RZ, (region != 0) = RZ := ⟨_, rfl⟩
 obtain ⟨TL, hTL⟩ : ∃ TL, decide (to < 0) = TL := ⟨_, rfl⟩
 obtain ⟨TG, hTG⟩ : ∃ TG, decide (7 < to) = TG := ⟨_, rfl⟩
 obtain ⟨TZ, hTZ⟩ : ∃ TZ, (to != 0) = TZ := ⟨_, rfl⟩
 obtain ⟨TE, hTE⟩ : ∃ TE, (to == region) = TE := ⟨_, rfl⟩
 obtain ⟨G, hG⟩ : ∃ G, goodS good = G := ⟨_, rfl⟩
 obtain ⟨GZ, hGZ⟩ : ∃ GZ, (good.toList == []) = GZ := ⟨_, rfl⟩
 obtain ⟨MI, hMI⟩ : ∃ MI, mayI items = MI := ⟨_, rfl⟩
 obtain ⟨P0, hP0⟩ : ∃ P0, (n == 0) = P0 := ⟨_, rfl⟩
 obtain ⟨P1, hP1⟩ : ∃ P1, (n == 1) = P1 := ⟨_, rfl⟩
 obtain ⟨Q1, hQ1⟩ : ∃ Q1, decide (1 ≤ n) = Q1 := ⟨_, rfl⟩
 obtain ⟨Q2, hQ2⟩ : ∃ Q2, decide (n ≤ 4294967297) = Q2 := ⟨_, rfl⟩
 obtain ⟨IE, hIE⟩ : ∃ IE, (m == 0) = IE := ⟨_, rfl⟩
 obtain ⟨LP, hLP⟩ : ∃ LP, decide (0 < m) = LP := ⟨_, rfl⟩
 have hIE2 : ((m : Int) == 0) = IE := by rw [← hIE]; exact decide_eq_decide.2 (by omega)
 have hLP2 : decide ((0 : Int) < (m : Int)) = LP := by rw [← hLP]; exact decide_eq_decide.2 (by omega)
 have hkk : kind = 1 := fldA_k1 hk
 have HMA : Hid (mayA ⟨client, number, kind, order, region, to, n, good, items⟩ = (CN && (!Z1 && ((!RL && (!RG && (!TL && (!TG && (!RZ && !TZ))))) && ((!G && GZ) && ((!IE && MI) && (P0 || P1))))))) := Lib.hid (by
  refine (mayA_parts _ (by rw [hk]; rfl)).trans ?_
  simp only
  rw [hCN]
  congr 1
  rw [right_off (by unfold hasF; rw [hk]; rfl), right_off (by unfold hasF; rw [hk]; rfl), right_off (by unfold hasF; rw [hk]; rfl), right_off (by unfold hasF; rw [hk]; rfl), right_on (by unfold hasF; rw [hk]; rfl)]
  rw [z_neg order, hZ1, z_all region, hRL, hRG, hRZ, z_all to, hTL, hTG, hTZ, good_off good, hG, hGZ, items_on items, hm2, hIE, hMI, mayN1 (by omega : kind = 1), hP0, hP1]
  cases RL <;> cases RG <;> cases TL <;> cases TG <;> cases RZ <;> cases TZ <;> rfl)
 have HS : Hid (∀ W, Calls Try.prog 67 #[.int .i64 kind] W fun e W' => e = .returned (.string ⟨#[110, 105]⟩) ∧ Below W.heap.size W W') := Lib.hid (fun W => (show hasA kind = ⟨#[110, 105]⟩ by unfold hasA; rw [hk]; rfl) ▸ xhas_any kind W)
 have HHo : Hid (∀ W, Calls Try.prog 68 #[.int .i64 kind, .int .u8 111] W fun e W' => e = .returned (.bool false) ∧ Below W.heap.size W W') := Lib.hid (fun W => (show hasF kind 111 = false by unfold hasF; rw [hk]; rfl) ▸ xhasf_any kind 111 W)
 have HHr : Hid (∀ W, Calls Try.prog 68 #[.int .i64 kind, .int .u8 114] W fun e W' => e = .returned (.bool false) ∧ Below W.heap.size W W') := Lib.hid (fun W => (show hasF kind 114 = false by unfold hasF; rw [hk]; rfl) ▸ xhasf_any kind 114 W)
 have HHt : Hid (∀ W, Calls Try.prog 68 #[.int .i64 kind, .int .u8 116] W fun e W' => e = .returned (.bool false) ∧ Below W.heap.size W W') := Lib.hid (fun W => (show hasF kind 116 = false by unfold hasF; rw [hk]; rfl) ▸ xhasf_any kind 116 W)
 have HHg : Hid (∀ W, Calls Try.prog 68 #[.int .i64 kind, .int .u8 103] W fun e W' => e = .returned (.bool false) ∧ Below W.heap.size W W') := Lib.hid (fun W => (show hasF kind 103 = false by unfold hasF; rw [hk]; rfl) ▸ xhasf_any kind 103 W)
 have HHi : Hid (∀ W, Calls Try.prog 68 #[.int .i64 kind, .int .u8 105] W fun e W' => e = .returned (.bool true) ∧ Below W.heap.size W W') := Lib.hid (fun W => (show hasF kind 105 = true by unfold hasF; rw [hk]; rfl) ▸ xhasf_any kind 105 W)
 have HCN : Hid (∀ W, Calls Try.prog 37 #[.int .i64 client, .int .i64 number] W fun e W' => e = .returned (.bool CN) ∧ W = W') := Lib.hid (fun W => hCN ▸ xmay9_any client number W)
 have HG : Hid (∀ W, Calls Try.prog 65 #[.string good] W fun e W' => e = .returned (.bool G) ∧ W = W') := Lib.hid (fun W => hG ▸ xgood_any good W hg)
 have HGZ := Lib.hid hGZ
 have HMI : Hid (∀ W, Below w.heap.size w W → Calls Try.prog 35 #[.slice A m c] W fun e W' => e = .returned (.bool MI) ∧ Below W.heap.size W W') := Lib.hid (fun W hW => hm2 ▸ hMI ▸ xmayI_any A c items W (hr.below hW) hb.1 hb.2)
 rw [hm2]
 clear hr hb hg hm2 hCN hG hGZ hMI hk
 have k0 := block_new w (.cells #[.int .i64 client, .int .i64 number, .int .i64 kind, .int .i64 order, .int .i64 region, .int .i64 to, .int .i64 n, .string good, .slice A m c] 24)
 have kb := (Below.refl _ w).alloc (Nat.le_refl _) (.cells #[.int .i64 client, .int .i64 number, .int .i64 kind, .int .i64 order, .int .i64 region, .int .i64 to, .int .i64 n, .string good, .slice A m c] 24)
 obtain ⟨W2, hW2⟩ : ∃ W2, w.alloc (.cells #[.int .i64 client, .int .i64 number, .int .i64 kind, .int .i64 order, .int .i64 region, .int .i64 to, .int .i64 n, .string good, .slice A m c] 24) = W2 := ⟨_, rfl⟩
 rw [hW2] at k0 kb
 have HKB := Lib.hid kb
 have HWW := Lib.hid hW2
 have HCA : Hid (∀ W, Below W2.heap.size W2 W → W.heap[w.heap.size]? = some (.cells #[.int .i64 client, .int .i64 number, .int .i64 kind, .int .i64 order, .int .i64 region, .int .i64 to, .int .i64 n, .string good, .slice A m c] 24 (0, 0))) := Lib.hid (fun W hW => (hW.block _ (lt_of_block k0)).trans k0)
 have HC0 : Hid (∀ W, Below W2.heap.size W2 W → W.cell? ⟨w.heap.size, 0, none⟩ = some (.int .i64 client)) := Lib.hid (fun W hW => cell_at (HCA.out W hW) 0)
 have HC1 : Hid (∀ W, Below W2.heap.size W2 W → W.cell? ⟨w.heap.size, 1, none⟩ = some (.int .i64 number)) := Lib.hid (fun W hW => cell_at (HCA.out W hW) 1)
 have HC2 : Hid (∀ W, Below W2.heap.size W2 W → W.cell? ⟨w.heap.size, 2, none⟩ = some (.int .i64 kind)) := Lib.hid (fun W hW => cell_at (HCA.out W hW) 2)
 have HC3 : Hid (∀ W, Below W2.heap.size W2 W → W.cell? ⟨w.heap.size, 3, none⟩ = some (.int .i64 order)) := Lib.hid (fun W hW => cell_at (HCA.out W hW) 3)
 have HC4 : Hid (∀ W, Below W2.heap.size W2 W → W.cell? ⟨w.heap.size, 4, none⟩ = some (.int .i64 region)) := Lib.hid (fun W hW => cell_at (HCA.out W hW) 4)
 have HC5 : Hid (∀ W, Below W2.heap.size W2 W → W.cell? ⟨w.heap.size, 5, none⟩ = some (.int .i64 to)) := Lib.hid (fun W hW => cell_at (HCA.out W hW) 5)
 have HC6 : Hid (∀ W, Below W2.heap.size W2 W → W.cell? ⟨w.heap.size, 6, none⟩ = some (.int .i64 n)) := Lib.hid (fun W hW => cell_at (HCA.out W hW) 6)
 have HC7 : Hid (∀ W, Below W2.heap.size W2 W → W.cell? ⟨w.heap.size, 7, none⟩ = some (.string good)) := Lib.hid (fun W hW => cell_at (HCA.out W hW) 7)
 have HC8 : Hid (∀ W, Below W2.heap.size W2 W → W.cell? ⟨w.heap.size, 8, none⟩ = some (.slice A m c)) := Lib.hid (fun W hW => cell_at (HCA.out W hW) 8)
 replace HMI : Hid (∀ W, Below W2.heap.size W2 W → Calls Try.prog 35 #[.slice A m c] W fun e W' => e = .returned (.bool MI) ∧ Below W.heap.size W W') := Lib.hid (fun W hW => HMI.out W (kb.trans (hW.mono kb.size)))
 clear k0 kb hW2
 subst hkk
 go_enter Try.func36, Try.ntmps36
 go_wp2_with fail
 rw [HWW.out]
 refine (HS.out W2).mono ?_
 rintro e w3 ⟨rfl, hb⟩
 have HB3 := Lib.hid hb
 clear hb
 have c0 := HC0.out w3 HB3.out
 have c1 := HC1.out w3 HB3.out
 have c2 := HC2.out w3 HB3.out
 have c3 := HC3.out w3 HB3.out
 have c4 := HC4.out w3 HB3.out
 have c5 := HC5.out w3 HB3.out
 have c6 := HC6.out w3 HB3.out
 have c7 := HC7.out w3 HB3.out
 have c8 := HC8.out w3 HB3.out
 go_wp2_with fail
 refine (HCN.out w3).mono ?_
 rintro e w4 ⟨rfl, rfl⟩
 cases CN
 case false =>
  go_wp2
  go_ret
  exact ⟨ret_bool HMA.out.symm, HKB.out.trans (HB3.out.mono HKB.out.size)⟩
 case true =>
  go_wp2_with fail
  refine (HHo.out w3).mono ?_
  rintro e w4 ⟨rfl, hb⟩
  have HB4 := Lib.hid (HB3.out.trans (hb.mono HB3.out.size))
  clear hb c0 c1 c2 c3 c4 c5 c6 c7 c8
  have c0 := HC0.out w4 HB4.out
  have c1 := HC1.out w4 HB4.out
  have c2 := HC2.out w4 HB4.out
  have c3 := HC3.out w4 HB4.out
  have c4 := HC4.out w4 HB4.out
  have c5 := HC5.out w4 HB4.out
  have c6 := HC6.out w4 HB4.out
  have c7 := HC7.out w4 HB4.out
  have c8 := HC8.out w4 HB4.out
  go_wp2_with fail
  refine (HHo.out w4).mono ?_
  rintro e w5 ⟨rfl, hb⟩
  have HB5 := Lib.hid (HB4.out.trans (hb.mono HB4.out.size))
  clear hb c0 c1 c2 c3 c4 c5 c6 c7 c8
  have c0 := HC0.out w5 HB5.out
  have c1 := HC1.out w5 HB5.out
  have c2 := HC2.out w5 HB5.out
  have c3 := HC3.out w5 HB5.out
  have c4 := HC4.out w5 HB5.out
  have c5 := HC5.out w5 HB5.out
  have c6 := HC6.out w5 HB5.out
  have c7 := HC7.out w5 HB5.out
  have c8 := HC8.out w5 HB5.out
  cases Z1
  case true =>
   go_wp2
   go_ret
   exact ⟨ret_bool HMA.out.symm, HKB.out.trans (HB5.out.mono HKB.out.size)⟩
  case false =>
   cases RL
   case true =>
    go_wp2
    go_ret
    exact ⟨ret_bool HMA.out.symm, HKB.out.trans (HB5.out.mono HKB.out.size)⟩
   case false =>
    cases RG
    case true =>
     go_wp2
     go_ret
     exact ⟨ret_bool HMA.out.symm, HKB.out.trans (HB5.out.mono HKB.out.size)⟩
    case false =>
     cases TL
     case true =>
      go_wp2
      go_ret
      exact ⟨ret_bool HMA.out.symm, HKB.out.trans (HB5.out.mono HKB.out.size)⟩
     case false =>
      cases TG
      case true =>
       go_wp2
       go_ret
       exact ⟨ret_bool HMA.out.symm, HKB.out.trans (HB5.out.mono HKB.out.size)⟩
      case false =>
       go_wp2_with fail
       refine (HHr.out w5).mono ?_
       rintro e w6 ⟨rfl, hb⟩
       have HB6 := Lib.hid (HB5.out.trans (hb.mono HB5.out.size))
       clear hb c0 c1 c2 c3 c4 c5 c6 c7 c8
       have c0 := HC0.out w6 HB6.out
       have c1 := HC1.out w6 HB6.out
       have c2 := HC2.out w6 HB6.out
       have c3 := HC3.out w6 HB6.out
       have c4 := HC4.out w6 HB6.out
       have c5 := HC5.out w6 HB6.out
       have c6 := HC6.out w6 HB6.out
       have c7 := HC7.out w6 HB6.out
       have c8 := HC8.out w6 HB6.out
       cases RZ
       case true =>
        go_wp2
        go_ret
        exact ⟨ret_bool HMA.out.symm, HKB.out.trans (HB6.out.mono HKB.out.size)⟩
       case false =>
        go_wp2_with fail
        refine (HHt.out w6).mono ?_
        rintro e w7 ⟨rfl, hb⟩
        have HB7 := Lib.hid (HB6.out.trans (hb.mono HB6.out.size))
        clear hb c0 c1 c2 c3 c4 c5 c6 c7 c8
        have c0 := HC0.out w7 HB7.out
        have c1 := HC1.out w7 HB7.out
        have c2 := HC2.out w7 HB7.out
        have c3 := HC3.out w7 HB7.out
        have c4 := HC4.out w7 HB7.out
        have c5 := HC5.out w7 HB7.out
        have c6 := HC6.out w7 HB7.out
        have c7 := HC7.out w7 HB7.out
        have c8 := HC8.out w7 HB7.out
        cases TZ
        case true =>
         go_wp2
         go_ret
         exact ⟨ret_bool HMA.out.symm, HKB.out.trans (HB7.out.mono HKB.out.size)⟩
        case false =>
         go_wp2_with fail
         refine (HHt.out w7).mono ?_
         rintro e w8 ⟨rfl, hb⟩
         have HB8 := Lib.hid (HB7.out.trans (hb.mono HB7.out.size))
         clear hb c0 c1 c2 c3 c4 c5 c6 c7 c8
         have c0 := HC0.out w8 HB8.out
         have c1 := HC1.out w8 HB8.out
         have c2 := HC2.out w8 HB8.out
         have c3 := HC3.out w8 HB8.out
         have c4 := HC4.out w8 HB8.out
         have c5 := HC5.out w8 HB8.out
         have c6 := HC6.out w8 HB8.out
         have c7 := HC7.out w8 HB8.out
         have c8 := HC8.out w8 HB8.out
         cases G
         case true =>
          go_wp2_with fail
          clear c0 c1 c2 c3 c4 c5 c6 c7 c8
          refine wp_region_flow (fun W => Below W2.heap.size W2 W) [0, 2, 3, 1, 4, 5, 6, 7, 8, 9, 10, 11, 12, 13, 14, 15] (by kernel_rfl) (by kernel_rfl) (by kernel_rfl) (HB8.out.drew) ?_
          iterate 2
           refine flow_val ?_ rfl (by kernel_rfl) (by rfl) (fun W hW => ?_) ?_
           rotate_left 1
           · go_simp <;> with_reducible rfl
           simp only [puts]
          refine flow_val ?_ rfl (by kernel_rfl) (by rfl) (fun W hW => ?_) ?_
          rotate_left 1
          · have c7 := HC7.out W hW; go_simp <;> with_reducible rfl
          simp only [puts]
          refine flow_call (.bool false) rfl (by kernel_rfl) (by rfl) (by kernel_rfl) (fun W hW => ⟨_, _, _, by go_simp, (HHg.out W).mono fun e w' ⟨he, hb⟩ => ⟨he, hW.trans (hb.mono hW.size)⟩⟩) ?_
          simp only [puts]
          refine flow_quiet (.bool true) rfl (by kernel_rfl) (by rfl) (fun W hW => ⟨_, _, by go_simp, HG.out W⟩) ?_
          simp only [puts]
          iterate 2
           refine flow_val ?_ rfl (by kernel_rfl) (by rfl) (fun W hW => ?_) ?_
           rotate_left 1
           · go_simp <;> with_reducible rfl
           simp only [puts]
          iterate 8
           refine flow_off rfl (by kernel_rfl) (by rfl) ?_
           simp only [puts]
          refine flow_val ?_ rfl (by kernel_rfl) (by rfl) (fun W hW => ?_) ?_
          rotate_left 1
          · go_simp <;> with_reducible rfl
          simp only [puts]
          refine flow_done ?_
          intro W hW
          have HB9 := Lib.hid (hW.1)
          clear hW
          go_wp2
          go_ret
          exact ⟨ret_bool HMA.out.symm, HKB.out.trans (HB9.out.mono HKB.out.size)⟩
         case false =>
          cases GZ
          case false =>
           go_wp2_with fail
           clear c0 c1 c2 c3 c4 c5 c6 c7 c8
           refine wp_region_flow (fun W => Below W2.heap.size W2 W) [0, 2, 3, 1, 4, 5, 6, 7, 8, 9, 10, 11, 12, 13, 14, 15] (by kernel_rfl) (by kernel_rfl) (by kernel_rfl) (HB8.out.drew) ?_
           iterate 2
            refine flow_val ?_ rfl (by kernel_rfl) (by rfl) (fun W hW => ?_) ?_
            rotate_left 1
            · go_simp <;> with_reducible rfl
            simp only [puts]
           refine flow_val ?_ rfl (by kernel_rfl) (by rfl) (fun W hW => ?_) ?_
           rotate_left 1
           · have c7 := HC7.out W hW; go_simp <;> with_reducible rfl
           simp only [puts]
           refine flow_call (.bool false) rfl (by kernel_rfl) (by rfl) (by kernel_rfl) (fun W hW => ⟨_, _, _, by go_simp, (HHg.out W).mono fun e w' ⟨he, hb⟩ => ⟨he, hW.trans (hb.mono hW.size)⟩⟩) ?_
           simp only [puts]
           refine flow_quiet (.bool false) rfl (by kernel_rfl) (by rfl) (fun W hW => ⟨_, _, by go_simp, HG.out W⟩) ?_
           simp only [puts]
           iterate 3
            refine flow_val ?_ rfl (by kernel_rfl) (by rfl) (fun W hW => ?_) ?_
            rotate_left 1
            · go_simp <;> with_reducible rfl
            simp only [puts]
           refine flow_call (.bool false) rfl (by kernel_rfl) (by rfl) (by kernel_rfl) (fun W hW => ⟨_, _, _, by go_simp, (HHg.out W).mono fun e w' ⟨he, hb⟩ => ⟨he, ⟨hW.1.trans (hb.mono hW.1.size), trivial⟩⟩⟩) ?_
           simp only [puts]
           iterate 3
            refine flow_val ?_ rfl (by kernel_rfl) (by rfl) (fun W hW => ?_) ?_
            rotate_left 1
            · go_simp <;> with_reducible rfl
            simp only [puts]
           refine flow_val ?_ rfl (by kernel_rfl) (by rfl) (fun W hW => ?_) ?_
           rotate_left 1
           · have c7 := HC7.out W hW.1.1; go_simp <;> with_reducible rfl
           simp only [puts]
           refine flow_val ?_ rfl (by kernel_rfl) (by rfl) (fun W hW => ?_) ?_
           rotate_left 1
           · have q := HGZ.out; go_simp <;> with_reducible rfl
           simp only [puts]
           iterate 2
            refine flow_val ?_ rfl (by kernel_rfl) (by rfl) (fun W hW => ?_) ?_
            rotate_left 1
            · go_simp <;> with_reducible rfl
            simp only [puts]
           refine flow_done ?_
           intro W hW
           have HB9 := Lib.hid (hW.1.1)
           clear hW
           go_wp2
           go_ret
           exact ⟨ret_bool HMA.out.symm, HKB.out.trans (HB9.out.mono HKB.out.size)⟩
          case true =>
           go_wp2_with fail
           clear c0 c1 c2 c3 c4 c5 c6 c7 c8
           refine wp_region_flow (fun W => Below W2.heap.size W2 W) [0, 2, 3, 1, 4, 5, 6, 7, 8, 9, 10, 11, 12, 13, 14, 15] (by kernel_rfl) (by kernel_rfl) (by kernel_rfl) (HB8.out.drew) ?_
           iterate 2
            refine flow_val ?_ rfl (by kernel_rfl) (by rfl) (fun W hW => ?_) ?_
            rotate_left 1
            · go_simp <;> with_reducible rfl
            simp only [puts]
           refine flow_val ?_ rfl (by kernel_rfl) (by rfl) (fun W hW => ?_) ?_
           rotate_left 1
           · have c7 := HC7.out W hW; go_simp <;> with_reducible rfl
           simp only [puts]
           refine flow_call (.bool false) rfl (by kernel_rfl) (by rfl) (by kernel_rfl) (fun W hW => ⟨_, _, _, by go_simp, (HHg.out W).mono fun e w' ⟨he, hb⟩ => ⟨he, hW.trans (hb.mono hW.size)⟩⟩) ?_
           simp only [puts]
           refine flow_quiet (.bool false) rfl (by kernel_rfl) (by rfl) (fun W hW => ⟨_, _, by go_simp, HG.out W⟩) ?_
           simp only [puts]
           iterate 3
            refine flow_val ?_ rfl (by kernel_rfl) (by rfl) (fun W hW => ?_) ?_
            rotate_left 1
            · go_simp <;> with_reducible rfl
            simp only [puts]
           refine flow_call (.bool false) rfl (by kernel_rfl) (by rfl) (by kernel_rfl) (fun W hW => ⟨_, _, _, by go_simp, (HHg.out W).mono fun e w' ⟨he, hb⟩ => ⟨he, ⟨hW.1.trans (hb.mono hW.1.size), trivial⟩⟩⟩) ?_
           simp only [puts]
           iterate 3
            refine flow_val ?_ rfl (by kernel_rfl) (by rfl) (fun W hW => ?_) ?_
            rotate_left 1
            · go_simp <;> with_reducible rfl
            simp only [puts]
           refine flow_val ?_ rfl (by kernel_rfl) (by rfl) (fun W hW => ?_) ?_
           rotate_left 1
           · have c7 := HC7.out W hW.1.1; go_simp <;> with_reducible rfl
           simp only [puts]
           refine flow_val ?_ rfl (by kernel_rfl) (by rfl) (fun W hW => ?_) ?_
           rotate_left 1
           · have q := HGZ.out; go_simp <;> with_reducible rfl
           simp only [puts]
           iterate 2
            refine flow_val ?_ rfl (by kernel_rfl) (by rfl) (fun W hW => ?_) ?_
            rotate_left 1
            · go_simp <;> with_reducible rfl
            simp only [puts]
           refine flow_done ?_
           intro W hW
           have HB9 := Lib.hid (hW.1.1)
           clear hW
           obtain ⟨w9, hw⟩ : ∃ w9, w9 = W := ⟨_, rfl⟩
           subst hw
           have c0 := HC0.out w9 HB9.out
           have c1 := HC1.out w9 HB9.out
           have c2 := HC2.out w9 HB9.out
           have c3 := HC3.out w9 HB9.out
           have c4 := HC4.out w9 HB9.out
           have c5 := HC5.out w9 HB9.out
           have c6 := HC6.out w9 HB9.out
           have c7 := HC7.out w9 HB9.out
           have c8 := HC8.out w9 HB9.out
           go_wp2_with fail
           refine (HHi.out w9).mono ?_
           rintro e w10 ⟨rfl, hb⟩
           have HB10 := Lib.hid (HB9.out.trans (hb.mono HB9.out.size))
           clear hb c0 c1 c2 c3 c4 c5 c6 c7 c8
           have c0 := HC0.out w10 HB10.out
           have c1 := HC1.out w10 HB10.out
           have c2 := HC2.out w10 HB10.out
           have c3 := HC3.out w10 HB10.out
           have c4 := HC4.out w10 HB10.out
           have c5 := HC5.out w10 HB10.out
           have c6 := HC6.out w10 HB10.out
           have c7 := HC7.out w10 HB10.out
           have c8 := HC8.out w10 HB10.out
           cases IE
           case true =>
            go_wp2
            go_ret
            exact ⟨ret_bool HMA.out.symm, HKB.out.trans (HB10.out.mono HKB.out.size)⟩
           case false =>
            go_wp2_with fail
            refine (HHi.out w10).mono ?_
            rintro e w11 ⟨rfl, hb⟩
            have HB11 := Lib.hid (HB10.out.trans (hb.mono HB10.out.size))
            clear hb c0 c1 c2 c3 c4 c5 c6 c7 c8
            have c0 := HC0.out w11 HB11.out
            have c1 := HC1.out w11 HB11.out
            have c2 := HC2.out w11 HB11.out
            have c3 := HC3.out w11 HB11.out
            have c4 := HC4.out w11 HB11.out
            have c5 := HC5.out w11 HB11.out
            have c6 := HC6.out w11 HB11.out
            have c7 := HC7.out w11 HB11.out
            have c8 := HC8.out w11 HB11.out
            go_wp2_with fail
            refine (HMI.out w11 HB11.out).mono ?_
            rintro e w12 ⟨rfl, hb⟩
            have HB12 := Lib.hid (HB11.out.trans (hb.mono HB11.out.size))
            clear hb c0 c1 c2 c3 c4 c5 c6 c7 c8
            have c0 := HC0.out w12 HB12.out
            have c1 := HC1.out w12 HB12.out
            have c2 := HC2.out w12 HB12.out
            have c3 := HC3.out w12 HB12.out
            have c4 := HC4.out w12 HB12.out
            have c5 := HC5.out w12 HB12.out
            have c6 := HC6.out w12 HB12.out
            have c7 := HC7.out w12 HB12.out
            have c8 := HC8.out w12 HB12.out
            cases MI
            case false =>
             go_wp2
             go_ret
             exact ⟨ret_bool HMA.out.symm, HKB.out.trans (HB12.out.mono HKB.out.size)⟩
            case true =>
             cases P0
             case true =>
              go_wp2
              go_ret
              exact ⟨ret_bool HMA.out.symm, HKB.out.trans (HB12.out.mono HKB.out.size)⟩
             case false =>
              go_wp2
              go_ret
              exact ⟨ret_bool HMA.out.symm, HKB.out.trans (HB12.out.mono HKB.out.size)⟩
set_option maxRecDepth 100000 in
set_option maxHeartbeats 4000000 in
theorem xamay_k2 (client number kind order region to n : Int) (good : ByteArray) (items : List It) (A : Option Addr) (c : Nat) (w : World) (hk : fldA kind = [111]) (hr : Rd w 2 A items.length (items.flatMap encI)) (hb : BdL items) (hg : good.size ≤ 9223372036854775807) :
 Calls Try.prog 36 #[akV ⟨client, number, kind, order, region, to, n, good, items⟩ (.slice A items.length c)] w fun e W => e = .returned (.bool (mayA ⟨client, number, kind, order, region, to, n, good, items⟩)) ∧ Below w.heap.size w W := by
 obtain ⟨m, hm2⟩ : ∃ m, items.length = m := ⟨_, rfl⟩
 obtain ⟨CN, hCN⟩ : ∃ CN, (inB client 0 63 && inB number 1 4294967296) = CN := ⟨_, rfl⟩
 obtain ⟨L1, hL1⟩ : ∃ L1, decide (order < 1) = L1 := ⟨_, rfl⟩
 obtain ⟨L2, hL2⟩ : ∃ L2, decide (1099511627776 < order) = L2 := ⟨_, rfl⟩
 obtain ⟨Z1, hZ1⟩ : ∃ Z1, (order != 0) = Z1 := ⟨_, rfl⟩
 obtain ⟨RL, hRL⟩ : ∃ RL, decide (region < 0) = RL := ⟨_, rfl⟩
 obtain ⟨RG, hRG⟩ : ∃ RG, decide (7 < region) = RG := ⟨_, rfl⟩
 obtain ⟨RZ, hRZ⟩ : ∃ RZ, (region != 0) = RZ := ⟨_, rfl⟩
 obtain ⟨TL, hTL⟩ : ∃ TL, decide (to < 0) = TL := ⟨_, rfl⟩
 obtain ⟨TG, hTG⟩ : ∃ TG, decide (7 < to) = TG := ⟨_, rfl⟩
 obtain ⟨TZ, hTZ⟩ : ∃ TZ, (to != 0) = TZ := ⟨_, rfl⟩
 obtain ⟨TE, hTE⟩ : ∃ TE, (to == region) = TE := ⟨_, rfl⟩
 obtain ⟨G, hG⟩ : ∃ G, goodS good = G := ⟨_, rfl⟩
 obtain ⟨GZ, hGZ⟩ : ∃ GZ, (good.toList == []) = GZ := ⟨_, rfl⟩
 obtain ⟨MI, hMI⟩ : ∃ MI, mayI items = MI := ⟨_, rfl⟩
 obtain ⟨P0, hP0⟩ : ∃ P0, (n == 0) = P0 := ⟨_, rfl⟩
 obtain ⟨P1, hP1⟩ : ∃ P1, (n == 1) = P1 := ⟨_, rfl⟩
 obtain ⟨Q1, hQ1⟩ : ∃ Q1, decide (1 ≤ n) = Q1 := ⟨_, rfl⟩
 obtain ⟨Q2, hQ2⟩ : ∃ Q2, decide (n ≤ 4294967297) = Q2 := ⟨_, rfl⟩
 obtain ⟨IE, hIE⟩ : ∃ IE, (m == 0) = IE := ⟨_, rfl⟩
 obtain ⟨LP, hLP⟩ : ∃ LP, decide (0 < m) = LP := ⟨_, rfl⟩
 have hIE2 : ((m : Int) == 0) = IE := by rw [← hIE]; exact decide_eq_decide.2 (by omega)
 have hLP2 : decide ((0 : Int) < (m : Int)) = LP := by rw [← hLP]; exact decide_eq_decide.2 (by omega)
 have hkk : kind = 2 ∨ kind = 3 ∨ kind = 4 := fldA_k2 hk
 have HMA : Hid (mayA ⟨client, number, kind, order, region, to, n, good, items⟩ = (CN && ((!L1 && !L2) && ((!RL && (!RG && (!TL && (!TG && (!RZ && !TZ))))) && ((!G && GZ) && ((!LP && MI) && P0)))))) := Lib.hid (by
  refine (mayA_parts _ (by rw [hk]; rfl)).trans ?_
  simp only
  rw [hCN]
  congr 1
  rw [right_on (by unfold hasF; rw [hk]; rfl), right_off (by unfold hasF; rw [hk]; rfl), right_off (by unfold hasF; rw [hk]; rfl), right_off (by unfold hasF; rw [hk]; rfl), right_off (by unfold hasF; rw [hk]; rfl)]
  rw [in_neg order 1 1099511627776, hL1, hL2, z_all region, hRL, hRG, hRZ, z_all to, hTL, hTG, hTZ, good_off good, hG, hGZ, items_off items, hm2, hLP, hMI, mayN0 (by omega) (by omega) (by omega), hP0]
  cases RL <;> cases RG <;> cases TL <;> cases TG <;> cases RZ <;> cases TZ <;> rfl)
 have HS : Hid (∀ W, Calls Try.prog 67 #[.int .i64 kind] W fun e W' => e = .returned (.string ⟨#[111]⟩) ∧ Below W.heap.size W W') := Lib.hid (fun W => (show hasA kind = ⟨#[111]⟩ by unfold hasA; rw [hk]; rfl) ▸ xhas_any kind W)
 have HHo : Hid (∀ W, Calls Try.prog 68 #[.int .i64 kind, .int .u8 111] W fun e W' => e = .returned (.bool true) ∧ Below W.heap.size W W') := Lib.hid (fun W => (show hasF kind 111 = true by unfold hasF; rw [hk]; rfl) ▸ xhasf_any kind 111 W)
 have HHr : Hid (∀ W, Calls Try.prog 68 #[.int .i64 kind, .int .u8 114] W fun e W' => e = .returned (.bool false) ∧ Below W.heap.size W W') := Lib.hid (fun W => (show hasF kind 114 = false by unfold hasF; rw [hk]; rfl) ▸ xhasf_any kind 114 W)
 have HHt : Hid (∀ W, Calls Try.prog 68 #[.int .i64 kind, .int .u8 116] W fun e W' => e = .returned (.bool false) ∧ Below W.heap.size W W') := Lib.hid (fun W => (show hasF kind 116 = false by unfold hasF; rw [hk]; rfl) ▸ xhasf_any kind 116 W)
 have HHg : Hid (∀ W, Calls Try.prog 68 #[.int .i64 kind, .int .u8 103] W fun e W' => e = .returned (.bool false) ∧ Below W.heap.size W W') := Lib.hid (fun W => (show hasF kind 103 = false by unfold hasF; rw [hk]; rfl) ▸ xhasf_any kind 103 W)
 have HHi : Hid (∀ W, Calls Try.prog 68 #[.int .i64 kind, .int .u8 105] W fun e W' => e = .returned (.bool false) ∧ Below W.heap.size W W') := Lib.hid (fun W => (show hasF kind 105 = false by unfold hasF; rw [hk]; rfl) ▸ xhasf_any kind 105 W)
 have HCN : Hid (∀ W, Calls Try.prog 37 #[.int .i64 client, .int .i64 number] W fun e W' => e = .returned (.bool CN) ∧ W = W') := Lib.hid (fun W => hCN ▸ xmay9_any client number W)
 have HG : Hid (∀ W, Calls Try.prog 65 #[.string good] W fun e W' => e = .returned (.bool G) ∧ W = W') := Lib.hid (fun W => hG ▸ xgood_any good W hg)
 have HGZ := Lib.hid hGZ
 have HMI : Hid (∀ W, Below w.heap.size w W → Calls Try.prog 35 #[.slice A m c] W fun e W' => e = .returned (.bool MI) ∧ Below W.heap.size W W') := Lib.hid (fun W hW => hm2 ▸ hMI ▸ xmayI_any A c items W (hr.below hW) hb.1 hb.2)
 rw [hm2]
 clear hr hb hg hm2 hCN hG hGZ hMI hk
 have k0 := block_new w (.cells #[.int .i64 client, .int .i64 number, .int .i64 kind, .int .i64 order, .int .i64 region, .int .i64 to, .int .i64 n, .string good, .slice A m c] 24)
 have kb := (Below.refl _ w).alloc (Nat.le_refl _) (.cells #[.int .i64 client, .int .i64 number, .int .i64 kind, .int .i64 order, .int .i64 region, .int .i64 to, .int .i64 n, .string good, .slice A m c] 24)
 obtain ⟨W2, hW2⟩ : ∃ W2, w.alloc (.cells #[.int .i64 client, .int .i64 number, .int .i64 kind, .int .i64 order, .int .i64 region, .int .i64 to, .int .i64 n, .string good, .slice A m c] 24) = W2 := ⟨_, rfl⟩
 rw [hW2] at k0 kb
 have HKB := Lib.hid kb
 have HWW := Lib.hid hW2
 have HCA : Hid (∀ W, Below W2.heap.size W2 W → W.heap[w.heap.size]? = some (.cells #[.int .i64 client, .int .i64 number, .int .i64 kind, .int .i64 order, .int .i64 region, .int .i64 to, .int .i64 n, .string good, .slice A m c] 24 (0, 0))) := Lib.hid (fun W hW => (hW.block _ (lt_of_block k0)).trans k0)
 have HC0 : Hid (∀ W, Below W2.heap.size W2 W → W.cell? ⟨w.heap.size, 0, none⟩ = some (.int .i64 client)) := Lib.hid (fun W hW => cell_at (HCA.out W hW) 0)
 have HC1 : Hid (∀ W, Below W2.heap.size W2 W → W.cell? ⟨w.heap.size, 1, none⟩ = some (.int .i64 number)) := Lib.hid (fun W hW => cell_at (HCA.out W hW) 1)
 have HC2 : Hid (∀ W, Below W2.heap.size W2 W → W.cell? ⟨w.heap.size, 2, none⟩ = some (.int .i64 kind)) := Lib.hid (fun W hW => cell_at (HCA.out W hW) 2)
 have HC3 : Hid (∀ W, Below W2.heap.size W2 W → W.cell? ⟨w.heap.size, 3, none⟩ = some (.int .i64 order)) := Lib.hid (fun W hW => cell_at (HCA.out W hW) 3)
 have HC4 : Hid (∀ W, Below W2.heap.size W2 W → W.cell? ⟨w.heap.size, 4, none⟩ = some (.int .i64 region)) := Lib.hid (fun W hW => cell_at (HCA.out W hW) 4)
 have HC5 : Hid (∀ W, Below W2.heap.size W2 W → W.cell? ⟨w.heap.size, 5, none⟩ = some (.int .i64 to)) := Lib.hid (fun W hW => cell_at (HCA.out W hW) 5)
 have HC6 : Hid (∀ W, Below W2.heap.size W2 W → W.cell? ⟨w.heap.size, 6, none⟩ = some (.int .i64 n)) := Lib.hid (fun W hW => cell_at (HCA.out W hW) 6)
 have HC7 : Hid (∀ W, Below W2.heap.size W2 W → W.cell? ⟨w.heap.size, 7, none⟩ = some (.string good)) := Lib.hid (fun W hW => cell_at (HCA.out W hW) 7)
 have HC8 : Hid (∀ W, Below W2.heap.size W2 W → W.cell? ⟨w.heap.size, 8, none⟩ = some (.slice A m c)) := Lib.hid (fun W hW => cell_at (HCA.out W hW) 8)
 replace HMI : Hid (∀ W, Below W2.heap.size W2 W → Calls Try.prog 35 #[.slice A m c] W fun e W' => e = .returned (.bool MI) ∧ Below W.heap.size W W') := Lib.hid (fun W hW => HMI.out W (kb.trans (hW.mono kb.size)))
 clear k0 kb hW2
 have e1 : (kind == 1) = false := by simp; omega
 have e7 : (kind == 7) = false := by simp; omega
 have e11 : (kind == 11) = false := by simp; omega
 clear hkk
 go_enter Try.func36, Try.ntmps36
 go_wp2_with fail
 rw [HWW.out]
 refine (HS.out W2).mono ?_
 rintro e w3 ⟨rfl, hb⟩
 have HB3 := Lib.hid hb
 clear hb
 have c0 := HC0.out w3 HB3.out
 have c1 := HC1.out w3 HB3.out
 have c2 := HC2.out w3 HB3.out
 have c3 := HC3.out w3 HB3.out
 have c4 := HC4.out w3 HB3.out
 have c5 := HC5.out w3 HB3.out
 have c6 := HC6.out w3 HB3.out
 have c7 := HC7.out w3 HB3.out
 have c8 := HC8.out w3 HB3.out
 go_wp2_with fail
 refine (HCN.out w3).mono ?_
 rintro e w4 ⟨rfl, rfl⟩
 cases CN
 case false =>
  go_wp2
  go_ret
  exact ⟨ret_bool HMA.out.symm, HKB.out.trans (HB3.out.mono HKB.out.size)⟩
 case true =>
  go_wp2_with fail
  refine (HHo.out w3).mono ?_
  rintro e w4 ⟨rfl, hb⟩
  have HB4 := Lib.hid (HB3.out.trans (hb.mono HB3.out.size))
  clear hb c0 c1 c2 c3 c4 c5 c6 c7 c8
  have c0 := HC0.out w4 HB4.out
  have c1 := HC1.out w4 HB4.out
  have c2 := HC2.out w4 HB4.out
  have c3 := HC3.out w4 HB4.out
  have c4 := HC4.out w4 HB4.out
  have c5 := HC5.out w4 HB4.out
  have c6 := HC6.out w4 HB4.out
  have c7 := HC7.out w4 HB4.out
  have c8 := HC8.out w4 HB4.out
  cases L1
  case true =>
   go_wp2
   go_ret
   exact ⟨ret_bool HMA.out.symm, HKB.out.trans (HB4.out.mono HKB.out.size)⟩
  case false =>
   cases L2
   case true =>
    go_wp2
    go_ret
    exact ⟨ret_bool HMA.out.symm, HKB.out.trans (HB4.out.mono HKB.out.size)⟩
   case false =>
    go_wp2_with fail
    refine (HHo.out w4).mono ?_
    rintro e w5 ⟨rfl, hb⟩
    have HB5 := Lib.hid (HB4.out.trans (hb.mono HB4.out.size))
    clear hb c0 c1 c2 c3 c4 c5 c6 c7 c8
    have c0 := HC0.out w5 HB5.out
    have c1 := HC1.out w5 HB5.out
    have c2 := HC2.out w5 HB5.out
    have c3 := HC3.out w5 HB5.out
    have c4 := HC4.out w5 HB5.out
    have c5 := HC5.out w5 HB5.out
    have c6 := HC6.out w5 HB5.out
    have c7 := HC7.out w5 HB5.out
    have c8 := HC8.out w5 HB5.out
    cases RL
    case true =>
     go_wp2
     go_ret
     exact ⟨ret_bool HMA.out.symm, HKB.out.trans (HB5.out.mono HKB.out.size)⟩
    case false =>
     cases RG
     case true =>
      go_wp2
      go_ret
      exact ⟨ret_bool HMA.out.symm, HKB.out.trans (HB5.out.mono HKB.out.size)⟩
     case false =>
      cases TL
      case true =>
       go_wp2
       go_ret
       exact ⟨ret_bool HMA.out.symm, HKB.out.trans (HB5.out.mono HKB.out.size)⟩
      case false =>
       cases TG
       case true =>
        go_wp2
        go_ret
        exact ⟨ret_bool HMA.out.symm, HKB.out.trans (HB5.out.mono HKB.out.size)⟩
       case false =>
        go_wp2_with fail
        refine (HHr.out w5).mono ?_
        rintro e w6 ⟨rfl, hb⟩
        have HB6 := Lib.hid (HB5.out.trans (hb.mono HB5.out.size))
        clear hb c0 c1 c2 c3 c4 c5 c6 c7 c8
        have c0 := HC0.out w6 HB6.out
        have c1 := HC1.out w6 HB6.out
        have c2 := HC2.out w6 HB6.out
        have c3 := HC3.out w6 HB6.out
        have c4 := HC4.out w6 HB6.out
        have c5 := HC5.out w6 HB6.out
        have c6 := HC6.out w6 HB6.out
        have c7 := HC7.out w6 HB6.out
        have c8 := HC8.out w6 HB6.out
        cases RZ
        case true =>
         go_wp2
         go_ret
         exact ⟨ret_bool HMA.out.symm, HKB.out.trans (HB6.out.mono HKB.out.size)⟩
        case false =>
         go_wp2_with fail
         refine (HHt.out w6).mono ?_
         rintro e w7 ⟨rfl, hb⟩
         have HB7 := Lib.hid (HB6.out.trans (hb.mono HB6.out.size))
         clear hb c0 c1 c2 c3 c4 c5 c6 c7 c8
         have c0 := HC0.out w7 HB7.out
         have c1 := HC1.out w7 HB7.out
         have c2 := HC2.out w7 HB7.out
         have c3 := HC3.out w7 HB7.out
         have c4 := HC4.out w7 HB7.out
         have c5 := HC5.out w7 HB7.out
         have c6 := HC6.out w7 HB7.out
         have c7 := HC7.out w7 HB7.out
         have c8 := HC8.out w7 HB7.out
         cases TZ
         case true =>
          go_wp2
          go_ret
          exact ⟨ret_bool HMA.out.symm, HKB.out.trans (HB7.out.mono HKB.out.size)⟩
         case false =>
          go_wp2_with fail
          refine (HHt.out w7).mono ?_
          rintro e w8 ⟨rfl, hb⟩
          have HB8 := Lib.hid (HB7.out.trans (hb.mono HB7.out.size))
          clear hb c0 c1 c2 c3 c4 c5 c6 c7 c8
          have c0 := HC0.out w8 HB8.out
          have c1 := HC1.out w8 HB8.out
          have c2 := HC2.out w8 HB8.out
          have c3 := HC3.out w8 HB8.out
          have c4 := HC4.out w8 HB8.out
          have c5 := HC5.out w8 HB8.out
          have c6 := HC6.out w8 HB8.out
          have c7 := HC7.out w8 HB8.out
          have c8 := HC8.out w8 HB8.out
          cases G
          case true =>
           go_wp2_with fail
           clear c0 c1 c2 c3 c4 c5 c6 c7 c8
           refine wp_region_flow (fun W => Below W2.heap.size W2 W) [0, 2, 3, 1, 4, 5, 6, 7, 8, 9, 10, 11, 12, 13, 14, 15] (by kernel_rfl) (by kernel_rfl) (by kernel_rfl) (HB8.out.drew) ?_
           iterate 2
            refine flow_val ?_ rfl (by kernel_rfl) (by rfl) (fun W hW => ?_) ?_
            rotate_left 1
            · go_simp <;> with_reducible rfl
            simp only [puts]
           refine flow_val ?_ rfl (by kernel_rfl) (by rfl) (fun W hW => ?_) ?_
           rotate_left 1
           · have c7 := HC7.out W hW; go_simp <;> with_reducible rfl
           simp only [puts]
           refine flow_call (.bool false) rfl (by kernel_rfl) (by rfl) (by kernel_rfl) (fun W hW => ⟨_, _, _, by go_simp, (HHg.out W).mono fun e w' ⟨he, hb⟩ => ⟨he, hW.trans (hb.mono hW.size)⟩⟩) ?_
           simp only [puts]
           refine flow_quiet (.bool true) rfl (by kernel_rfl) (by rfl) (fun W hW => ⟨_, _, by go_simp, HG.out W⟩) ?_
           simp only [puts]
           iterate 2
            refine flow_val ?_ rfl (by kernel_rfl) (by rfl) (fun W hW => ?_) ?_
            rotate_left 1
            · go_simp <;> with_reducible rfl
            simp only [puts]
           iterate 8
            refine flow_off rfl (by kernel_rfl) (by rfl) ?_
            simp only [puts]
           refine flow_val ?_ rfl (by kernel_rfl) (by rfl) (fun W hW => ?_) ?_
           rotate_left 1
           · go_simp <;> with_reducible rfl
           simp only [puts]
           refine flow_done ?_
           intro W hW
           have HB9 := Lib.hid (hW.1)
           clear hW
           go_wp2
           go_ret
           exact ⟨ret_bool HMA.out.symm, HKB.out.trans (HB9.out.mono HKB.out.size)⟩
          case false =>
           cases GZ
           case false =>
            go_wp2_with fail
            clear c0 c1 c2 c3 c4 c5 c6 c7 c8
            refine wp_region_flow (fun W => Below W2.heap.size W2 W) [0, 2, 3, 1, 4, 5, 6, 7, 8, 9, 10, 11, 12, 13, 14, 15] (by kernel_rfl) (by kernel_rfl) (by kernel_rfl) (HB8.out.drew) ?_
            iterate 2
             refine flow_val ?_ rfl (by kernel_rfl) (by rfl) (fun W hW => ?_) ?_
             rotate_left 1
             · go_simp <;> with_reducible rfl
             simp only [puts]
            refine flow_val ?_ rfl (by kernel_rfl) (by rfl) (fun W hW => ?_) ?_
            rotate_left 1
            · have c7 := HC7.out W hW; go_simp <;> with_reducible rfl
            simp only [puts]
            refine flow_call (.bool false) rfl (by kernel_rfl) (by rfl) (by kernel_rfl) (fun W hW => ⟨_, _, _, by go_simp, (HHg.out W).mono fun e w' ⟨he, hb⟩ => ⟨he, hW.trans (hb.mono hW.size)⟩⟩) ?_
            simp only [puts]
            refine flow_quiet (.bool false) rfl (by kernel_rfl) (by rfl) (fun W hW => ⟨_, _, by go_simp, HG.out W⟩) ?_
            simp only [puts]
            iterate 3
             refine flow_val ?_ rfl (by kernel_rfl) (by rfl) (fun W hW => ?_) ?_
             rotate_left 1
             · go_simp <;> with_reducible rfl
             simp only [puts]
            refine flow_call (.bool false) rfl (by kernel_rfl) (by rfl) (by kernel_rfl) (fun W hW => ⟨_, _, _, by go_simp, (HHg.out W).mono fun e w' ⟨he, hb⟩ => ⟨he, ⟨hW.1.trans (hb.mono hW.1.size), trivial⟩⟩⟩) ?_
            simp only [puts]
            iterate 3
             refine flow_val ?_ rfl (by kernel_rfl) (by rfl) (fun W hW => ?_) ?_
             rotate_left 1
             · go_simp <;> with_reducible rfl
             simp only [puts]
            refine flow_val ?_ rfl (by kernel_rfl) (by rfl) (fun W hW => ?_) ?_
            rotate_left 1
            · have c7 := HC7.out W hW.1.1; go_simp <;> with_reducible rfl
            simp only [puts]
            refine flow_val ?_ rfl (by kernel_rfl) (by rfl) (fun W hW => ?_) ?_
            rotate_left 1
            · have q := HGZ.out; go_simp <;> with_reducible rfl
            simp only [puts]
            iterate 2
             refine flow_val ?_ rfl (by kernel_rfl) (by rfl) (fun W hW => ?_) ?_
             rotate_left 1
             · go_simp <;> with_reducible rfl
             simp only [puts]
            refine flow_done ?_
            intro W hW
            have HB9 := Lib.hid (hW.1.1)
            clear hW
            go_wp2
            go_ret
            exact ⟨ret_bool HMA.out.symm, HKB.out.trans (HB9.out.mono HKB.out.size)⟩
           case true =>
            go_wp2_with fail
            clear c0 c1 c2 c3 c4 c5 c6 c7 c8
            refine wp_region_flow (fun W => Below W2.heap.size W2 W) [0, 2, 3, 1, 4, 5, 6, 7, 8, 9, 10, 11, 12, 13, 14, 15] (by kernel_rfl) (by kernel_rfl) (by kernel_rfl) (HB8.out.drew) ?_
            iterate 2
             refine flow_val ?_ rfl (by kernel_rfl) (by rfl) (fun W hW => ?_) ?_
             rotate_left 1
             · go_simp <;> with_reducible rfl
             simp only [puts]
            refine flow_val ?_ rfl (by kernel_rfl) (by rfl) (fun W hW => ?_) ?_
            rotate_left 1
            · have c7 := HC7.out W hW; go_simp <;> with_reducible rfl
            simp only [puts]
            refine flow_call (.bool false) rfl (by kernel_rfl) (by rfl) (by kernel_rfl) (fun W hW => ⟨_, _, _, by go_simp, (HHg.out W).mono fun e w' ⟨he, hb⟩ => ⟨he, hW.trans (hb.mono hW.size)⟩⟩) ?_
            simp only [puts]
            refine flow_quiet (.bool false) rfl (by kernel_rfl) (by rfl) (fun W hW => ⟨_, _, by go_simp, HG.out W⟩) ?_
            simp only [puts]
            iterate 3
             refine flow_val ?_ rfl (by kernel_rfl) (by rfl) (fun W hW => ?_) ?_
             rotate_left 1
             · go_simp <;> with_reducible rfl
             simp only [puts]
            refine flow_call (.bool false) rfl (by kernel_rfl) (by rfl) (by kernel_rfl) (fun W hW => ⟨_, _, _, by go_simp, (HHg.out W).mono fun e w' ⟨he, hb⟩ => ⟨he, ⟨hW.1.trans (hb.mono hW.1.size), trivial⟩⟩⟩) ?_
            simp only [puts]
            iterate 3
             refine flow_val ?_ rfl (by kernel_rfl) (by rfl) (fun W hW => ?_) ?_
             rotate_left 1
             · go_simp <;> with_reducible rfl
             simp only [puts]
            refine flow_val ?_ rfl (by kernel_rfl) (by rfl) (fun W hW => ?_) ?_
            rotate_left 1
            · have c7 := HC7.out W hW.1.1; go_simp <;> with_reducible rfl
            simp only [puts]
            refine flow_val ?_ rfl (by kernel_rfl) (by rfl) (fun W hW => ?_) ?_
            rotate_left 1
            · have q := HGZ.out; go_simp <;> with_reducible rfl
            simp only [puts]
            iterate 2
             refine flow_val ?_ rfl (by kernel_rfl) (by rfl) (fun W hW => ?_) ?_
             rotate_left 1
             · go_simp <;> with_reducible rfl
             simp only [puts]
            refine flow_done ?_
            intro W hW
            have HB9 := Lib.hid (hW.1.1)
            clear hW
            obtain ⟨w9, hw⟩ : ∃ w9, w9 = W := ⟨_, rfl⟩
            subst hw
            have c0 := HC0.out w9 HB9.out
            have c1 := HC1.out w9 HB9.out
            have c2 := HC2.out w9 HB9.out
            have c3 := HC3.out w9 HB9.out
            have c4 := HC4.out w9 HB9.out
            have c5 := HC5.out w9 HB9.out
            have c6 := HC6.out w9 HB9.out
            have c7 := HC7.out w9 HB9.out
            have c8 := HC8.out w9 HB9.out
            go_wp2_with fail
            refine (HHi.out w9).mono ?_
            rintro e w10 ⟨rfl, hb⟩
            have HB10 := Lib.hid (HB9.out.trans (hb.mono HB9.out.size))
            clear hb c0 c1 c2 c3 c4 c5 c6 c7 c8
            have c0 := HC0.out w10 HB10.out
            have c1 := HC1.out w10 HB10.out
            have c2 := HC2.out w10 HB10.out
            have c3 := HC3.out w10 HB10.out
            have c4 := HC4.out w10 HB10.out
            have c5 := HC5.out w10 HB10.out
            have c6 := HC6.out w10 HB10.out
            have c7 := HC7.out w10 HB10.out
            have c8 := HC8.out w10 HB10.out
            go_wp2_with fail
            refine (HHi.out w10).mono ?_
            rintro e w11 ⟨rfl, hb⟩
            have HB11 := Lib.hid (HB10.out.trans (hb.mono HB10.out.size))
            clear hb c0 c1 c2 c3 c4 c5 c6 c7 c8
            have c0 := HC0.out w11 HB11.out
            have c1 := HC1.out w11 HB11.out
            have c2 := HC2.out w11 HB11.out
            have c3 := HC3.out w11 HB11.out
            have c4 := HC4.out w11 HB11.out
            have c5 := HC5.out w11 HB11.out
            have c6 := HC6.out w11 HB11.out
            have c7 := HC7.out w11 HB11.out
            have c8 := HC8.out w11 HB11.out
            cases LP
            case true =>
             go_wp2
             go_ret
             exact ⟨ret_bool HMA.out.symm, HKB.out.trans (HB11.out.mono HKB.out.size)⟩
            case false =>
             go_wp2_with fail
             refine (HMI.out w11 HB11.out).mono ?_
             rintro e w12 ⟨rfl, hb⟩
             have HB12 := Lib.hid (HB11.out.trans (hb.mono HB11.out.size))
             clear hb c0 c1 c2 c3 c4 c5 c6 c7 c8
             have c0 := HC0.out w12 HB12.out
             have c1 := HC1.out w12 HB12.out
             have c2 := HC2.out w12 HB12.out
             have c3 := HC3.out w12 HB12.out
             have c4 := HC4.out w12 HB12.out
             have c5 := HC5.out w12 HB12.out
             have c6 := HC6.out w12 HB12.out
             have c7 := HC7.out w12 HB12.out
             have c8 := HC8.out w12 HB12.out
             cases MI
             case false =>
              go_wp2
              go_ret
              exact ⟨ret_bool HMA.out.symm, HKB.out.trans (HB12.out.mono HKB.out.size)⟩
             case true =>
              go_wp2
              go_ret
              exact ⟨ret_bool HMA.out.symm, HKB.out.trans (HB12.out.mono HKB.out.size)⟩
set_option maxRecDepth 100000 in
set_option maxHeartbeats 4000000 in
theorem xamay_k5 (client number kind order region to n : Int) (good : ByteArray) (items : List It) (A : Option Addr) (c : Nat) (w : World) (hk : fldA kind = [111, 114, 105]) (hr : Rd w 2 A items.length (items.flatMap encI)) (hb : BdL items) (hg : good.size ≤ 9223372036854775807) :
 Calls Try.prog 36 #[akV ⟨client, number, kind, order, region, to, n, good, items⟩ (.slice A items.length c)] w fun e W => e = .returned (.bool (mayA ⟨client, number, kind, order, region, to, n, good, items⟩)) ∧ Below w.heap.size w W := by
 obtain ⟨m, hm2⟩ : ∃ m, items.length = m := ⟨_, rfl⟩
 obtain ⟨CN, hCN⟩ : ∃ CN, (inB client 0 63 && inB number 1 4294967296) = CN := ⟨_, rfl⟩
 obtain ⟨L1, hL1⟩ : ∃ L1, decide (order < 1) = L1 := ⟨_, rfl⟩
 obtain ⟨L2, hL2⟩ : ∃ L2, decide (1099511627776 < order) = L2 := ⟨_, rfl⟩
 obtain ⟨Z1, hZ1⟩ : ∃ Z1, (order != 0) = Z1 := ⟨_, rfl⟩
 obtain ⟨RL, hRL⟩ : ∃ RL, decide (region < 0) = RL := ⟨_, rfl⟩
 obtain ⟨RG, hRG⟩ : ∃ RG, decide (7 < region) = RG := ⟨_, rfl⟩
 obtain ⟨RZ, hRZ⟩ : ∃ RZ, (region != 0) = RZ := ⟨_, rfl⟩
 obtain ⟨TL, hTL⟩ : ∃ TL, decide (to < 0) = TL := ⟨_, rfl⟩
 obtain ⟨TG, hTG⟩ : ∃ TG, decide (7 < to) = TG := ⟨_, rfl⟩
 obtain ⟨TZ, hTZ⟩ : ∃ TZ, (to != 0) = TZ := ⟨_, rfl⟩
 obtain ⟨TE, hTE⟩ : ∃ TE, (to == region) = TE := ⟨_, rfl⟩
 obtain ⟨G, hG⟩ : ∃ G, goodS good = G := ⟨_, rfl⟩
 obtain ⟨GZ, hGZ⟩ : ∃ GZ, (good.toList == []) = GZ := ⟨_, rfl⟩
 obtain ⟨MI, hMI⟩ : ∃ MI, mayI items = MI := ⟨_, rfl⟩
 obtain ⟨P0, hP0⟩ : ∃ P0, (n == 0) = P0 := ⟨_, rfl⟩
 obtain ⟨P1, hP1⟩ : ∃ P1, (n == 1) = P1 := ⟨_, rfl⟩
 obtain ⟨Q1, hQ1⟩ : ∃ Q1, decide (1 ≤ n) = Q1 := ⟨_, rfl⟩
 obtain ⟨Q2, hQ2⟩ : ∃ Q2, decide (n ≤ 4294967297) = Q2 := ⟨_, rfl⟩
 obtain ⟨IE, hIE⟩ : ∃ IE, (m == 0) = IE := ⟨_, rfl⟩
 obtain ⟨LP, hLP⟩ : ∃ LP, decide (0 < m) = LP := ⟨_, rfl⟩
 have hIE2 : ((m : Int) == 0) = IE := by rw [← hIE]; exact decide_eq_decide.2 (by omega)
 have hLP2 : decide ((0 : Int) < (m : Int)) = LP := by rw [← hLP]; exact decide_eq_decide.2 (by omega)
 have hkk : kind = 5 := fldA_k5 hk
 have HMA : Hid (mayA ⟨client, number, kind, order, region, to, n, good, items⟩ = (CN && ((!L1 && !L2) && ((!RL && (!RG && (!TL && (!TG && (!TZ))))) && ((!G && GZ) && ((!IE && MI) && P0)))))) := Lib.hid (by
  refine (mayA_parts _ (by rw [hk]; rfl)).trans ?_
  simp only
  rw [hCN]
  congr 1
  rw [right_on (by unfold hasF; rw [hk]; rfl), right_on (by unfold hasF; rw [hk]; rfl), right_off (by unfold hasF; rw [hk]; rfl), right_off (by unfold hasF; rw [hk]; rfl), right_on (by unfold hasF; rw [hk]; rfl)]
  rw [in_neg order 1 1099511627776, hL1, hL2, in_neg region 0 7, hRL, hRG, z_all to, hTL, hTG, hTZ, good_off good, hG, hGZ, items_on items, hm2, hIE, hMI, mayN0 (by omega) (by omega) (by omega), hP0]
  cases RL <;> cases RG <;> cases TL <;> cases TG <;> cases TZ <;> rfl)
 have HS : Hid (∀ W, Calls Try.prog 67 #[.int .i64 kind] W fun e W' => e = .returned (.string ⟨#[111, 114, 105]⟩) ∧ Below W.heap.size W W') := Lib.hid (fun W => (show hasA kind = ⟨#[111, 114, 105]⟩ by unfold hasA; rw [hk]; rfl) ▸ xhas_any kind W)
 have HHo : Hid (∀ W, Calls Try.prog 68 #[.int .i64 kind, .int .u8 111] W fun e W' => e = .returned (.bool true) ∧ Below W.heap.size W W') := Lib.hid (fun W => (show hasF kind 111 = true by unfold hasF; rw [hk]; rfl) ▸ xhasf_any kind 111 W)
 have HHr : Hid (∀ W, Calls Try.prog 68 #[.int .i64 kind, .int .u8 114] W fun e W' => e = .returned (.bool true) ∧ Below W.heap.size W W') := Lib.hid (fun W => (show hasF kind 114 = true by unfold hasF; rw [hk]; rfl) ▸ xhasf_any kind 114 W)
 have HHt : Hid (∀ W, Calls Try.prog 68 #[.int .i64 kind, .int .u8 116] W fun e W' => e = .returned (.bool false) ∧ Below W.heap.size W W') := Lib.hid (fun W => (show hasF kind 116 = false by unfold hasF; rw [hk]; rfl) ▸ xhasf_any kind 116 W)
 have HHg : Hid (∀ W, Calls Try.prog 68 #[.int .i64 kind, .int .u8 103] W fun e W' => e = .returned (.bool false) ∧ Below W.heap.size W W') := Lib.hid (fun W => (show hasF kind 103 = false by unfold hasF; rw [hk]; rfl) ▸ xhasf_any kind 103 W)
 have HHi : Hid (∀ W, Calls Try.prog 68 #[.int .i64 kind, .int .u8 105] W fun e W' => e = .returned (.bool true) ∧ Below W.heap.size W W') := Lib.hid (fun W => (show hasF kind 105 = true by unfold hasF; rw [hk]; rfl) ▸ xhasf_any kind 105 W)
 have HCN : Hid (∀ W, Calls Try.prog 37 #[.int .i64 client, .int .i64 number] W fun e W' => e = .returned (.bool CN) ∧ W = W') := Lib.hid (fun W => hCN ▸ xmay9_any client number W)
 have HG : Hid (∀ W, Calls Try.prog 65 #[.string good] W fun e W' => e = .returned (.bool G) ∧ W = W') := Lib.hid (fun W => hG ▸ xgood_any good W hg)
 have HGZ := Lib.hid hGZ
 have HMI : Hid (∀ W, Below w.heap.size w W → Calls Try.prog 35 #[.slice A m c] W fun e W' => e = .returned (.bool MI) ∧ Below W.heap.size W W') := Lib.hid (fun W hW => hm2 ▸ hMI ▸ xmayI_any A c items W (hr.below hW) hb.1 hb.2)
 rw [hm2]
 clear hr hb hg hm2 hCN hG hGZ hMI hk
 have k0 := block_new w (.cells #[.int .i64 client, .int .i64 number, .int .i64 kind, .int .i64 order, .int .i64 region, .int .i64 to, .int .i64 n, .string good, .slice A m c] 24)
 have kb := (Below.refl _ w).alloc (Nat.le_refl _) (.cells #[.int .i64 client, .int .i64 number, .int .i64 kind, .int .i64 order, .int .i64 region, .int .i64 to, .int .i64 n, .string good, .slice A m c] 24)
 obtain ⟨W2, hW2⟩ : ∃ W2, w.alloc (.cells #[.int .i64 client, .int .i64 number, .int .i64 kind, .int .i64 order, .int .i64 region, .int .i64 to, .int .i64 n, .string good, .slice A m c] 24) = W2 := ⟨_, rfl⟩
 rw [hW2] at k0 kb
 have HKB := Lib.hid kb
 have HWW := Lib.hid hW2
 have HCA : Hid (∀ W, Below W2.heap.size W2 W → W.heap[w.heap.size]? = some (.cells #[.int .i64 client, .int .i64 number, .int .i64 kind, .int .i64 order, .int .i64 region, .int .i64 to, .int .i64 n, .string good, .slice A m c] 24 (0, 0))) := Lib.hid (fun W hW => (hW.block _ (lt_of_block k0)).trans k0)
 have HC0 : Hid (∀ W, Below W2.heap.size W2 W → W.cell? ⟨w.heap.size, 0, none⟩ = some (.int .i64 client)) := Lib.hid (fun W hW => cell_at (HCA.out W hW) 0)
 have HC1 : Hid (∀ W, Below W2.heap.size W2 W → W.cell? ⟨w.heap.size, 1, none⟩ = some (.int .i64 number)) := Lib.hid (fun W hW => cell_at (HCA.out W hW) 1)
 have HC2 : Hid (∀ W, Below W2.heap.size W2 W → W.cell? ⟨w.heap.size, 2, none⟩ = some (.int .i64 kind)) := Lib.hid (fun W hW => cell_at (HCA.out W hW) 2)
 have HC3 : Hid (∀ W, Below W2.heap.size W2 W → W.cell? ⟨w.heap.size, 3, none⟩ = some (.int .i64 order)) := Lib.hid (fun W hW => cell_at (HCA.out W hW) 3)
 have HC4 : Hid (∀ W, Below W2.heap.size W2 W → W.cell? ⟨w.heap.size, 4, none⟩ = some (.int .i64 region)) := Lib.hid (fun W hW => cell_at (HCA.out W hW) 4)
 have HC5 : Hid (∀ W, Below W2.heap.size W2 W → W.cell? ⟨w.heap.size, 5, none⟩ = some (.int .i64 to)) := Lib.hid (fun W hW => cell_at (HCA.out W hW) 5)
 have HC6 : Hid (∀ W, Below W2.heap.size W2 W → W.cell? ⟨w.heap.size, 6, none⟩ = some (.int .i64 n)) := Lib.hid (fun W hW => cell_at (HCA.out W hW) 6)
 have HC7 : Hid (∀ W, Below W2.heap.size W2 W → W.cell? ⟨w.heap.size, 7, none⟩ = some (.string good)) := Lib.hid (fun W hW => cell_at (HCA.out W hW) 7)
 have HC8 : Hid (∀ W, Below W2.heap.size W2 W → W.cell? ⟨w.heap.size, 8, none⟩ = some (.slice A m c)) := Lib.hid (fun W hW => cell_at (HCA.out W hW) 8)
 replace HMI : Hid (∀ W, Below W2.heap.size W2 W → Calls Try.prog 35 #[.slice A m c] W fun e W' => e = .returned (.bool MI) ∧ Below W.heap.size W W') := Lib.hid (fun W hW => HMI.out W (kb.trans (hW.mono kb.size)))
 clear k0 kb hW2
 have e1 : (kind == 1) = false := by simp; omega
 have e7 : (kind == 7) = false := by simp; omega
 have e11 : (kind == 11) = false := by simp; omega
 clear hkk
 go_enter Try.func36, Try.ntmps36
 go_wp2_with fail
 rw [HWW.out]
 refine (HS.out W2).mono ?_
 rintro e w3 ⟨rfl, hb⟩
 have HB3 := Lib.hid hb
 clear hb
 have c0 := HC0.out w3 HB3.out
 have c1 := HC1.out w3 HB3.out
 have c2 := HC2.out w3 HB3.out
 have c3 := HC3.out w3 HB3.out
 have c4 := HC4.out w3 HB3.out
 have c5 := HC5.out w3 HB3.out
 have c6 := HC6.out w3 HB3.out
 have c7 := HC7.out w3 HB3.out
 have c8 := HC8.out w3 HB3.out
 go_wp2_with fail
 refine (HCN.out w3).mono ?_
 rintro e w4 ⟨rfl, rfl⟩
 cases CN
 case false =>
  go_wp2
  go_ret
  exact ⟨ret_bool HMA.out.symm, HKB.out.trans (HB3.out.mono HKB.out.size)⟩
 case true =>
  go_wp2_with fail
  refine (HHo.out w3).mono ?_
  rintro e w4 ⟨rfl, hb⟩
  have HB4 := Lib.hid (HB3.out.trans (hb.mono HB3.out.size))
  clear hb c0 c1 c2 c3 c4 c5 c6 c7 c8
  have c0 := HC0.out w4 HB4.out
  have c1 := HC1.out w4 HB4.out
  have c2 := HC2.out w4 HB4.out
  have c3 := HC3.out w4 HB4.out
  have c4 := HC4.out w4 HB4.out
  have c5 := HC5.out w4 HB4.out
  have c6 := HC6.out w4 HB4.out
  have c7 := HC7.out w4 HB4.out
  have c8 := HC8.out w4 HB4.out
  cases L1
  case true =>
   go_wp2
   go_ret
   exact ⟨ret_bool HMA.out.symm, HKB.out.trans (HB4.out.mono HKB.out.size)⟩
  case false =>
   cases L2
   case true =>
    go_wp2
    go_ret
    exact ⟨ret_bool HMA.out.symm, HKB.out.trans (HB4.out.mono HKB.out.size)⟩
   case false =>
    go_wp2_with fail
    refine (HHo.out w4).mono ?_
    rintro e w5 ⟨rfl, hb⟩
    have HB5 := Lib.hid (HB4.out.trans (hb.mono HB4.out.size))
    clear hb c0 c1 c2 c3 c4 c5 c6 c7 c8
    have c0 := HC0.out w5 HB5.out
    have c1 := HC1.out w5 HB5.out
    have c2 := HC2.out w5 HB5.out
    have c3 := HC3.out w5 HB5.out
    have c4 := HC4.out w5 HB5.out
    have c5 := HC5.out w5 HB5.out
    have c6 := HC6.out w5 HB5.out
    have c7 := HC7.out w5 HB5.out
    have c8 := HC8.out w5 HB5.out
    cases RL
    case true =>
     go_wp2
     go_ret
     exact ⟨ret_bool HMA.out.symm, HKB.out.trans (HB5.out.mono HKB.out.size)⟩
    case false =>
     cases RG
     case true =>
      go_wp2
      go_ret
      exact ⟨ret_bool HMA.out.symm, HKB.out.trans (HB5.out.mono HKB.out.size)⟩
     case false =>
      cases TL
      case true =>
       go_wp2
       go_ret
       exact ⟨ret_bool HMA.out.symm, HKB.out.trans (HB5.out.mono HKB.out.size)⟩
      case false =>
       cases TG
       case true =>
        go_wp2
        go_ret
        exact ⟨ret_bool HMA.out.symm, HKB.out.trans (HB5.out.mono HKB.out.size)⟩
       case false =>
        go_wp2_with fail
        refine (HHr.out w5).mono ?_
        rintro e w6 ⟨rfl, hb⟩
        have HB6 := Lib.hid (HB5.out.trans (hb.mono HB5.out.size))
        clear hb c0 c1 c2 c3 c4 c5 c6 c7 c8
        have c0 := HC0.out w6 HB6.out
        have c1 := HC1.out w6 HB6.out
        have c2 := HC2.out w6 HB6.out
        have c3 := HC3.out w6 HB6.out
        have c4 := HC4.out w6 HB6.out
        have c5 := HC5.out w6 HB6.out
        have c6 := HC6.out w6 HB6.out
        have c7 := HC7.out w6 HB6.out
        have c8 := HC8.out w6 HB6.out
        go_wp2_with fail
        refine (HHt.out w6).mono ?_
        rintro e w7 ⟨rfl, hb⟩
        have HB7 := Lib.hid (HB6.out.trans (hb.mono HB6.out.size))
        clear hb c0 c1 c2 c3 c4 c5 c6 c7 c8
        have c0 := HC0.out w7 HB7.out
        have c1 := HC1.out w7 HB7.out
        have c2 := HC2.out w7 HB7.out
        have c3 := HC3.out w7 HB7.out
        have c4 := HC4.out w7 HB7.out
        have c5 := HC5.out w7 HB7.out
        have c6 := HC6.out w7 HB7.out
        have c7 := HC7.out w7 HB7.out
        have c8 := HC8.out w7 HB7.out
        cases TZ
        case true =>
         go_wp2
         go_ret
         exact ⟨ret_bool HMA.out.symm, HKB.out.trans (HB7.out.mono HKB.out.size)⟩
        case false =>
         go_wp2_with fail
         refine (HHt.out w7).mono ?_
         rintro e w8 ⟨rfl, hb⟩
         have HB8 := Lib.hid (HB7.out.trans (hb.mono HB7.out.size))
         clear hb c0 c1 c2 c3 c4 c5 c6 c7 c8
         have c0 := HC0.out w8 HB8.out
         have c1 := HC1.out w8 HB8.out
         have c2 := HC2.out w8 HB8.out
         have c3 := HC3.out w8 HB8.out
         have c4 := HC4.out w8 HB8.out
         have c5 := HC5.out w8 HB8.out
         have c6 := HC6.out w8 HB8.out
         have c7 := HC7.out w8 HB8.out
         have c8 := HC8.out w8 HB8.out
         cases G
         case true =>
          go_wp2_with fail
          clear c0 c1 c2 c3 c4 c5 c6 c7 c8
          refine wp_region_flow (fun W => Below W2.heap.size W2 W) [0, 2, 3, 1, 4, 5, 6, 7, 8, 9, 10, 11, 12, 13, 14, 15] (by kernel_rfl) (by kernel_rfl) (by kernel_rfl) (HB8.out.drew) ?_
          iterate 2
           refine flow_val ?_ rfl (by kernel_rfl) (by rfl) (fun W hW => ?_) ?_
           rotate_left 1
           · go_simp <;> with_reducible rfl
           simp only [puts]
          refine flow_val ?_ rfl (by kernel_rfl) (by rfl) (fun W hW => ?_) ?_
          rotate_left 1
          · have c7 := HC7.out W hW; go_simp <;> with_reducible rfl
          simp only [puts]
          refine flow_call (.bool false) rfl (by kernel_rfl) (by rfl) (by kernel_rfl) (fun W hW => ⟨_, _, _, by go_simp, (HHg.out W).mono fun e w' ⟨he, hb⟩ => ⟨he, hW.trans (hb.mono hW.size)⟩⟩) ?_
          simp only [puts]
          refine flow_quiet (.bool true) rfl (by kernel_rfl) (by rfl) (fun W hW => ⟨_, _, by go_simp, HG.out W⟩) ?_
          simp only [puts]
          iterate 2
           refine flow_val ?_ rfl (by kernel_rfl) (by rfl) (fun W hW => ?_) ?_
           rotate_left 1
           · go_simp <;> with_reducible rfl
           simp only [puts]
          iterate 8
           refine flow_off rfl (by kernel_rfl) (by rfl) ?_
           simp only [puts]
          refine flow_val ?_ rfl (by kernel_rfl) (by rfl) (fun W hW => ?_) ?_
          rotate_left 1
          · go_simp <;> with_reducible rfl
          simp only [puts]
          refine flow_done ?_
          intro W hW
          have HB9 := Lib.hid (hW.1)
          clear hW
          go_wp2
          go_ret
          exact ⟨ret_bool HMA.out.symm, HKB.out.trans (HB9.out.mono HKB.out.size)⟩
         case false =>
          cases GZ
          case false =>
           go_wp2_with fail
           clear c0 c1 c2 c3 c4 c5 c6 c7 c8
           refine wp_region_flow (fun W => Below W2.heap.size W2 W) [0, 2, 3, 1, 4, 5, 6, 7, 8, 9, 10, 11, 12, 13, 14, 15] (by kernel_rfl) (by kernel_rfl) (by kernel_rfl) (HB8.out.drew) ?_
           iterate 2
            refine flow_val ?_ rfl (by kernel_rfl) (by rfl) (fun W hW => ?_) ?_
            rotate_left 1
            · go_simp <;> with_reducible rfl
            simp only [puts]
           refine flow_val ?_ rfl (by kernel_rfl) (by rfl) (fun W hW => ?_) ?_
           rotate_left 1
           · have c7 := HC7.out W hW; go_simp <;> with_reducible rfl
           simp only [puts]
           refine flow_call (.bool false) rfl (by kernel_rfl) (by rfl) (by kernel_rfl) (fun W hW => ⟨_, _, _, by go_simp, (HHg.out W).mono fun e w' ⟨he, hb⟩ => ⟨he, hW.trans (hb.mono hW.size)⟩⟩) ?_
           simp only [puts]
           refine flow_quiet (.bool false) rfl (by kernel_rfl) (by rfl) (fun W hW => ⟨_, _, by go_simp, HG.out W⟩) ?_
           simp only [puts]
           iterate 3
            refine flow_val ?_ rfl (by kernel_rfl) (by rfl) (fun W hW => ?_) ?_
            rotate_left 1
            · go_simp <;> with_reducible rfl
            simp only [puts]
           refine flow_call (.bool false) rfl (by kernel_rfl) (by rfl) (by kernel_rfl) (fun W hW => ⟨_, _, _, by go_simp, (HHg.out W).mono fun e w' ⟨he, hb⟩ => ⟨he, ⟨hW.1.trans (hb.mono hW.1.size), trivial⟩⟩⟩) ?_
           simp only [puts]
           iterate 3
            refine flow_val ?_ rfl (by kernel_rfl) (by rfl) (fun W hW => ?_) ?_
            rotate_left 1
            · go_simp <;> with_reducible rfl
            simp only [puts]
           refine flow_val ?_ rfl (by kernel_rfl) (by rfl) (fun W hW => ?_) ?_
           rotate_left 1
           · have c7 := HC7.out W hW.1.1; go_simp <;> with_reducible rfl
           simp only [puts]
           refine flow_val ?_ rfl (by kernel_rfl) (by rfl) (fun W hW => ?_) ?_
           rotate_left 1
           · have q := HGZ.out; go_simp <;> with_reducible rfl
           simp only [puts]
           iterate 2
            refine flow_val ?_ rfl (by kernel_rfl) (by rfl) (fun W hW => ?_) ?_
            rotate_left 1
            · go_simp <;> with_reducible rfl
            simp only [puts]
           refine flow_done ?_
           intro W hW
           have HB9 := Lib.hid (hW.1.1)
           clear hW
           go_wp2
           go_ret
           exact ⟨ret_bool HMA.out.symm, HKB.out.trans (HB9.out.mono HKB.out.size)⟩
          case true =>
           go_wp2_with fail
           clear c0 c1 c2 c3 c4 c5 c6 c7 c8
           refine wp_region_flow (fun W => Below W2.heap.size W2 W) [0, 2, 3, 1, 4, 5, 6, 7, 8, 9, 10, 11, 12, 13, 14, 15] (by kernel_rfl) (by kernel_rfl) (by kernel_rfl) (HB8.out.drew) ?_
           iterate 2
            refine flow_val ?_ rfl (by kernel_rfl) (by rfl) (fun W hW => ?_) ?_
            rotate_left 1
            · go_simp <;> with_reducible rfl
            simp only [puts]
           refine flow_val ?_ rfl (by kernel_rfl) (by rfl) (fun W hW => ?_) ?_
           rotate_left 1
           · have c7 := HC7.out W hW; go_simp <;> with_reducible rfl
           simp only [puts]
           refine flow_call (.bool false) rfl (by kernel_rfl) (by rfl) (by kernel_rfl) (fun W hW => ⟨_, _, _, by go_simp, (HHg.out W).mono fun e w' ⟨he, hb⟩ => ⟨he, hW.trans (hb.mono hW.size)⟩⟩) ?_
           simp only [puts]
           refine flow_quiet (.bool false) rfl (by kernel_rfl) (by rfl) (fun W hW => ⟨_, _, by go_simp, HG.out W⟩) ?_
           simp only [puts]
           iterate 3
            refine flow_val ?_ rfl (by kernel_rfl) (by rfl) (fun W hW => ?_) ?_
            rotate_left 1
            · go_simp <;> with_reducible rfl
            simp only [puts]
           refine flow_call (.bool false) rfl (by kernel_rfl) (by rfl) (by kernel_rfl) (fun W hW => ⟨_, _, _, by go_simp, (HHg.out W).mono fun e w' ⟨he, hb⟩ => ⟨he, ⟨hW.1.trans (hb.mono hW.1.size), trivial⟩⟩⟩) ?_
           simp only [puts]
           iterate 3
            refine flow_val ?_ rfl (by kernel_rfl) (by rfl) (fun W hW => ?_) ?_
            rotate_left 1
            · go_simp <;> with_reducible rfl
            simp only [puts]
           refine flow_val ?_ rfl (by kernel_rfl) (by rfl) (fun W hW => ?_) ?_
           rotate_left 1
           · have c7 := HC7.out W hW.1.1; go_simp <;> with_reducible rfl
           simp only [puts]
           refine flow_val ?_ rfl (by kernel_rfl) (by rfl) (fun W hW => ?_) ?_
           rotate_left 1
           · have q := HGZ.out; go_simp <;> with_reducible rfl
           simp only [puts]
           iterate 2
            refine flow_val ?_ rfl (by kernel_rfl) (by rfl) (fun W hW => ?_) ?_
            rotate_left 1
            · go_simp <;> with_reducible rfl
            simp only [puts]
           refine flow_done ?_
           intro W hW
           have HB9 := Lib.hid (hW.1.1)
           clear hW
           obtain ⟨w9, hw⟩ : ∃ w9, w9 = W := ⟨_, rfl⟩
           subst hw
           have c0 := HC0.out w9 HB9.out
           have c1 := HC1.out w9 HB9.out
           have c2 := HC2.out w9 HB9.out
           have c3 := HC3.out w9 HB9.out
           have c4 := HC4.out w9 HB9.out
           have c5 := HC5.out w9 HB9.out
           have c6 := HC6.out w9 HB9.out
           have c7 := HC7.out w9 HB9.out
           have c8 := HC8.out w9 HB9.out
           go_wp2_with fail
           refine (HHi.out w9).mono ?_
           rintro e w10 ⟨rfl, hb⟩
           have HB10 := Lib.hid (HB9.out.trans (hb.mono HB9.out.size))
           clear hb c0 c1 c2 c3 c4 c5 c6 c7 c8
           have c0 := HC0.out w10 HB10.out
           have c1 := HC1.out w10 HB10.out
           have c2 := HC2.out w10 HB10.out
           have c3 := HC3.out w10 HB10.out
           have c4 := HC4.out w10 HB10.out
           have c5 := HC5.out w10 HB10.out
           have c6 := HC6.out w10 HB10.out
           have c7 := HC7.out w10 HB10.out
           have c8 := HC8.out w10 HB10.out
           cases IE
           case true =>
            go_wp2
            go_ret
            exact ⟨ret_bool HMA.out.symm, HKB.out.trans (HB10.out.mono HKB.out.size)⟩
           case false =>
            go_wp2_with fail
            refine (HHi.out w10).mono ?_
            rintro e w11 ⟨rfl, hb⟩
            have HB11 := Lib.hid (HB10.out.trans (hb.mono HB10.out.size))
            clear hb c0 c1 c2 c3 c4 c5 c6 c7 c8
            have c0 := HC0.out w11 HB11.out
            have c1 := HC1.out w11 HB11.out
            have c2 := HC2.out w11 HB11.out
            have c3 := HC3.out w11 HB11.out
            have c4 := HC4.out w11 HB11.out
            have c5 := HC5.out w11 HB11.out
            have c6 := HC6.out w11 HB11.out
            have c7 := HC7.out w11 HB11.out
            have c8 := HC8.out w11 HB11.out
            go_wp2_with fail
            refine (HMI.out w11 HB11.out).mono ?_
            rintro e w12 ⟨rfl, hb⟩
            have HB12 := Lib.hid (HB11.out.trans (hb.mono HB11.out.size))
            clear hb c0 c1 c2 c3 c4 c5 c6 c7 c8
            have c0 := HC0.out w12 HB12.out
            have c1 := HC1.out w12 HB12.out
            have c2 := HC2.out w12 HB12.out
            have c3 := HC3.out w12 HB12.out
            have c4 := HC4.out w12 HB12.out
            have c5 := HC5.out w12 HB12.out
            have c6 := HC6.out w12 HB12.out
            have c7 := HC7.out w12 HB12.out
            have c8 := HC8.out w12 HB12.out
            cases MI
            case false =>
             go_wp2
             go_ret
             exact ⟨ret_bool HMA.out.symm, HKB.out.trans (HB12.out.mono HKB.out.size)⟩
            case true =>
             go_wp2
             go_ret
             exact ⟨ret_bool HMA.out.symm, HKB.out.trans (HB12.out.mono HKB.out.size)⟩
set_option maxRecDepth 100000 in
set_option maxHeartbeats 4000000 in
theorem xamay_k6 (client number kind order region to n : Int) (good : ByteArray) (items : List It) (A : Option Addr) (c : Nat) (w : World) (hk : fldA kind = [114, 105]) (hr : Rd w 2 A items.length (items.flatMap encI)) (hb : BdL items) (hg : good.size ≤ 9223372036854775807) :
 Calls Try.prog 36 #[akV ⟨client, number, kind, order, region, to, n, good, items⟩ (.slice A items.length c)] w fun e W => e = .returned (.bool (mayA ⟨client, number, kind, order, region, to, n, good, items⟩)) ∧ Below w.heap.size w W := by
 obtain ⟨m, hm2⟩ : ∃ m, items.length = m := ⟨_, rfl⟩
 obtain ⟨CN, hCN⟩ : ∃ CN, (inB client 0 63 && inB number 1 4294967296) = CN := ⟨_, rfl⟩
 obtain ⟨L1, hL1⟩ : ∃ L1, decide (order < 1) = L1 := ⟨_, rfl⟩
 obtain ⟨L2, hL2⟩ : ∃ L2, decide (1099511627776 < order) = L2 := ⟨_, rfl⟩
 obtain ⟨Z1, hZ1⟩ : ∃ Z1, (order != 0) = Z1 := ⟨_, rfl⟩
 obtain ⟨RL, hRL⟩ : ∃ RL, decide (region < 0) = RL := ⟨_, rfl⟩
 obtain ⟨RG, hRG⟩ : ∃ RG, decide (7 < region) = RG := ⟨_, rfl⟩
 obtain ⟨RZ, hRZ⟩ : ∃ RZ, (region != 0) = RZ := ⟨_, rfl⟩
 obtain ⟨TL, hTL⟩ : ∃ TL, decide (to < 0) = TL := ⟨_, rfl⟩
 obtain ⟨TG, hTG⟩ : ∃ TG, decide (7 < to) = TG := ⟨_, rfl⟩
 obtain ⟨TZ, hTZ⟩ : ∃ TZ, (to != 0) = TZ := ⟨_, rfl⟩
 obtain ⟨TE, hTE⟩ : ∃ TE, (to == region) = TE := ⟨_, rfl⟩
 obtain ⟨G, hG⟩ : ∃ G, goodS good = G := ⟨_, rfl⟩
 obtain ⟨GZ, hGZ⟩ : ∃ GZ, (good.toList == []) = GZ := ⟨_, rfl⟩
 obtain ⟨MI, hMI⟩ : ∃ MI, mayI items = MI := ⟨_, rfl⟩
 obtain ⟨P0, hP0⟩ : ∃ P0, (n == 0) = P0 := ⟨_, rfl⟩
 obtain ⟨P1, hP1⟩ : ∃ P1, (n == 1) = P1 := ⟨_, rfl⟩
 obtain ⟨Q1, hQ1⟩ : ∃ Q1, decide (1 ≤ n) = Q1 := ⟨_, rfl⟩
 obtain ⟨Q2, hQ2⟩ : ∃ Q2, decide (n ≤ 4294967297) = Q2 := ⟨_, rfl⟩
 obtain ⟨IE, hIE⟩ : ∃ IE, (m == 0) = IE := ⟨_, rfl⟩
 obtain ⟨LP, hLP⟩ : ∃ LP, decide (0 < m) = LP := ⟨_, rfl⟩
 have hIE2 : ((m : Int) == 0) = IE := by rw [← hIE]; exact decide_eq_decide.2 (by omega)
 have hLP2 : decide ((0 : Int) < (m : Int)) = LP := by rw [← hLP]; exact decide_eq_decide.2 (by omega)
 have hkk : kind = 6 ∨ kind = 8 ∨ kind = 9 := fldA_k6 hk
 have HMA : Hid (mayA ⟨client, number, kind, order, region, to, n, good, items⟩ = (CN && (!Z1 && ((!RL && (!RG && (!TL && (!TG && (!TZ))))) && ((!G && GZ) && ((!IE && MI) && P0)))))) := Lib.hid (by
  refine (mayA_parts _ (by rw [hk]; rfl)).trans ?_
  simp only
  rw [hCN]
  congr 1
  rw [right_off (by unfold hasF; rw [hk]; rfl), right_on (by unfold hasF; rw [hk]; rfl), right_off (by unfold hasF; rw [hk]; rfl), right_off (by unfold hasF; rw [hk]; rfl), right_on (by unfold hasF; rw [hk]; rfl)]
  rw [z_neg order, hZ1, in_neg region 0 7, hRL, hRG, z_all to, hTL, hTG, hTZ, good_off good, hG, hGZ, items_on items, hm2, hIE, hMI, mayN0 (by omega) (by omega) (by omega), hP0]
  cases RL <;> cases RG <;> cases TL <;> cases TG <;> cases TZ <;> rfl)
 have HS : Hid (∀ W, Calls Try.prog 67 #[.int .i64 kind] W fun e W' => e = .returned (.string ⟨#[114, 105]⟩) ∧ Below W.heap.size W W') := Lib.hid (fun W => (show hasA kind = ⟨#[114, 105]⟩ by unfold hasA; rw [hk]; rfl) ▸ xhas_any kind W)
 have HHo : Hid (∀ W, Calls Try.prog 68 #[.int .i64 kind, .int .u8 111] W fun e W' => e = .returned (.bool false) ∧ Below W.heap.size W W') := Lib.hid (fun W => (show hasF kind 111 = false by unfold hasF; rw [hk]; rfl) ▸ xhasf_any kind 111 W)
 have HHr : Hid (∀ W, Calls Try.prog 68 #[.int .i64 kind, .int .u8 114] W fun e W' => e = .returned (.bool true) ∧ Below W.heap.size W W') := Lib.hid (fun W => (show hasF kind 114 = true by unfold hasF; rw [hk]; rfl) ▸ xhasf_any kind 114 W)
 have HHt : Hid (∀ W, Calls Try.prog 68 #[.int .i64 kind, .int .u8 116] W fun e W' => e = .returned (.bool false) ∧ Below W.heap.size W W') := Lib.hid (fun W => (show hasF kind 116 = false by unfold hasF; rw [hk]; rfl) ▸ xhasf_any kind 116 W)
 have HHg : Hid (∀ W, Calls Try.prog 68 #[.int .i64 kind, .int .u8 103] W fun e W' => e = .returned (.bool false) ∧ Below W.heap.size W W') := Lib.hid (fun W => (show hasF kind 103 = false by unfold hasF; rw [hk]; rfl) ▸ xhasf_any kind 103 W)
 have HHi : Hid (∀ W, Calls Try.prog 68 #[.int .i64 kind, .int .u8 105] W fun e W' => e = .returned (.bool true) ∧ Below W.heap.size W W') := Lib.hid (fun W => (show hasF kind 105 = true by unfold hasF; rw [hk]; rfl) ▸ xhasf_any kind 105 W)
 have HCN : Hid (∀ W, Calls Try.prog 37 #[.int .i64 client, .int .i64 number] W fun e W' => e = .returned (.bool CN) ∧ W = W') := Lib.hid (fun W => hCN ▸ xmay9_any client number W)
 have HG : Hid (∀ W, Calls Try.prog 65 #[.string good] W fun e W' => e = .returned (.bool G) ∧ W = W') := Lib.hid (fun W => hG ▸ xgood_any good W hg)
 have HGZ := Lib.hid hGZ
 have HMI : Hid (∀ W, Below w.heap.size w W → Calls Try.prog 35 #[.slice A m c] W fun e W' => e = .returned (.bool MI) ∧ Below W.heap.size W W') := Lib.hid (fun W hW => hm2 ▸ hMI ▸ xmayI_any A c items W (hr.below hW) hb.1 hb.2)
 rw [hm2]
 clear hr hb hg hm2 hCN hG hGZ hMI hk
 have k0 := block_new w (.cells #[.int .i64 client, .int .i64 number, .int .i64 kind, .int .i64 order, .int .i64 region, .int .i64 to, .int .i64 n, .string good, .slice A m c] 24)
 have kb := (Below.refl _ w).alloc (Nat.le_refl _) (.cells #[.int .i64 client, .int .i64 number, .int .i64 kind, .int .i64 order, .int .i64 region, .int .i64 to, .int .i64 n, .string good, .slice A m c] 24)
 obtain ⟨W2, hW2⟩ : ∃ W2, w.alloc (.cells #[.int .i64 client, .int .i64 number, .int .i64 kind, .int .i64 order, .int .i64 region, .int .i64 to, .int .i64 n, .string good, .slice A m c] 24) = W2 := ⟨_, rfl⟩
 rw [hW2] at k0 kb
 have HKB := Lib.hid kb
 have HWW := Lib.hid hW2
 have HCA : Hid (∀ W, Below W2.heap.size W2 W → W.heap[w.heap.size]? = some (.cells #[.int .i64 client, .int .i64 number, .int .i64 kind, .int .i64 order, .int .i64 region, .int .i64 to, .int .i64 n, .string good, .slice A m c] 24 (0, 0))) := Lib.hid (fun W hW => (hW.block _ (lt_of_block k0)).trans k0)
 have HC0 : Hid (∀ W, Below W2.heap.size W2 W → W.cell? ⟨w.heap.size, 0, none⟩ = some (.int .i64 client)) := Lib.hid (fun W hW => cell_at (HCA.out W hW) 0)
 have HC1 : Hid (∀ W, Below W2.heap.size W2 W → W.cell? ⟨w.heap.size, 1, none⟩ = some (.int .i64 number)) := Lib.hid (fun W hW => cell_at (HCA.out W hW) 1)
 have HC2 : Hid (∀ W, Below W2.heap.size W2 W → W.cell? ⟨w.heap.size, 2, none⟩ = some (.int .i64 kind)) := Lib.hid (fun W hW => cell_at (HCA.out W hW) 2)
 have HC3 : Hid (∀ W, Below W2.heap.size W2 W → W.cell? ⟨w.heap.size, 3, none⟩ = some (.int .i64 order)) := Lib.hid (fun W hW => cell_at (HCA.out W hW) 3)
 have HC4 : Hid (∀ W, Below W2.heap.size W2 W → W.cell? ⟨w.heap.size, 4, none⟩ = some (.int .i64 region)) := Lib.hid (fun W hW => cell_at (HCA.out W hW) 4)
 have HC5 : Hid (∀ W, Below W2.heap.size W2 W → W.cell? ⟨w.heap.size, 5, none⟩ = some (.int .i64 to)) := Lib.hid (fun W hW => cell_at (HCA.out W hW) 5)
 have HC6 : Hid (∀ W, Below W2.heap.size W2 W → W.cell? ⟨w.heap.size, 6, none⟩ = some (.int .i64 n)) := Lib.hid (fun W hW => cell_at (HCA.out W hW) 6)
 have HC7 : Hid (∀ W, Below W2.heap.size W2 W → W.cell? ⟨w.heap.size, 7, none⟩ = some (.string good)) := Lib.hid (fun W hW => cell_at (HCA.out W hW) 7)
 have HC8 : Hid (∀ W, Below W2.heap.size W2 W → W.cell? ⟨w.heap.size, 8, none⟩ = some (.slice A m c)) := Lib.hid (fun W hW => cell_at (HCA.out W hW) 8)
 replace HMI : Hid (∀ W, Below W2.heap.size W2 W → Calls Try.prog 35 #[.slice A m c] W fun e W' => e = .returned (.bool MI) ∧ Below W.heap.size W W') := Lib.hid (fun W hW => HMI.out W (kb.trans (hW.mono kb.size)))
 clear k0 kb hW2
 have e1 : (kind == 1) = false := by simp; omega
 have e7 : (kind == 7) = false := by simp; omega
 have e11 : (kind == 11) = false := by simp; omega
 clear hkk
 go_enter Try.func36, Try.ntmps36
 go_wp2_with fail
 rw [HWW.out]
 refine (HS.out W2).mono ?_
 rintro e w3 ⟨rfl, hb⟩
 have HB3 := Lib.hid hb
 clear hb
 have c0 := HC0.out w3 HB3.out
 have c1 := HC1.out w3 HB3.out
 have c2 := HC2.out w3 HB3.out
 have c3 := HC3.out w3 HB3.out
 have c4 := HC4.out w3 HB3.out
 have c5 := HC5.out w3 HB3.out
 have c6 := HC6.out w3 HB3.out
 have c7 := HC7.out w3 HB3.out
 have c8 := HC8.out w3 HB3.out
 go_wp2_with fail
 refine (HCN.out w3).mono ?_
 rintro e w4 ⟨rfl, rfl⟩
 cases CN
 case false =>
  go_wp2
  go_ret
  exact ⟨ret_bool HMA.out.symm, HKB.out.trans (HB3.out.mono HKB.out.size)⟩
 case true =>
  go_wp2_with fail
  refine (HHo.out w3).mono ?_
  rintro e w4 ⟨rfl, hb⟩
  have HB4 := Lib.hid (HB3.out.trans (hb.mono HB3.out.size))
  clear hb c0 c1 c2 c3 c4 c5 c6 c7 c8
  have c0 := HC0.out w4 HB4.out
  have c1 := HC1.out w4 HB4.out
  have c2 := HC2.out w4 HB4.out
  have c3 := HC3.out w4 HB4.out
  have c4 := HC4.out w4 HB4.out
  have c5 := HC5.out w4 HB4.out
  have c6 := HC6.out w4 HB4.out
  have c7 := HC7.out w4 HB4.out
  have c8 := HC8.out w4 HB4.out
  go_wp2_with fail
  refine (HHo.out w4).mono ?_
  rintro e w5 ⟨rfl, hb⟩
  have HB5 := Lib.hid (HB4.out.trans (hb.mono HB4.out.size))
  clear hb c0 c1 c2 c3 c4 c5 c6 c7 c8
  have c0 := HC0.out w5 HB5.out
  have c1 := HC1.out w5 HB5.out
  have c2 := HC2.out w5 HB5.out
  have c3 := HC3.out w5 HB5.out
  have c4 := HC4.out w5 HB5.out
  have c5 := HC5.out w5 HB5.out
  have c6 := HC6.out w5 HB5.out
  have c7 := HC7.out w5 HB5.out
  have c8 := HC8.out w5 HB5.out
  cases Z1
  case true =>
   go_wp2
   go_ret
   exact ⟨ret_bool HMA.out.symm, HKB.out.trans (HB5.out.mono HKB.out.size)⟩
  case false =>
   cases RL
   case true =>
    go_wp2
    go_ret
    exact ⟨ret_bool HMA.out.symm, HKB.out.trans (HB5.out.mono HKB.out.size)⟩
   case false =>
    cases RG
    case true =>
     go_wp2
     go_ret
     exact ⟨ret_bool HMA.out.symm, HKB.out.trans (HB5.out.mono HKB.out.size)⟩
    case false =>
     cases TL
     case true =>
      go_wp2
      go_ret
      exact ⟨ret_bool HMA.out.symm, HKB.out.trans (HB5.out.mono HKB.out.size)⟩
     case false =>
      cases TG
      case true =>
       go_wp2
       go_ret
       exact ⟨ret_bool HMA.out.symm, HKB.out.trans (HB5.out.mono HKB.out.size)⟩
      case false =>
       go_wp2_with fail
       refine (HHr.out w5).mono ?_
       rintro e w6 ⟨rfl, hb⟩
       have HB6 := Lib.hid (HB5.out.trans (hb.mono HB5.out.size))
       clear hb c0 c1 c2 c3 c4 c5 c6 c7 c8
       have c0 := HC0.out w6 HB6.out
       have c1 := HC1.out w6 HB6.out
       have c2 := HC2.out w6 HB6.out
       have c3 := HC3.out w6 HB6.out
       have c4 := HC4.out w6 HB6.out
       have c5 := HC5.out w6 HB6.out
       have c6 := HC6.out w6 HB6.out
       have c7 := HC7.out w6 HB6.out
       have c8 := HC8.out w6 HB6.out
       go_wp2_with fail
       refine (HHt.out w6).mono ?_
       rintro e w7 ⟨rfl, hb⟩
       have HB7 := Lib.hid (HB6.out.trans (hb.mono HB6.out.size))
       clear hb c0 c1 c2 c3 c4 c5 c6 c7 c8
       have c0 := HC0.out w7 HB7.out
       have c1 := HC1.out w7 HB7.out
       have c2 := HC2.out w7 HB7.out
       have c3 := HC3.out w7 HB7.out
       have c4 := HC4.out w7 HB7.out
       have c5 := HC5.out w7 HB7.out
       have c6 := HC6.out w7 HB7.out
       have c7 := HC7.out w7 HB7.out
       have c8 := HC8.out w7 HB7.out
       cases TZ
       case true =>
        go_wp2
        go_ret
        exact ⟨ret_bool HMA.out.symm, HKB.out.trans (HB7.out.mono HKB.out.size)⟩
       case false =>
        go_wp2_with fail
        refine (HHt.out w7).mono ?_
        rintro e w8 ⟨rfl, hb⟩
        have HB8 := Lib.hid (HB7.out.trans (hb.mono HB7.out.size))
        clear hb c0 c1 c2 c3 c4 c5 c6 c7 c8
        have c0 := HC0.out w8 HB8.out
        have c1 := HC1.out w8 HB8.out
        have c2 := HC2.out w8 HB8.out
        have c3 := HC3.out w8 HB8.out
        have c4 := HC4.out w8 HB8.out
        have c5 := HC5.out w8 HB8.out
        have c6 := HC6.out w8 HB8.out
        have c7 := HC7.out w8 HB8.out
        have c8 := HC8.out w8 HB8.out
        cases G
        case true =>
         go_wp2_with fail
         clear c0 c1 c2 c3 c4 c5 c6 c7 c8
         refine wp_region_flow (fun W => Below W2.heap.size W2 W) [0, 2, 3, 1, 4, 5, 6, 7, 8, 9, 10, 11, 12, 13, 14, 15] (by kernel_rfl) (by kernel_rfl) (by kernel_rfl) (HB8.out.drew) ?_
         iterate 2
          refine flow_val ?_ rfl (by kernel_rfl) (by rfl) (fun W hW => ?_) ?_
          rotate_left 1
          · go_simp <;> with_reducible rfl
          simp only [puts]
         refine flow_val ?_ rfl (by kernel_rfl) (by rfl) (fun W hW => ?_) ?_
         rotate_left 1
         · have c7 := HC7.out W hW; go_simp <;> with_reducible rfl
         simp only [puts]
         refine flow_call (.bool false) rfl (by kernel_rfl) (by rfl) (by kernel_rfl) (fun W hW => ⟨_, _, _, by go_simp, (HHg.out W).mono fun e w' ⟨he, hb⟩ => ⟨he, hW.trans (hb.mono hW.size)⟩⟩) ?_
         simp only [puts]
         refine flow_quiet (.bool true) rfl (by kernel_rfl) (by rfl) (fun W hW => ⟨_, _, by go_simp, HG.out W⟩) ?_
         simp only [puts]
         iterate 2
          refine flow_val ?_ rfl (by kernel_rfl) (by rfl) (fun W hW => ?_) ?_
          rotate_left 1
          · go_simp <;> with_reducible rfl
          simp only [puts]
         iterate 8
          refine flow_off rfl (by kernel_rfl) (by rfl) ?_
          simp only [puts]
         refine flow_val ?_ rfl (by kernel_rfl) (by rfl) (fun W hW => ?_) ?_
         rotate_left 1
         · go_simp <;> with_reducible rfl
         simp only [puts]
         refine flow_done ?_
         intro W hW
         have HB9 := Lib.hid (hW.1)
         clear hW
         go_wp2
         go_ret
         exact ⟨ret_bool HMA.out.symm, HKB.out.trans (HB9.out.mono HKB.out.size)⟩
        case false =>
         cases GZ
         case false =>
          go_wp2_with fail
          clear c0 c1 c2 c3 c4 c5 c6 c7 c8
          refine wp_region_flow (fun W => Below W2.heap.size W2 W) [0, 2, 3, 1, 4, 5, 6, 7, 8, 9, 10, 11, 12, 13, 14, 15] (by kernel_rfl) (by kernel_rfl) (by kernel_rfl) (HB8.out.drew) ?_
          iterate 2
           refine flow_val ?_ rfl (by kernel_rfl) (by rfl) (fun W hW => ?_) ?_
           rotate_left 1
           · go_simp <;> with_reducible rfl
           simp only [puts]
          refine flow_val ?_ rfl (by kernel_rfl) (by rfl) (fun W hW => ?_) ?_
          rotate_left 1
          · have c7 := HC7.out W hW; go_simp <;> with_reducible rfl
          simp only [puts]
          refine flow_call (.bool false) rfl (by kernel_rfl) (by rfl) (by kernel_rfl) (fun W hW => ⟨_, _, _, by go_simp, (HHg.out W).mono fun e w' ⟨he, hb⟩ => ⟨he, hW.trans (hb.mono hW.size)⟩⟩) ?_
          simp only [puts]
          refine flow_quiet (.bool false) rfl (by kernel_rfl) (by rfl) (fun W hW => ⟨_, _, by go_simp, HG.out W⟩) ?_
          simp only [puts]
          iterate 3
           refine flow_val ?_ rfl (by kernel_rfl) (by rfl) (fun W hW => ?_) ?_
           rotate_left 1
           · go_simp <;> with_reducible rfl
           simp only [puts]
          refine flow_call (.bool false) rfl (by kernel_rfl) (by rfl) (by kernel_rfl) (fun W hW => ⟨_, _, _, by go_simp, (HHg.out W).mono fun e w' ⟨he, hb⟩ => ⟨he, ⟨hW.1.trans (hb.mono hW.1.size), trivial⟩⟩⟩) ?_
          simp only [puts]
          iterate 3
           refine flow_val ?_ rfl (by kernel_rfl) (by rfl) (fun W hW => ?_) ?_
           rotate_left 1
           · go_simp <;> with_reducible rfl
           simp only [puts]
          refine flow_val ?_ rfl (by kernel_rfl) (by rfl) (fun W hW => ?_) ?_
          rotate_left 1
          · have c7 := HC7.out W hW.1.1; go_simp <;> with_reducible rfl
          simp only [puts]
          refine flow_val ?_ rfl (by kernel_rfl) (by rfl) (fun W hW => ?_) ?_
          rotate_left 1
          · have q := HGZ.out; go_simp <;> with_reducible rfl
          simp only [puts]
          iterate 2
           refine flow_val ?_ rfl (by kernel_rfl) (by rfl) (fun W hW => ?_) ?_
           rotate_left 1
           · go_simp <;> with_reducible rfl
           simp only [puts]
          refine flow_done ?_
          intro W hW
          have HB9 := Lib.hid (hW.1.1)
          clear hW
          go_wp2
          go_ret
          exact ⟨ret_bool HMA.out.symm, HKB.out.trans (HB9.out.mono HKB.out.size)⟩
         case true =>
          go_wp2_with fail
          clear c0 c1 c2 c3 c4 c5 c6 c7 c8
          refine wp_region_flow (fun W => Below W2.heap.size W2 W) [0, 2, 3, 1, 4, 5, 6, 7, 8, 9, 10, 11, 12, 13, 14, 15] (by kernel_rfl) (by kernel_rfl) (by kernel_rfl) (HB8.out.drew) ?_
          iterate 2
           refine flow_val ?_ rfl (by kernel_rfl) (by rfl) (fun W hW => ?_) ?_
           rotate_left 1
           · go_simp <;> with_reducible rfl
           simp only [puts]
          refine flow_val ?_ rfl (by kernel_rfl) (by rfl) (fun W hW => ?_) ?_
          rotate_left 1
          · have c7 := HC7.out W hW; go_simp <;> with_reducible rfl
          simp only [puts]
          refine flow_call (.bool false) rfl (by kernel_rfl) (by rfl) (by kernel_rfl) (fun W hW => ⟨_, _, _, by go_simp, (HHg.out W).mono fun e w' ⟨he, hb⟩ => ⟨he, hW.trans (hb.mono hW.size)⟩⟩) ?_
          simp only [puts]
          refine flow_quiet (.bool false) rfl (by kernel_rfl) (by rfl) (fun W hW => ⟨_, _, by go_simp, HG.out W⟩) ?_
          simp only [puts]
          iterate 3
           refine flow_val ?_ rfl (by kernel_rfl) (by rfl) (fun W hW => ?_) ?_
           rotate_left 1
           · go_simp <;> with_reducible rfl
           simp only [puts]
          refine flow_call (.bool false) rfl (by kernel_rfl) (by rfl) (by kernel_rfl) (fun W hW => ⟨_, _, _, by go_simp, (HHg.out W).mono fun e w' ⟨he, hb⟩ => ⟨he, ⟨hW.1.trans (hb.mono hW.1.size), trivial⟩⟩⟩) ?_
          simp only [puts]
          iterate 3
           refine flow_val ?_ rfl (by kernel_rfl) (by rfl) (fun W hW => ?_) ?_
           rotate_left 1
           · go_simp <;> with_reducible rfl
           simp only [puts]
          refine flow_val ?_ rfl (by kernel_rfl) (by rfl) (fun W hW => ?_) ?_
          rotate_left 1
          · have c7 := HC7.out W hW.1.1; go_simp <;> with_reducible rfl
          simp only [puts]
          refine flow_val ?_ rfl (by kernel_rfl) (by rfl) (fun W hW => ?_) ?_
          rotate_left 1
          · have q := HGZ.out; go_simp <;> with_reducible rfl
          simp only [puts]
          iterate 2
           refine flow_val ?_ rfl (by kernel_rfl) (by rfl) (fun W hW => ?_) ?_
           rotate_left 1
           · go_simp <;> with_reducible rfl
           simp only [puts]
          refine flow_done ?_
          intro W hW
          have HB9 := Lib.hid (hW.1.1)
          clear hW
          obtain ⟨w9, hw⟩ : ∃ w9, w9 = W := ⟨_, rfl⟩
          subst hw
          have c0 := HC0.out w9 HB9.out
          have c1 := HC1.out w9 HB9.out
          have c2 := HC2.out w9 HB9.out
          have c3 := HC3.out w9 HB9.out
          have c4 := HC4.out w9 HB9.out
          have c5 := HC5.out w9 HB9.out
          have c6 := HC6.out w9 HB9.out
          have c7 := HC7.out w9 HB9.out
          have c8 := HC8.out w9 HB9.out
          go_wp2_with fail
          refine (HHi.out w9).mono ?_
          rintro e w10 ⟨rfl, hb⟩
          have HB10 := Lib.hid (HB9.out.trans (hb.mono HB9.out.size))
          clear hb c0 c1 c2 c3 c4 c5 c6 c7 c8
          have c0 := HC0.out w10 HB10.out
          have c1 := HC1.out w10 HB10.out
          have c2 := HC2.out w10 HB10.out
          have c3 := HC3.out w10 HB10.out
          have c4 := HC4.out w10 HB10.out
          have c5 := HC5.out w10 HB10.out
          have c6 := HC6.out w10 HB10.out
          have c7 := HC7.out w10 HB10.out
          have c8 := HC8.out w10 HB10.out
          cases IE
          case true =>
           go_wp2
           go_ret
           exact ⟨ret_bool HMA.out.symm, HKB.out.trans (HB10.out.mono HKB.out.size)⟩
          case false =>
           go_wp2_with fail
           refine (HHi.out w10).mono ?_
           rintro e w11 ⟨rfl, hb⟩
           have HB11 := Lib.hid (HB10.out.trans (hb.mono HB10.out.size))
           clear hb c0 c1 c2 c3 c4 c5 c6 c7 c8
           have c0 := HC0.out w11 HB11.out
           have c1 := HC1.out w11 HB11.out
           have c2 := HC2.out w11 HB11.out
           have c3 := HC3.out w11 HB11.out
           have c4 := HC4.out w11 HB11.out
           have c5 := HC5.out w11 HB11.out
           have c6 := HC6.out w11 HB11.out
           have c7 := HC7.out w11 HB11.out
           have c8 := HC8.out w11 HB11.out
           go_wp2_with fail
           refine (HMI.out w11 HB11.out).mono ?_
           rintro e w12 ⟨rfl, hb⟩
           have HB12 := Lib.hid (HB11.out.trans (hb.mono HB11.out.size))
           clear hb c0 c1 c2 c3 c4 c5 c6 c7 c8
           have c0 := HC0.out w12 HB12.out
           have c1 := HC1.out w12 HB12.out
           have c2 := HC2.out w12 HB12.out
           have c3 := HC3.out w12 HB12.out
           have c4 := HC4.out w12 HB12.out
           have c5 := HC5.out w12 HB12.out
           have c6 := HC6.out w12 HB12.out
           have c7 := HC7.out w12 HB12.out
           have c8 := HC8.out w12 HB12.out
           cases MI
           case false =>
            go_wp2
            go_ret
            exact ⟨ret_bool HMA.out.symm, HKB.out.trans (HB12.out.mono HKB.out.size)⟩
           case true =>
            go_wp2
            go_ret
            exact ⟨ret_bool HMA.out.symm, HKB.out.trans (HB12.out.mono HKB.out.size)⟩
end Go.Proofs.Ytpccbobomppdbaa
