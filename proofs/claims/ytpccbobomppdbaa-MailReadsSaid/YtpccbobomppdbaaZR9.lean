/- ask.May. -/
import Derived.Test.YtpccbobomppdbaaZR8
import Derived.Test.YtpccbobomppdbaaZR7
namespace Go.Proofs.Ytpccbobomppdbaa
open Go.RowKit

/-- Items in range. -/
def BdL (l : List It) : Prop := (∀ z ∈ l, BdIt z) ∧ l.length ≤ 4611686018427387903
/-- A request as a value. -/
abbrev akV (a : Ak) (v : Value) : Value := .agg #[.int .i64 a.client, .int .i64 a.number, .int .i64 a.kind, .int .i64 a.order, .int .i64 a.region, .int .i64 a.to, .int .i64 a.n, .string a.good, v]
theorem maynA_any (a : Ak) (v : Value) (w : World) : Calls Try.prog 64 #[akV a v] w fun e W => e = .returned (.bool (mayNA a.kind a.n)) ∧ Below w.heap.size w W := by
  obtain ⟨client, number, kind, order, region, to, n, good, items⟩ := a
  simp only
  by_cases h1 : kind = 1
  · subst h1
    go_enter Try.func64, Try.ntmps64
    go_wp2_with fail
    refine (within_any n 0 1 _).mono ?_
    rintro e w1 ⟨rfl, rfl⟩
    go_wp2
    go_ret
    exact ⟨rfl, (Below.refl _ w).alloc (Nat.le_refl _) _⟩
  · by_cases h7 : kind = 7
    · subst h7
      go_enter Try.func64, Try.ntmps64
      go_wp2_with fail
      refine (cmay_any n _).mono ?_
      rintro e w1 ⟨rfl, rfl⟩
      go_wp2
      go_ret
      exact ⟨rfl, (Below.refl _ w).alloc (Nat.le_refl _) _⟩
    · by_cases h11 : kind = 11
      · subst h11
        go_enter Try.func64, Try.ntmps64
        go_wp2_with fail
        refine (within_any n 1 4294967297 _).mono ?_
        rintro e w1 ⟨rfl, rfl⟩
        go_wp2
        go_ret
        exact ⟨rfl, (Below.refl _ w).alloc (Nat.le_refl _) _⟩
      · have e1 : (kind == 1) = false := by simp; omega
        have e7 : (kind == 7) = false := by simp; omega
        have e11 : (kind == 11) = false := by simp; omega
        have HR : Hid (mayNA kind n = (n == 0)) := Lib.hid (by unfold mayNA; rw [if_neg h1, if_neg h7, if_neg h11]; rfl)
        clear h1 h7 h11
        go_enter Try.func64, Try.ntmps64
        go_wp2
        go_ret
        exact ⟨ret_bool HR.out.symm, (Below.refl _ w).alloc (Nat.le_refl _) _⟩
set_option maxRecDepth 100000 in
set_option maxHeartbeats 4000000 in
theorem amay_any (a : Ak) (A : Option Addr) (c : Nat) (w : World) (hr : Rd w 2 A a.items.length (a.items.flatMap encI)) (hb : BdL a.items) (hg : a.good.size ≤ 9223372036854775807) :
    Calls Try.prog 32 #[akV a (.slice A a.items.length c)] w fun e W => e = .returned (.bool (mayA a)) ∧ Below w.heap.size w W := by
  have HMA : Hid (mayA a = (mayA0 a && (mayA1 a && (mayA2 a && (mayA3 a && (mayA4 a && (mayA5 a && mayNA a.kind a.n))))))) := Lib.hid rfl
  have h0 : mayA0 a = (!(fldA a.kind).isEmpty && inB a.client 0 63 && inB a.number 1 4294967296) := rfl
  have h1 : mayA1 a = rightB a.kind 111 (inB a.order 1 1099511627776) (a.order == 0) := rfl
  have h2 : mayA2 a = rightB a.kind 114 (inB a.region 0 7) (a.region == 0) := rfl
  have h3 : mayA3 a = rightB a.kind 116 (inB a.to 0 7 && (a.to != a.region)) (a.to == 0) := rfl
  have h4 : mayA4 a = rightB a.kind 103 (goodS a.good) (decide (a.good.size = 0)) := rfl
  have h5 : mayA5 a = rightB a.kind 105 (!a.items.isEmpty && mayI a.items) a.items.isEmpty := rfl
  have h6 := fun W => maynA_any a (.slice A a.items.length c) W
  have hsz : (a.good.toList == []) = decide (a.good.size = 0) := by
    have h : a.good.toList.length = a.good.size := by rw [Lib.toList_data]; exact Array.length_toList
    by_cases h0 : a.good.size = 0
    · have e : a.good.toList = [] := List.eq_nil_of_length_eq_zero (h.trans h0)
      rw [e, decide_eq_true h0]
      rfl
    · have e : a.good.toList ≠ [] := fun e => h0 (by rw [← h, e]; rfl)
      rw [decide_eq_false h0]
      exact beq_eq_false_iff_ne.2 e
  have hie : a.items.isEmpty = (((a.items.length : Nat) : Int) == 0) := by cases a.items <;> simp <;> omega
  have hil : (!a.items.isEmpty) = decide ((0 : Int) < ((a.items.length : Nat) : Int)) := by cases a.items <;> simp <;> omega
  obtain ⟨client, number, kind, order, region, to, n, good, items⟩ := a
  simp only at *
  obtain ⟨m, hm2⟩ : ∃ m, items.length = m := ⟨_, rfl⟩
  have HMM := Lib.hid hm2
  rw [← hsz] at h4
  rw [hil, hie] at h5
  clear hsz hil hie
  obtain ⟨KE, hKE⟩ : ∃ KE, (fldA kind).isEmpty = KE := ⟨_, rfl⟩
  obtain ⟨X1, hX1⟩ : ∃ X1, inB order 1 1099511627776 = X1 := ⟨_, rfl⟩
  obtain ⟨X2, hX2⟩ : ∃ X2, inB region 0 7 = X2 := ⟨_, rfl⟩
  obtain ⟨X3, hX3⟩ : ∃ X3, inB to 0 7 = X3 := ⟨_, rfl⟩
  obtain ⟨X4, hX4⟩ : ∃ X4, goodS good = X4 := ⟨_, rfl⟩
  obtain ⟨MI, hMI⟩ : ∃ MI, mayI items = MI := ⟨_, rfl⟩
  obtain ⟨NN, hNN⟩ : ∃ NN, mayNA kind n = NN := ⟨_, rfl⟩
  obtain ⟨Y1, hY1⟩ : ∃ Y1, (order == 0) = Y1 := ⟨_, rfl⟩
  obtain ⟨Y2, hY2⟩ : ∃ Y2, (region == 0) = Y2 := ⟨_, rfl⟩
  obtain ⟨Y3, hY3⟩ : ∃ Y3, (to == 0) = Y3 := ⟨_, rfl⟩
  obtain ⟨NE, hNE⟩ : ∃ NE, (to != region) = NE := ⟨_, rfl⟩
  obtain ⟨Y4, hY4⟩ : ∃ Y4, (good.toList == []) = Y4 := ⟨_, rfl⟩
  rw [hm2] at h5
  obtain ⟨Y5, hY5⟩ : ∃ Y5, ((m : Int) == 0) = Y5 := ⟨_, rfl⟩
  obtain ⟨LE, hLE⟩ : ∃ LE, decide ((0 : Int) < (m : Int)) = LE := ⟨_, rfl⟩
  rw [hKE] at h0
  rw [hX1, hY1] at h1
  rw [hX2, hY2] at h2
  rw [hX3, hNE, hY3] at h3
  rw [hX4, hY4] at h4
  rw [hLE, hMI, hY5] at h5
  simp only [hNN, hm2] at h6
  rw [h1, h2, h3, h4, h5, hNN, h0] at HMA
  clear h0 h1 h2 h3 h4 h5
  obtain ⟨O1, hO1⟩ : ∃ O1, rightB kind 111 X1 Y1 = O1 := ⟨_, rfl⟩
  obtain ⟨O2, hO2⟩ : ∃ O2, rightB kind 114 X2 Y2 = O2 := ⟨_, rfl⟩
  obtain ⟨O3, hO3⟩ : ∃ O3, rightB kind 116 (X3 && NE) Y3 = O3 := ⟨_, rfl⟩
  obtain ⟨O4, hO4⟩ : ∃ O4, rightB kind 103 X4 Y4 = O4 := ⟨_, rfl⟩
  obtain ⟨O5, hO5⟩ : ∃ O5, rightB kind 105 (LE && MI) Y5 = O5 := ⟨_, rfl⟩
  rw [hO1, hO2, hO3, hO4, hO5] at HMA
  obtain ⟨C1, hC1⟩ : ∃ C1, inB client 0 63 = C1 := ⟨_, rfl⟩
  obtain ⟨N1, hN1⟩ : ∃ N1, inB number 1 4294967296 = N1 := ⟨_, rfl⟩
  rw [hC1, hN1] at HMA
  have HW1 : Hid (∀ W, Calls Try.prog 63 #[.int .i64 client, .int .i64 0, .int .i64 63] W fun e W' => e = .returned (.bool C1) ∧ W = W') := Lib.hid (fun W => hC1 ▸ within_any client 0 63 W)
  have HW2 : Hid (∀ W, Calls Try.prog 63 #[.int .i64 number, .int .i64 1, .int .i64 4294967296] W fun e W' => e = .returned (.bool N1) ∧ W = W') := Lib.hid (fun W => hN1 ▸ within_any number 1 4294967296 W)
  have HX1 : Hid (∀ W, Calls Try.prog 63 #[.int .i64 order, .int .i64 1, .int .i64 1099511627776] W fun e W' => e = .returned (.bool X1) ∧ W = W') := Lib.hid (fun W => hX1 ▸ within_any order 1 1099511627776 W)
  have HX2 : Hid (∀ W, Calls Try.prog 62 #[.int .i64 region] W fun e W' => e = .returned (.bool X2) ∧ W = W') := Lib.hid (fun W => hX2 ▸ isreg_any region W)
  have HX3 : Hid (∀ W, Calls Try.prog 62 #[.int .i64 to] W fun e W' => e = .returned (.bool X3) ∧ W = W') := Lib.hid (fun W => hX3 ▸ isreg_any to W)
  have HX4 : Hid (∀ W, Calls Try.prog 58 #[.string good] W fun e W' => e = .returned (.bool X4) ∧ ∃ pos, W' = W.iter good pos) := Lib.hid (fun W => hX4 ▸ good_any good W hg)
  have HMI : Hid (∀ W, Below w.heap.size w W → Calls Try.prog 31 #[.slice A m c] W fun e W' => e = .returned (.bool MI) ∧ Below W.heap.size W W') := Lib.hid (fun W hW => hm2 ▸ hMI ▸ imay_any A c items W (hr.below hW) hb.1 hb.2)
  have HNN := Lib.hid h6
  have HY1 := Lib.hid hY1
  have HY2 := Lib.hid hY2
  have HY3 := Lib.hid hY3
  have HNE := Lib.hid hNE
  have HY4 := Lib.hid hY4
  have HY5 : Hid ((m == 0) = Y5) := Lib.hid (by rw [← hY5]; exact decide_eq_decide.2 (by omega))
  have HY6 := Lib.hid hY5
  have HLE : Hid (decide (0 < m) = LE) := Lib.hid (by rw [← hLE]; exact decide_eq_decide.2 (by omega))
  have HLF := Lib.hid hLE
  have HO1 : Hid (∀ W p, W.cell? ⟨p, 0, none⟩ = some (.string (hasA kind)) → Calls Try.prog 61 #[.string ⟨#[111]⟩, .bool X1, .bool Y1, .pointer (some ⟨p, 0, none⟩)] W fun e W' => e = .returned (.bool O1) ∧ W = W') := Lib.hid (fun W p hp => hO1 ▸ right_any kind p 111 (by decide) X1 Y1 W hp)
  have HO2 : Hid (∀ W p, W.cell? ⟨p, 0, none⟩ = some (.string (hasA kind)) → Calls Try.prog 61 #[.string ⟨#[114]⟩, .bool X2, .bool Y2, .pointer (some ⟨p, 0, none⟩)] W fun e W' => e = .returned (.bool O2) ∧ W = W') := Lib.hid (fun W p hp => hO2 ▸ right_any kind p 114 (by decide) X2 Y2 W hp)
  have HO3 : Hid (∀ W p, W.cell? ⟨p, 0, none⟩ = some (.string (hasA kind)) → Calls Try.prog 61 #[.string ⟨#[116]⟩, .bool (X3 && NE), .bool Y3, .pointer (some ⟨p, 0, none⟩)] W fun e W' => e = .returned (.bool O3) ∧ W = W') := Lib.hid (fun W p hp => hO3 ▸ right_any kind p 116 (by decide) (X3 && NE) Y3 W hp)
  have HO4 : Hid (∀ W p, W.cell? ⟨p, 0, none⟩ = some (.string (hasA kind)) → Calls Try.prog 61 #[.string ⟨#[103]⟩, .bool X4, .bool Y4, .pointer (some ⟨p, 0, none⟩)] W fun e W' => e = .returned (.bool O4) ∧ W = W') := Lib.hid (fun W p hp => hO4 ▸ right_any kind p 103 (by decide) X4 Y4 W hp)
  have HO5 : Hid (∀ W p, W.cell? ⟨p, 0, none⟩ = some (.string (hasA kind)) → Calls Try.prog 61 #[.string ⟨#[105]⟩, .bool (LE && MI), .bool Y5, .pointer (some ⟨p, 0, none⟩)] W fun e W' => e = .returned (.bool O5) ∧ W = W') := Lib.hid (fun W p hp => hO5 ▸ right_any kind p 105 (by decide) (LE && MI) Y5 W hp)
  have HHA : Hid (KE = true → hasA kind = ByteArray.empty) := Lib.hid (fun h => by unfold hasA; rw [List.isEmpty_iff.1 (hKE.trans h)]; rfl)
  have HHN : Hid (KE = false → ((hasA kind).toList == []) = false) := Lib.hid (fun h => by
    have key : ∀ l ∈ [[110, 105], [111], [111, 114, 105], [114, 105], [114, 110, 103], [114, 116, 105], [110], []], l.isEmpty = false → ((strOf l).toList == []) = false := by decide +kernel
    exact key _ (fldA_cases kind) (hKE.trans h))
  rw [hm2]
  clear hO1 hO2 hO3 hO4 hO5 hX1 hX2 hX3 hX4 hY1 hY2 hY3 hY4 hY5 hNE hLE hMI hNN hC1 hN1 hr hb hg hm2 h6 hKE
  have k0 := block_alloc (block_new w (.cells #[.int .i64 client, .int .i64 number, .int .i64 kind, .int .i64 order, .int .i64 region, .int .i64 to, .int .i64 n, .string good, .slice A m c] 24)) (.cells #[.string (hasA kind)] 9)
  have k1 := block_new (w.alloc (.cells #[.int .i64 client, .int .i64 number, .int .i64 kind, .int .i64 order, .int .i64 region, .int .i64 to, .int .i64 n, .string good, .slice A m c] 24)) (.cells #[.string (hasA kind)] 9)
  have kb := ((Below.refl _ w).alloc (Nat.le_refl _) (.cells #[.int .i64 client, .int .i64 number, .int .i64 kind, .int .i64 order, .int .i64 region, .int .i64 to, .int .i64 n, .string good, .slice A m c] 24)).alloc (by simp) (.cells #[.string (hasA kind)] 9)
  obtain ⟨H, hH⟩ : ∃ H, hasA kind = H := ⟨_, rfl⟩
  rw [hH] at HO1 HO2 HO3 HO4 HO5 HHA HHN k0 k1 kb
  obtain ⟨W2, hW2⟩ : ∃ W2, (w.alloc (.cells #[.int .i64 client, .int .i64 number, .int .i64 kind, .int .i64 order, .int .i64 region, .int .i64 to, .int .i64 n, .string good, .slice A m c] 24)).alloc (.cells #[.string H] 9) = W2 := ⟨_, rfl⟩
  rw [hW2] at k0 k1 kb
  simp only [World.size_alloc] at k1
  have HKB := Lib.hid kb
  have HWW := Lib.hid hW2
  have HSZ : Hid (w.heap.size < W2.heap.size ∧ w.heap.size + 1 < W2.heap.size) := Lib.hid ⟨lt_of_block k0, lt_of_block k1⟩
  have HCA : Hid (∀ W, Below W2.heap.size W2 W → W.heap[w.heap.size]? = some (.cells #[.int .i64 client, .int .i64 number, .int .i64 kind, .int .i64 order, .int .i64 region, .int .i64 to, .int .i64 n, .string good, .slice A m c] 24 (0, 0))) := Lib.hid (fun W hW => (hW.block _ (lt_of_block k0)).trans k0)
  have HCF : Hid (∀ W, Below W2.heap.size W2 W → W.cell? ⟨w.heap.size + 1, 0, none⟩ = some (.string H)) := Lib.hid (fun W hW => cell_at ((hW.block _ (lt_of_block k1)).trans k1) 0)
  have HC0 : Hid (∀ W, Below W2.heap.size W2 W → W.cell? ⟨w.heap.size, 0, none⟩ = some (.int .i64 client)) := Lib.hid (fun W hW => cell_at (HCA.out W hW) 0)
  have HC1 : Hid (∀ W, Below W2.heap.size W2 W → W.cell? ⟨w.heap.size, 1, none⟩ = some (.int .i64 number)) := Lib.hid (fun W hW => cell_at (HCA.out W hW) 1)
  have HC2 : Hid (∀ W, Below W2.heap.size W2 W → W.cell? ⟨w.heap.size, 2, none⟩ = some (.int .i64 kind)) := Lib.hid (fun W hW => cell_at (HCA.out W hW) 2)
  have HC3 : Hid (∀ W, Below W2.heap.size W2 W → W.cell? ⟨w.heap.size, 3, none⟩ = some (.int .i64 order)) := Lib.hid (fun W hW => cell_at (HCA.out W hW) 3)
  have HC4 : Hid (∀ W, Below W2.heap.size W2 W → W.cell? ⟨w.heap.size, 4, none⟩ = some (.int .i64 region)) := Lib.hid (fun W hW => cell_at (HCA.out W hW) 4)
  have HC5 : Hid (∀ W, Below W2.heap.size W2 W → W.cell? ⟨w.heap.size, 5, none⟩ = some (.int .i64 to)) := Lib.hid (fun W hW => cell_at (HCA.out W hW) 5)
  have HC6 : Hid (∀ W, Below W2.heap.size W2 W → W.cell? ⟨w.heap.size, 6, none⟩ = some (.int .i64 n)) := Lib.hid (fun W hW => cell_at (HCA.out W hW) 6)
  have HC7 : Hid (∀ W, Below W2.heap.size W2 W → W.cell? ⟨w.heap.size, 7, none⟩ = some (.string good)) := Lib.hid (fun W hW => cell_at (HCA.out W hW) 7)
  have HC8 : Hid (∀ W, Below W2.heap.size W2 W → W.cell? ⟨w.heap.size, 8, none⟩ = some (.slice A m c)) := Lib.hid (fun W hW => cell_at (HCA.out W hW) 8)
  replace HO1 := Lib.hid (fun W hW => HO1.out W _ (HCF.out W hW))
  replace HO2 := Lib.hid (fun W hW => HO2.out W _ (HCF.out W hW))
  replace HO3 := Lib.hid (fun W hW => HO3.out W _ (HCF.out W hW))
  replace HO4 := Lib.hid (fun W hW => HO4.out W _ (HCF.out W hW))
  replace HO5 := Lib.hid (fun W hW => HO5.out W _ (HCF.out W hW))
  replace HMI : Hid (∀ W, Below W2.heap.size W2 W → Calls Try.prog 31 #[.slice A m c] W fun e W' => e = .returned (.bool MI) ∧ Below W.heap.size W W') := Lib.hid (fun W hW => HMI.out W (kb.trans (hW.mono kb.size)))
  have HHS := Lib.hid (has_any kind (w.alloc (.cells #[.int .i64 client, .int .i64 number, .int .i64 kind, .int .i64 order, .int .i64 region, .int .i64 to, .int .i64 n, .string good, .slice A m c] 24)))
  rw [hH] at HHS
  have c0 := HC0.out W2 (Below.refl _ _)
  have c1 := HC1.out W2 (Below.refl _ _)
  have cf := HCF.out W2 (Below.refl _ _)
  clear k0 k1 kb hH hW2
  go_enter Try.func32, Try.ntmps32
  go_wp2_with fail
  refine HHS.out.mono ?_
  rintro e w1 ⟨rfl, rfl⟩
  cases KE
  · have hne := HHN.out rfl
    go_wp2_with fail
    rw [HWW.out]
    refine (HW1.out W2).mono ?_
    rintro e w1 ⟨rfl, rfl⟩
    cases C1
    · go_wp2
      go_ret
      exact ⟨ret_bool HMA.out.symm, HKB.out⟩
    · go_wp2_with fail
      refine (HW2.out W2).mono ?_
      rintro e w1 ⟨rfl, rfl⟩
      clear c0 c1 cf hne
      cases N1
      · go_wp2
        go_ret
        exact ⟨ret_bool HMA.out.symm, HKB.out⟩
      · cases O1
        · go_wp2_with fail
          refine wp_region_flow (fun W => Below W2.heap.size W2 W) [0, 1, 2, 3, 4, 5, 6, 7, 8, 9, 10, 11, 12, 13, 14, 15, 16, 17, 18, 19, 20, 21] (by kernel_rfl) (by kernel_rfl) (by kernel_rfl) ((Below.refl _ _).drew) ?_
          iterate 2
           refine flow_val ?_ rfl (by kernel_rfl) (by rfl) (fun W hW => ?_) ?_
           rotate_left 1
           · go_simp <;> with_reducible rfl
           simp only [puts]
          refine flow_val ?_ rfl (by kernel_rfl) (by rfl) (fun W hW => ?_) ?_
          rotate_left 1
          · have c3 := HC3.out W hW; go_simp <;> with_reducible rfl
          simp only [puts]
          refine flow_quiet (.bool X1) rfl (by kernel_rfl) (by rfl) (fun W hW => ⟨_, _, by go_simp, HX1.out W⟩) ?_
          simp only [puts]
          refine flow_val ?_ rfl (by kernel_rfl) (by rfl) (fun W hW => ?_) ?_
          rotate_left 1
          · go_simp <;> with_reducible rfl
          simp only [puts]
          refine flow_val ?_ rfl (by kernel_rfl) (by rfl) (fun W hW => ?_) ?_
          rotate_left 1
          · have c3 := HC3.out W hW; go_simp <;> with_reducible rfl
          simp only [puts]
          refine flow_val ?_ rfl (by kernel_rfl) (by rfl) (fun W hW => ?_) ?_
          rotate_left 1
          · have q := HY1.out; go_simp <;> with_reducible rfl
          simp only [puts]
          refine flow_quiet (.bool false) rfl (by kernel_rfl) (by rfl) (fun W hW => ⟨_, _, by go_simp, HO1.out W hW⟩) ?_
          simp only [puts]
          iterate 2
           refine flow_val ?_ rfl (by kernel_rfl) (by rfl) (fun W hW => ?_) ?_
           rotate_left 1
           · go_simp <;> with_reducible rfl
           simp only [puts]
          iterate 10
           refine flow_off rfl (by kernel_rfl) (by rfl) ?_
           simp only [puts]
          iterate 2
           refine flow_val ?_ rfl (by kernel_rfl) (by rfl) (fun W hW => ?_) ?_
           rotate_left 1
           · go_simp <;> with_reducible rfl
           simp only [puts]
          refine flow_done ?_
          intro W hW
          have HBW := Lib.hid (HKB.out.trans (hW.mono HKB.out.size))
          clear hW
          go_wp2
          go_ret
          exact ⟨ret_bool HMA.out.symm, HBW.out⟩
        · cases O2
          · go_wp2_with fail
            refine wp_region_flow (fun W => Below W2.heap.size W2 W) [0, 1, 2, 3, 4, 5, 6, 7, 8, 9, 10, 11, 12, 13, 14, 15, 16, 17, 18, 19, 20, 21] (by kernel_rfl) (by kernel_rfl) (by kernel_rfl) ((Below.refl _ _).drew) ?_
            iterate 2
             refine flow_val ?_ rfl (by kernel_rfl) (by rfl) (fun W hW => ?_) ?_
             rotate_left 1
             · go_simp <;> with_reducible rfl
             simp only [puts]
            refine flow_val ?_ rfl (by kernel_rfl) (by rfl) (fun W hW => ?_) ?_
            rotate_left 1
            · have c3 := HC3.out W hW; go_simp <;> with_reducible rfl
            simp only [puts]
            refine flow_quiet (.bool X1) rfl (by kernel_rfl) (by rfl) (fun W hW => ⟨_, _, by go_simp, HX1.out W⟩) ?_
            simp only [puts]
            refine flow_val ?_ rfl (by kernel_rfl) (by rfl) (fun W hW => ?_) ?_
            rotate_left 1
            · go_simp <;> with_reducible rfl
            simp only [puts]
            refine flow_val ?_ rfl (by kernel_rfl) (by rfl) (fun W hW => ?_) ?_
            rotate_left 1
            · have c3 := HC3.out W hW; go_simp <;> with_reducible rfl
            simp only [puts]
            refine flow_val ?_ rfl (by kernel_rfl) (by rfl) (fun W hW => ?_) ?_
            rotate_left 1
            · have q := HY1.out; go_simp <;> with_reducible rfl
            simp only [puts]
            refine flow_quiet (.bool true) rfl (by kernel_rfl) (by rfl) (fun W hW => ⟨_, _, by go_simp, HO1.out W hW⟩) ?_
            simp only [puts]
            iterate 5
             refine flow_val ?_ rfl (by kernel_rfl) (by rfl) (fun W hW => ?_) ?_
             rotate_left 1
             · go_simp <;> with_reducible rfl
             simp only [puts]
            refine flow_val ?_ rfl (by kernel_rfl) (by rfl) (fun W hW => ?_) ?_
            rotate_left 1
            · have c4 := HC4.out W hW; go_simp <;> with_reducible rfl
            simp only [puts]
            refine flow_quiet (.bool X2) rfl (by kernel_rfl) (by rfl) (fun W hW => ⟨_, _, by go_simp, HX2.out W⟩) ?_
            simp only [puts]
            refine flow_val ?_ rfl (by kernel_rfl) (by rfl) (fun W hW => ?_) ?_
            rotate_left 1
            · go_simp <;> with_reducible rfl
            simp only [puts]
            refine flow_val ?_ rfl (by kernel_rfl) (by rfl) (fun W hW => ?_) ?_
            rotate_left 1
            · have c4 := HC4.out W hW; go_simp <;> with_reducible rfl
            simp only [puts]
            refine flow_val ?_ rfl (by kernel_rfl) (by rfl) (fun W hW => ?_) ?_
            rotate_left 1
            · have q := HY2.out; go_simp <;> with_reducible rfl
            simp only [puts]
            refine flow_quiet (.bool false) rfl (by kernel_rfl) (by rfl) (fun W hW => ⟨_, _, by go_simp, HO2.out W hW⟩) ?_
            simp only [puts]
            iterate 3
             refine flow_val ?_ rfl (by kernel_rfl) (by rfl) (fun W hW => ?_) ?_
             rotate_left 1
             · go_simp <;> with_reducible rfl
             simp only [puts]
            refine flow_done ?_
            intro W hW
            have HBW := Lib.hid (HKB.out.trans (hW.mono HKB.out.size))
            clear hW
            go_wp2
            go_ret
            exact ⟨ret_bool HMA.out.symm, HBW.out⟩
          · go_wp2_with fail
            refine wp_region_flow (fun W => Below W2.heap.size W2 W) [0, 1, 2, 3, 4, 5, 6, 7, 8, 9, 10, 11, 12, 13, 14, 15, 16, 17, 18, 19, 20, 21] (by kernel_rfl) (by kernel_rfl) (by kernel_rfl) ((Below.refl _ _).drew) ?_
            iterate 2
             refine flow_val ?_ rfl (by kernel_rfl) (by rfl) (fun W hW => ?_) ?_
             rotate_left 1
             · go_simp <;> with_reducible rfl
             simp only [puts]
            refine flow_val ?_ rfl (by kernel_rfl) (by rfl) (fun W hW => ?_) ?_
            rotate_left 1
            · have c3 := HC3.out W hW; go_simp <;> with_reducible rfl
            simp only [puts]
            refine flow_quiet (.bool X1) rfl (by kernel_rfl) (by rfl) (fun W hW => ⟨_, _, by go_simp, HX1.out W⟩) ?_
            simp only [puts]
            refine flow_val ?_ rfl (by kernel_rfl) (by rfl) (fun W hW => ?_) ?_
            rotate_left 1
            · go_simp <;> with_reducible rfl
            simp only [puts]
            refine flow_val ?_ rfl (by kernel_rfl) (by rfl) (fun W hW => ?_) ?_
            rotate_left 1
            · have c3 := HC3.out W hW; go_simp <;> with_reducible rfl
            simp only [puts]
            refine flow_val ?_ rfl (by kernel_rfl) (by rfl) (fun W hW => ?_) ?_
            rotate_left 1
            · have q := HY1.out; go_simp <;> with_reducible rfl
            simp only [puts]
            refine flow_quiet (.bool true) rfl (by kernel_rfl) (by rfl) (fun W hW => ⟨_, _, by go_simp, HO1.out W hW⟩) ?_
            simp only [puts]
            iterate 5
             refine flow_val ?_ rfl (by kernel_rfl) (by rfl) (fun W hW => ?_) ?_
             rotate_left 1
             · go_simp <;> with_reducible rfl
             simp only [puts]
            refine flow_val ?_ rfl (by kernel_rfl) (by rfl) (fun W hW => ?_) ?_
            rotate_left 1
            · have c4 := HC4.out W hW; go_simp <;> with_reducible rfl
            simp only [puts]
            refine flow_quiet (.bool X2) rfl (by kernel_rfl) (by rfl) (fun W hW => ⟨_, _, by go_simp, HX2.out W⟩) ?_
            simp only [puts]
            refine flow_val ?_ rfl (by kernel_rfl) (by rfl) (fun W hW => ?_) ?_
            rotate_left 1
            · go_simp <;> with_reducible rfl
            simp only [puts]
            refine flow_val ?_ rfl (by kernel_rfl) (by rfl) (fun W hW => ?_) ?_
            rotate_left 1
            · have c4 := HC4.out W hW; go_simp <;> with_reducible rfl
            simp only [puts]
            refine flow_val ?_ rfl (by kernel_rfl) (by rfl) (fun W hW => ?_) ?_
            rotate_left 1
            · have q := HY2.out; go_simp <;> with_reducible rfl
            simp only [puts]
            refine flow_quiet (.bool true) rfl (by kernel_rfl) (by rfl) (fun W hW => ⟨_, _, by go_simp, HO2.out W hW⟩) ?_
            simp only [puts]
            iterate 3
             refine flow_val ?_ rfl (by kernel_rfl) (by rfl) (fun W hW => ?_) ?_
             rotate_left 1
             · go_simp <;> with_reducible rfl
             simp only [puts]
            refine flow_done ?_
            intro W hW
            have HB6 := Lib.hid hW
            clear hW
            cases X3
            · cases O3
              · go_wp2_with fail
                refine wp_region_flow (fun W => Below W2.heap.size W2 W) [0, 1, 2, 3, 4, 5, 6, 7, 8, 9, 10, 11, 12, 13, 14, 15, 16, 17, 18, 19, 20, 21, 22, 23, 24, 25, 26, 27, 28] (by kernel_rfl) (by kernel_rfl) (by kernel_rfl) (HB6.out.drew) ?_
                iterate 3
                 refine flow_val ?_ rfl (by kernel_rfl) (by rfl) (fun W hW => ?_) ?_
                 rotate_left 1
                 · go_simp <;> with_reducible rfl
                 simp only [puts]
                refine flow_val ?_ rfl (by kernel_rfl) (by rfl) (fun W hW => ?_) ?_
                rotate_left 1
                · have c5 := HC5.out W hW; go_simp <;> with_reducible rfl
                simp only [puts]
                refine flow_quiet (.bool false) rfl (by kernel_rfl) (by rfl) (fun W hW => ⟨_, _, by go_simp, HX3.out W⟩) ?_
                simp only [puts]
                refine flow_val ?_ rfl (by kernel_rfl) (by rfl) (fun W hW => ?_) ?_
                rotate_left 1
                · go_simp <;> with_reducible rfl
                simp only [puts]
                iterate 5
                 refine flow_off rfl (by kernel_rfl) (by rfl) ?_
                 simp only [puts]
                iterate 2
                 refine flow_val ?_ rfl (by kernel_rfl) (by rfl) (fun W hW => ?_) ?_
                 rotate_left 1
                 · go_simp <;> with_reducible rfl
                 simp only [puts]
                refine flow_val ?_ rfl (by kernel_rfl) (by rfl) (fun W hW => ?_) ?_
                rotate_left 1
                · have c5 := HC5.out W hW; go_simp <;> with_reducible rfl
                simp only [puts]
                refine flow_val ?_ rfl (by kernel_rfl) (by rfl) (fun W hW => ?_) ?_
                rotate_left 1
                · have q := HY3.out; go_simp <;> with_reducible rfl
                simp only [puts]
                refine flow_quiet (.bool false) rfl (by kernel_rfl) (by rfl) (fun W hW => ⟨_, _, by go_simp, HO3.out W hW⟩) ?_
                simp only [puts]
                iterate 2
                 refine flow_val ?_ rfl (by kernel_rfl) (by rfl) (fun W hW => ?_) ?_
                 rotate_left 1
                 · go_simp <;> with_reducible rfl
                 simp only [puts]
                iterate 9
                 refine flow_off rfl (by kernel_rfl) (by rfl) ?_
                 simp only [puts]
                iterate 2
                 refine flow_val ?_ rfl (by kernel_rfl) (by rfl) (fun W hW => ?_) ?_
                 rotate_left 1
                 · go_simp <;> with_reducible rfl
                 simp only [puts]
                refine flow_done ?_
                intro W hW
                have HBW := Lib.hid (HKB.out.trans (hW.mono HKB.out.size))
                clear hW
                go_wp2
                go_ret
                exact ⟨ret_bool HMA.out.symm, HBW.out⟩
              · cases O4
                · go_wp2_with fail
                  refine wp_region_flow (fun W => Below W2.heap.size W2 W) [0, 1, 2, 3, 4, 5, 6, 7, 8, 9, 10, 11, 12, 13, 14, 15, 16, 17, 18, 19, 20, 22, 23, 24, 21, 25, 26, 27, 28] (by kernel_rfl) (by kernel_rfl) (by kernel_rfl) (HB6.out.drew) ?_
                  iterate 3
                   refine flow_val ?_ rfl (by kernel_rfl) (by rfl) (fun W hW => ?_) ?_
                   rotate_left 1
                   · go_simp <;> with_reducible rfl
                   simp only [puts]
                  refine flow_val ?_ rfl (by kernel_rfl) (by rfl) (fun W hW => ?_) ?_
                  rotate_left 1
                  · have c5 := HC5.out W hW; go_simp <;> with_reducible rfl
                  simp only [puts]
                  refine flow_quiet (.bool false) rfl (by kernel_rfl) (by rfl) (fun W hW => ⟨_, _, by go_simp, HX3.out W⟩) ?_
                  simp only [puts]
                  refine flow_val ?_ rfl (by kernel_rfl) (by rfl) (fun W hW => ?_) ?_
                  rotate_left 1
                  · go_simp <;> with_reducible rfl
                  simp only [puts]
                  iterate 5
                   refine flow_off rfl (by kernel_rfl) (by rfl) ?_
                   simp only [puts]
                  iterate 2
                   refine flow_val ?_ rfl (by kernel_rfl) (by rfl) (fun W hW => ?_) ?_
                   rotate_left 1
                   · go_simp <;> with_reducible rfl
                   simp only [puts]
                  refine flow_val ?_ rfl (by kernel_rfl) (by rfl) (fun W hW => ?_) ?_
                  rotate_left 1
                  · have c5 := HC5.out W hW; go_simp <;> with_reducible rfl
                  simp only [puts]
                  refine flow_val ?_ rfl (by kernel_rfl) (by rfl) (fun W hW => ?_) ?_
                  rotate_left 1
                  · have q := HY3.out; go_simp <;> with_reducible rfl
                  simp only [puts]
                  refine flow_quiet (.bool true) rfl (by kernel_rfl) (by rfl) (fun W hW => ⟨_, _, by go_simp, HO3.out W hW⟩) ?_
                  simp only [puts]
                  iterate 4
                   refine flow_val ?_ rfl (by kernel_rfl) (by rfl) (fun W hW => ?_) ?_
                   rotate_left 1
                   · go_simp <;> with_reducible rfl
                   simp only [puts]
                  refine flow_val ?_ rfl (by kernel_rfl) (by rfl) (fun W hW => ?_) ?_
                  rotate_left 1
                  · have c7 := HC7.out W hW; go_simp <;> with_reducible rfl
                  simp only [puts]
                  refine flow_val ?_ rfl (by kernel_rfl) (by rfl) (fun W hW => ?_) ?_
                  rotate_left 1
                  · go_simp <;> with_reducible rfl
                  simp only [puts]
                  refine flow_val ?_ rfl (by kernel_rfl) (by rfl) (fun W hW => ?_) ?_
                  rotate_left 1
                  · have c7 := HC7.out W hW; go_simp <;> with_reducible rfl
                  simp only [puts]
                  refine flow_val ?_ rfl (by kernel_rfl) (by rfl) (fun W hW => ?_) ?_
                  rotate_left 1
                  · have q := HY4.out; go_simp <;> with_reducible rfl
                  simp only [puts]
                  refine flow_call (.bool X4) rfl (by kernel_rfl) (by rfl) (by kernel_rfl) (fun W hW => ⟨_, _, _, by go_simp, (HX4.out W).mono fun e w' ⟨he, hp⟩ => ⟨he, hW.trans (by obtain ⟨pos, rfl⟩ := hp; exact ((Below.refl _ W).alloc (Nat.le_refl _) _).mono hW.size)⟩⟩) ?_
                  simp only [puts]
                  refine flow_quiet (.bool false) rfl (by kernel_rfl) (by rfl) (fun W hW => ⟨_, _, by go_simp, HO4.out W hW.1⟩) ?_
                  simp only [puts]
                  iterate 3
                   refine flow_val ?_ rfl (by kernel_rfl) (by rfl) (fun W hW => ?_) ?_
                   rotate_left 1
                   · go_simp <;> with_reducible rfl
                   simp only [puts]
                  refine flow_done ?_
                  intro W hW
                  have HBW := Lib.hid (HKB.out.trans (hW.1.mono HKB.out.size))
                  clear hW
                  go_wp2
                  go_ret
                  exact ⟨ret_bool HMA.out.symm, HBW.out⟩
                · go_wp2_with fail
                  refine wp_region_flow (fun W => Below W2.heap.size W2 W) [0, 1, 2, 3, 4, 5, 6, 7, 8, 9, 10, 11, 12, 13, 14, 15, 16, 17, 18, 19, 20, 22, 23, 24, 21, 25, 26, 27, 28] (by kernel_rfl) (by kernel_rfl) (by kernel_rfl) (HB6.out.drew) ?_
                  iterate 3
                   refine flow_val ?_ rfl (by kernel_rfl) (by rfl) (fun W hW => ?_) ?_
                   rotate_left 1
                   · go_simp <;> with_reducible rfl
                   simp only [puts]
                  refine flow_val ?_ rfl (by kernel_rfl) (by rfl) (fun W hW => ?_) ?_
                  rotate_left 1
                  · have c5 := HC5.out W hW; go_simp <;> with_reducible rfl
                  simp only [puts]
                  refine flow_quiet (.bool false) rfl (by kernel_rfl) (by rfl) (fun W hW => ⟨_, _, by go_simp, HX3.out W⟩) ?_
                  simp only [puts]
                  refine flow_val ?_ rfl (by kernel_rfl) (by rfl) (fun W hW => ?_) ?_
                  rotate_left 1
                  · go_simp <;> with_reducible rfl
                  simp only [puts]
                  iterate 5
                   refine flow_off rfl (by kernel_rfl) (by rfl) ?_
                   simp only [puts]
                  iterate 2
                   refine flow_val ?_ rfl (by kernel_rfl) (by rfl) (fun W hW => ?_) ?_
                   rotate_left 1
                   · go_simp <;> with_reducible rfl
                   simp only [puts]
                  refine flow_val ?_ rfl (by kernel_rfl) (by rfl) (fun W hW => ?_) ?_
                  rotate_left 1
                  · have c5 := HC5.out W hW; go_simp <;> with_reducible rfl
                  simp only [puts]
                  refine flow_val ?_ rfl (by kernel_rfl) (by rfl) (fun W hW => ?_) ?_
                  rotate_left 1
                  · have q := HY3.out; go_simp <;> with_reducible rfl
                  simp only [puts]
                  refine flow_quiet (.bool true) rfl (by kernel_rfl) (by rfl) (fun W hW => ⟨_, _, by go_simp, HO3.out W hW⟩) ?_
                  simp only [puts]
                  iterate 4
                   refine flow_val ?_ rfl (by kernel_rfl) (by rfl) (fun W hW => ?_) ?_
                   rotate_left 1
                   · go_simp <;> with_reducible rfl
                   simp only [puts]
                  refine flow_val ?_ rfl (by kernel_rfl) (by rfl) (fun W hW => ?_) ?_
                  rotate_left 1
                  · have c7 := HC7.out W hW; go_simp <;> with_reducible rfl
                  simp only [puts]
                  refine flow_val ?_ rfl (by kernel_rfl) (by rfl) (fun W hW => ?_) ?_
                  rotate_left 1
                  · go_simp <;> with_reducible rfl
                  simp only [puts]
                  refine flow_val ?_ rfl (by kernel_rfl) (by rfl) (fun W hW => ?_) ?_
                  rotate_left 1
                  · have c7 := HC7.out W hW; go_simp <;> with_reducible rfl
                  simp only [puts]
                  refine flow_val ?_ rfl (by kernel_rfl) (by rfl) (fun W hW => ?_) ?_
                  rotate_left 1
                  · have q := HY4.out; go_simp <;> with_reducible rfl
                  simp only [puts]
                  refine flow_call (.bool X4) rfl (by kernel_rfl) (by rfl) (by kernel_rfl) (fun W hW => ⟨_, _, _, by go_simp, (HX4.out W).mono fun e w' ⟨he, hp⟩ => ⟨he, hW.trans (by obtain ⟨pos, rfl⟩ := hp; exact ((Below.refl _ W).alloc (Nat.le_refl _) _).mono hW.size)⟩⟩) ?_
                  simp only [puts]
                  refine flow_quiet (.bool true) rfl (by kernel_rfl) (by rfl) (fun W hW => ⟨_, _, by go_simp, HO4.out W hW.1⟩) ?_
                  simp only [puts]
                  iterate 3
                   refine flow_val ?_ rfl (by kernel_rfl) (by rfl) (fun W hW => ?_) ?_
                   rotate_left 1
                   · go_simp <;> with_reducible rfl
                   simp only [puts]
                  refine flow_done ?_
                  intro W hW
                  have HB8 := Lib.hid hW.1
                  clear hW
                  cases LE
                  · cases O5
                    · go_wp2_with fail
                      refine wp_region_flow (fun W => Below W2.heap.size W2 W) [0, 1, 2, 3, 4, 5, 10, 11, 12, 13, 6, 7, 8, 9, 14, 15, 16, 17, 18, 19] (by kernel_rfl) (by kernel_rfl) (by kernel_rfl) (HB8.out.drew) ?_
                      iterate 2
                       refine flow_val ?_ rfl (by kernel_rfl) (by rfl) (fun W hW => ?_) ?_
                       rotate_left 1
                       · go_simp <;> with_reducible rfl
                       simp only [puts]
                      refine flow_val ?_ rfl (by kernel_rfl) (by rfl) (fun W hW => ?_) ?_
                      rotate_left 1
                      · have c8 := HC8.out W hW; go_simp <;> with_reducible rfl
                      simp only [puts]
                      refine flow_val ?_ rfl (by kernel_rfl) (by rfl) (fun W hW => ?_) ?_
                      rotate_left 1
                      · go_simp <;> with_reducible rfl
                      simp only [puts]
                      refine flow_val ?_ rfl (by kernel_rfl) (by rfl) (fun W hW => ?_) ?_
                      rotate_left 1
                      · have q := HLE.out; have q2 := HLF.out; go_simp <;> with_reducible rfl
                      simp only [puts]
                      iterate 2
                       refine flow_val ?_ rfl (by kernel_rfl) (by rfl) (fun W hW => ?_) ?_
                       rotate_left 1
                       · go_simp <;> with_reducible rfl
                       simp only [puts]
                      refine flow_val ?_ rfl (by kernel_rfl) (by rfl) (fun W hW => ?_) ?_
                      rotate_left 1
                      · have c8 := HC8.out W hW; go_simp <;> with_reducible rfl
                      simp only [puts]
                      refine flow_val ?_ rfl (by kernel_rfl) (by rfl) (fun W hW => ?_) ?_
                      rotate_left 1
                      · go_simp <;> with_reducible rfl
                      simp only [puts]
                      refine flow_val ?_ rfl (by kernel_rfl) (by rfl) (fun W hW => ?_) ?_
                      rotate_left 1
                      · have q := HY5.out; have q2 := HY6.out; go_simp <;> with_reducible rfl
                      simp only [puts]
                      iterate 3
                       refine flow_off rfl (by kernel_rfl) (by rfl) ?_
                       simp only [puts]
                      refine flow_val ?_ rfl (by kernel_rfl) (by rfl) (fun W hW => ?_) ?_
                      rotate_left 1
                      · go_simp <;> with_reducible rfl
                      simp only [puts]
                      refine flow_quiet (.bool false) rfl (by kernel_rfl) (by rfl) (fun W hW => ⟨_, _, by go_simp, HO5.out W hW⟩) ?_
                      simp only [puts]
                      refine flow_val ?_ rfl (by kernel_rfl) (by rfl) (fun W hW => ?_) ?_
                      rotate_left 1
                      · go_simp <;> with_reducible rfl
                      simp only [puts]
                      iterate 2
                       refine flow_off rfl (by kernel_rfl) (by rfl) ?_
                       simp only [puts]
                      iterate 2
                       refine flow_val ?_ rfl (by kernel_rfl) (by rfl) (fun W hW => ?_) ?_
                       rotate_left 1
                       · go_simp <;> with_reducible rfl
                       simp only [puts]
                      refine flow_done ?_
                      intro W hW
                      have HBW := Lib.hid (HKB.out.trans ((hW).mono HKB.out.size))
                      clear hW
                      go_wp2
                      go_ret
                      exact ⟨ret_bool HMA.out.symm, HBW.out⟩
                    · go_wp2_with fail
                      refine wp_region_flow (fun W => Below W2.heap.size W2 W) [0, 1, 2, 3, 4, 5, 10, 11, 12, 13, 6, 7, 8, 9, 14, 15, 16, 17, 18, 19] (by kernel_rfl) (by kernel_rfl) (by kernel_rfl) (HB8.out.drew) ?_
                      iterate 2
                       refine flow_val ?_ rfl (by kernel_rfl) (by rfl) (fun W hW => ?_) ?_
                       rotate_left 1
                       · go_simp <;> with_reducible rfl
                       simp only [puts]
                      refine flow_val ?_ rfl (by kernel_rfl) (by rfl) (fun W hW => ?_) ?_
                      rotate_left 1
                      · have c8 := HC8.out W hW; go_simp <;> with_reducible rfl
                      simp only [puts]
                      refine flow_val ?_ rfl (by kernel_rfl) (by rfl) (fun W hW => ?_) ?_
                      rotate_left 1
                      · go_simp <;> with_reducible rfl
                      simp only [puts]
                      refine flow_val ?_ rfl (by kernel_rfl) (by rfl) (fun W hW => ?_) ?_
                      rotate_left 1
                      · have q := HLE.out; have q2 := HLF.out; go_simp <;> with_reducible rfl
                      simp only [puts]
                      iterate 2
                       refine flow_val ?_ rfl (by kernel_rfl) (by rfl) (fun W hW => ?_) ?_
                       rotate_left 1
                       · go_simp <;> with_reducible rfl
                       simp only [puts]
                      refine flow_val ?_ rfl (by kernel_rfl) (by rfl) (fun W hW => ?_) ?_
                      rotate_left 1
                      · have c8 := HC8.out W hW; go_simp <;> with_reducible rfl
                      simp only [puts]
                      refine flow_val ?_ rfl (by kernel_rfl) (by rfl) (fun W hW => ?_) ?_
                      rotate_left 1
                      · go_simp <;> with_reducible rfl
                      simp only [puts]
                      refine flow_val ?_ rfl (by kernel_rfl) (by rfl) (fun W hW => ?_) ?_
                      rotate_left 1
                      · have q := HY5.out; have q2 := HY6.out; go_simp <;> with_reducible rfl
                      simp only [puts]
                      iterate 3
                       refine flow_off rfl (by kernel_rfl) (by rfl) ?_
                       simp only [puts]
                      refine flow_val ?_ rfl (by kernel_rfl) (by rfl) (fun W hW => ?_) ?_
                      rotate_left 1
                      · go_simp <;> with_reducible rfl
                      simp only [puts]
                      refine flow_quiet (.bool true) rfl (by kernel_rfl) (by rfl) (fun W hW => ⟨_, _, by go_simp, HO5.out W hW⟩) ?_
                      simp only [puts]
                      refine flow_val ?_ rfl (by kernel_rfl) (by rfl) (fun W hW => ?_) ?_
                      rotate_left 1
                      · go_simp <;> with_reducible rfl
                      simp only [puts]
                      refine flow_val ?_ rfl (by kernel_rfl) (by rfl) (fun W hW => ?_) ?_
                      rotate_left 1
                      · have c0 := HC0.out W hW; have c1 := HC1.out W hW; have c2 := HC2.out W hW; have c3 := HC3.out W hW; have c4 := HC4.out W hW; have c5 := HC5.out W hW; have c6 := HC6.out W hW; have c7 := HC7.out W hW; have c8 := HC8.out W hW; go_simp <;> with_reducible rfl
                      simp only [puts]
                      refine flow_call (.bool NN) rfl (by kernel_rfl) (by rfl) (by kernel_rfl) (fun W hW => ⟨_, _, _, by go_simp, (HNN.out W).mono fun e w' ⟨he, hb⟩ => ⟨he, hW.trans (hb.mono hW.size)⟩⟩) ?_
                      simp only [puts]
                      iterate 2
                       refine flow_val ?_ rfl (by kernel_rfl) (by rfl) (fun W hW => ?_) ?_
                       rotate_left 1
                       · go_simp <;> with_reducible rfl
                       simp only [puts]
                      refine flow_done ?_
                      intro W hW
                      have HBW := Lib.hid (HKB.out.trans ((hW.1).mono HKB.out.size))
                      clear hW
                      go_wp2
                      go_ret
                      exact ⟨ret_bool HMA.out.symm, HBW.out⟩
                  · cases O5
                    · go_wp2_with fail
                      refine wp_region_flow (fun W => Below W2.heap.size W2 W) [0, 1, 2, 3, 4, 5, 10, 11, 12, 13, 6, 7, 8, 9, 14, 15, 16, 17, 18, 19] (by kernel_rfl) (by kernel_rfl) (by kernel_rfl) (HB8.out.drew) ?_
                      iterate 2
                       refine flow_val ?_ rfl (by kernel_rfl) (by rfl) (fun W hW => ?_) ?_
                       rotate_left 1
                       · go_simp <;> with_reducible rfl
                       simp only [puts]
                      refine flow_val ?_ rfl (by kernel_rfl) (by rfl) (fun W hW => ?_) ?_
                      rotate_left 1
                      · have c8 := HC8.out W hW; go_simp <;> with_reducible rfl
                      simp only [puts]
                      refine flow_val ?_ rfl (by kernel_rfl) (by rfl) (fun W hW => ?_) ?_
                      rotate_left 1
                      · go_simp <;> with_reducible rfl
                      simp only [puts]
                      refine flow_val ?_ rfl (by kernel_rfl) (by rfl) (fun W hW => ?_) ?_
                      rotate_left 1
                      · have q := HLE.out; have q2 := HLF.out; go_simp <;> with_reducible rfl
                      simp only [puts]
                      iterate 2
                       refine flow_val ?_ rfl (by kernel_rfl) (by rfl) (fun W hW => ?_) ?_
                       rotate_left 1
                       · go_simp <;> with_reducible rfl
                       simp only [puts]
                      refine flow_val ?_ rfl (by kernel_rfl) (by rfl) (fun W hW => ?_) ?_
                      rotate_left 1
                      · have c8 := HC8.out W hW; go_simp <;> with_reducible rfl
                      simp only [puts]
                      refine flow_val ?_ rfl (by kernel_rfl) (by rfl) (fun W hW => ?_) ?_
                      rotate_left 1
                      · go_simp <;> with_reducible rfl
                      simp only [puts]
                      refine flow_val ?_ rfl (by kernel_rfl) (by rfl) (fun W hW => ?_) ?_
                      rotate_left 1
                      · have q := HY5.out; have q2 := HY6.out; go_simp <;> with_reducible rfl
                      simp only [puts]
                      refine flow_val ?_ rfl (by kernel_rfl) (by rfl) (fun W hW => ?_) ?_
                      rotate_left 1
                      · go_simp <;> with_reducible rfl
                      simp only [puts]
                      refine flow_val ?_ rfl (by kernel_rfl) (by rfl) (fun W hW => ?_) ?_
                      rotate_left 1
                      · have c8 := HC8.out W hW; go_simp <;> with_reducible rfl
                      simp only [puts]
                      refine flow_call (.bool MI) rfl (by kernel_rfl) (by rfl) (by kernel_rfl) (fun W hW => ⟨_, _, _, by go_simp, (HMI.out W hW).mono fun e w' ⟨he, hb⟩ => ⟨he, hW.trans (hb.mono hW.size)⟩⟩) ?_
                      simp only [puts]
                      refine flow_val ?_ rfl (by kernel_rfl) (by rfl) (fun W hW => ?_) ?_
                      rotate_left 1
                      · go_simp <;> with_reducible rfl
                      simp only [puts]
                      refine flow_quiet (.bool false) rfl (by kernel_rfl) (by rfl) (fun W hW => ⟨_, _, by go_simp, HO5.out W hW.1⟩) ?_
                      simp only [puts]
                      refine flow_val ?_ rfl (by kernel_rfl) (by rfl) (fun W hW => ?_) ?_
                      rotate_left 1
                      · go_simp <;> with_reducible rfl
                      simp only [puts]
                      iterate 2
                       refine flow_off rfl (by kernel_rfl) (by rfl) ?_
                       simp only [puts]
                      iterate 2
                       refine flow_val ?_ rfl (by kernel_rfl) (by rfl) (fun W hW => ?_) ?_
                       rotate_left 1
                       · go_simp <;> with_reducible rfl
                       simp only [puts]
                      refine flow_done ?_
                      intro W hW
                      have HBW := Lib.hid (HKB.out.trans ((hW.1).mono HKB.out.size))
                      clear hW
                      go_wp2
                      go_ret
                      exact ⟨ret_bool HMA.out.symm, HBW.out⟩
                    · go_wp2_with fail
                      refine wp_region_flow (fun W => Below W2.heap.size W2 W) [0, 1, 2, 3, 4, 5, 10, 11, 12, 13, 6, 7, 8, 9, 14, 15, 16, 17, 18, 19] (by kernel_rfl) (by kernel_rfl) (by kernel_rfl) (HB8.out.drew) ?_
                      iterate 2
                       refine flow_val ?_ rfl (by kernel_rfl) (by rfl) (fun W hW => ?_) ?_
                       rotate_left 1
                       · go_simp <;> with_reducible rfl
                       simp only [puts]
                      refine flow_val ?_ rfl (by kernel_rfl) (by rfl) (fun W hW => ?_) ?_
                      rotate_left 1
                      · have c8 := HC8.out W hW; go_simp <;> with_reducible rfl
                      simp only [puts]
                      refine flow_val ?_ rfl (by kernel_rfl) (by rfl) (fun W hW => ?_) ?_
                      rotate_left 1
                      · go_simp <;> with_reducible rfl
                      simp only [puts]
                      refine flow_val ?_ rfl (by kernel_rfl) (by rfl) (fun W hW => ?_) ?_
                      rotate_left 1
                      · have q := HLE.out; have q2 := HLF.out; go_simp <;> with_reducible rfl
                      simp only [puts]
                      iterate 2
                       refine flow_val ?_ rfl (by kernel_rfl) (by rfl) (fun W hW => ?_) ?_
                       rotate_left 1
                       · go_simp <;> with_reducible rfl
                       simp only [puts]
                      refine flow_val ?_ rfl (by kernel_rfl) (by rfl) (fun W hW => ?_) ?_
                      rotate_left 1
                      · have c8 := HC8.out W hW; go_simp <;> with_reducible rfl
                      simp only [puts]
                      refine flow_val ?_ rfl (by kernel_rfl) (by rfl) (fun W hW => ?_) ?_
                      rotate_left 1
                      · go_simp <;> with_reducible rfl
                      simp only [puts]
                      refine flow_val ?_ rfl (by kernel_rfl) (by rfl) (fun W hW => ?_) ?_
                      rotate_left 1
                      · have q := HY5.out; have q2 := HY6.out; go_simp <;> with_reducible rfl
                      simp only [puts]
                      refine flow_val ?_ rfl (by kernel_rfl) (by rfl) (fun W hW => ?_) ?_
                      rotate_left 1
                      · go_simp <;> with_reducible rfl
                      simp only [puts]
                      refine flow_val ?_ rfl (by kernel_rfl) (by rfl) (fun W hW => ?_) ?_
                      rotate_left 1
                      · have c8 := HC8.out W hW; go_simp <;> with_reducible rfl
                      simp only [puts]
                      refine flow_call (.bool MI) rfl (by kernel_rfl) (by rfl) (by kernel_rfl) (fun W hW => ⟨_, _, _, by go_simp, (HMI.out W hW).mono fun e w' ⟨he, hb⟩ => ⟨he, hW.trans (hb.mono hW.size)⟩⟩) ?_
                      simp only [puts]
                      refine flow_val ?_ rfl (by kernel_rfl) (by rfl) (fun W hW => ?_) ?_
                      rotate_left 1
                      · go_simp <;> with_reducible rfl
                      simp only [puts]
                      refine flow_quiet (.bool true) rfl (by kernel_rfl) (by rfl) (fun W hW => ⟨_, _, by go_simp, HO5.out W hW.1⟩) ?_
                      simp only [puts]
                      refine flow_val ?_ rfl (by kernel_rfl) (by rfl) (fun W hW => ?_) ?_
                      rotate_left 1
                      · go_simp <;> with_reducible rfl
                      simp only [puts]
                      refine flow_val ?_ rfl (by kernel_rfl) (by rfl) (fun W hW => ?_) ?_
                      rotate_left 1
                      · have c0 := HC0.out W hW.1; have c1 := HC1.out W hW.1; have c2 := HC2.out W hW.1; have c3 := HC3.out W hW.1; have c4 := HC4.out W hW.1; have c5 := HC5.out W hW.1; have c6 := HC6.out W hW.1; have c7 := HC7.out W hW.1; have c8 := HC8.out W hW.1; go_simp <;> with_reducible rfl
                      simp only [puts]
                      refine flow_call (.bool NN) rfl (by kernel_rfl) (by rfl) (by kernel_rfl) (fun W hW => ⟨_, _, _, by go_simp, (HNN.out W).mono fun e w' ⟨he, hb⟩ => ⟨he, ⟨hW.1.trans (hb.mono hW.1.size), trivial⟩⟩⟩) ?_
                      simp only [puts]
                      iterate 2
                       refine flow_val ?_ rfl (by kernel_rfl) (by rfl) (fun W hW => ?_) ?_
                       rotate_left 1
                       · go_simp <;> with_reducible rfl
                       simp only [puts]
                      refine flow_done ?_
                      intro W hW
                      have HBW := Lib.hid (HKB.out.trans ((hW.1.1).mono HKB.out.size))
                      clear hW
                      go_wp2
                      go_ret
                      exact ⟨ret_bool HMA.out.symm, HBW.out⟩
            · cases O3
              · go_wp2_with fail
                refine wp_region_flow (fun W => Below W2.heap.size W2 W) [0, 1, 2, 3, 4, 5, 6, 7, 8, 9, 10, 11, 12, 13, 14, 15, 16, 17, 18, 19, 20, 21, 22, 23, 24, 25, 26, 27, 28] (by kernel_rfl) (by kernel_rfl) (by kernel_rfl) (HB6.out.drew) ?_
                iterate 3
                 refine flow_val ?_ rfl (by kernel_rfl) (by rfl) (fun W hW => ?_) ?_
                 rotate_left 1
                 · go_simp <;> with_reducible rfl
                 simp only [puts]
                refine flow_val ?_ rfl (by kernel_rfl) (by rfl) (fun W hW => ?_) ?_
                rotate_left 1
                · have c5 := HC5.out W hW; go_simp <;> with_reducible rfl
                simp only [puts]
                refine flow_quiet (.bool true) rfl (by kernel_rfl) (by rfl) (fun W hW => ⟨_, _, by go_simp, HX3.out W⟩) ?_
                simp only [puts]
                iterate 2
                 refine flow_val ?_ rfl (by kernel_rfl) (by rfl) (fun W hW => ?_) ?_
                 rotate_left 1
                 · go_simp <;> with_reducible rfl
                 simp only [puts]
                refine flow_val ?_ rfl (by kernel_rfl) (by rfl) (fun W hW => ?_) ?_
                rotate_left 1
                · have c5 := HC5.out W hW; go_simp <;> with_reducible rfl
                simp only [puts]
                refine flow_val ?_ rfl (by kernel_rfl) (by rfl) (fun W hW => ?_) ?_
                rotate_left 1
                · go_simp <;> with_reducible rfl
                simp only [puts]
                refine flow_val ?_ rfl (by kernel_rfl) (by rfl) (fun W hW => ?_) ?_
                rotate_left 1
                · have c4 := HC4.out W hW; go_simp <;> with_reducible rfl
                simp only [puts]
                refine flow_val ?_ rfl (by kernel_rfl) (by rfl) (fun W hW => ?_) ?_
                rotate_left 1
                · have q := HNE.out; go_simp <;> with_reducible rfl
                simp only [puts]
                iterate 2
                 refine flow_val ?_ rfl (by kernel_rfl) (by rfl) (fun W hW => ?_) ?_
                 rotate_left 1
                 · go_simp <;> with_reducible rfl
                 simp only [puts]
                refine flow_val ?_ rfl (by kernel_rfl) (by rfl) (fun W hW => ?_) ?_
                rotate_left 1
                · have c5 := HC5.out W hW; go_simp <;> with_reducible rfl
                simp only [puts]
                refine flow_val ?_ rfl (by kernel_rfl) (by rfl) (fun W hW => ?_) ?_
                rotate_left 1
                · have q := HY3.out; go_simp <;> with_reducible rfl
                simp only [puts]
                refine flow_quiet (.bool false) rfl (by kernel_rfl) (by rfl) (fun W hW => ⟨_, _, by go_simp, HO3.out W hW⟩) ?_
                simp only [puts]
                iterate 2
                 refine flow_val ?_ rfl (by kernel_rfl) (by rfl) (fun W hW => ?_) ?_
                 rotate_left 1
                 · go_simp <;> with_reducible rfl
                 simp only [puts]
                iterate 9
                 refine flow_off rfl (by kernel_rfl) (by rfl) ?_
                 simp only [puts]
                iterate 2
                 refine flow_val ?_ rfl (by kernel_rfl) (by rfl) (fun W hW => ?_) ?_
                 rotate_left 1
                 · go_simp <;> with_reducible rfl
                 simp only [puts]
                refine flow_done ?_
                intro W hW
                have HBW := Lib.hid (HKB.out.trans (hW.mono HKB.out.size))
                clear hW
                go_wp2
                go_ret
                exact ⟨ret_bool HMA.out.symm, HBW.out⟩
              · cases O4
                · go_wp2_with fail
                  refine wp_region_flow (fun W => Below W2.heap.size W2 W) [0, 1, 2, 3, 4, 5, 6, 7, 8, 9, 10, 11, 12, 13, 14, 15, 16, 17, 18, 19, 20, 22, 23, 24, 21, 25, 26, 27, 28] (by kernel_rfl) (by kernel_rfl) (by kernel_rfl) (HB6.out.drew) ?_
                  iterate 3
                   refine flow_val ?_ rfl (by kernel_rfl) (by rfl) (fun W hW => ?_) ?_
                   rotate_left 1
                   · go_simp <;> with_reducible rfl
                   simp only [puts]
                  refine flow_val ?_ rfl (by kernel_rfl) (by rfl) (fun W hW => ?_) ?_
                  rotate_left 1
                  · have c5 := HC5.out W hW; go_simp <;> with_reducible rfl
                  simp only [puts]
                  refine flow_quiet (.bool true) rfl (by kernel_rfl) (by rfl) (fun W hW => ⟨_, _, by go_simp, HX3.out W⟩) ?_
                  simp only [puts]
                  iterate 2
                   refine flow_val ?_ rfl (by kernel_rfl) (by rfl) (fun W hW => ?_) ?_
                   rotate_left 1
                   · go_simp <;> with_reducible rfl
                   simp only [puts]
                  refine flow_val ?_ rfl (by kernel_rfl) (by rfl) (fun W hW => ?_) ?_
                  rotate_left 1
                  · have c5 := HC5.out W hW; go_simp <;> with_reducible rfl
                  simp only [puts]
                  refine flow_val ?_ rfl (by kernel_rfl) (by rfl) (fun W hW => ?_) ?_
                  rotate_left 1
                  · go_simp <;> with_reducible rfl
                  simp only [puts]
                  refine flow_val ?_ rfl (by kernel_rfl) (by rfl) (fun W hW => ?_) ?_
                  rotate_left 1
                  · have c4 := HC4.out W hW; go_simp <;> with_reducible rfl
                  simp only [puts]
                  refine flow_val ?_ rfl (by kernel_rfl) (by rfl) (fun W hW => ?_) ?_
                  rotate_left 1
                  · have q := HNE.out; go_simp <;> with_reducible rfl
                  simp only [puts]
                  iterate 2
                   refine flow_val ?_ rfl (by kernel_rfl) (by rfl) (fun W hW => ?_) ?_
                   rotate_left 1
                   · go_simp <;> with_reducible rfl
                   simp only [puts]
                  refine flow_val ?_ rfl (by kernel_rfl) (by rfl) (fun W hW => ?_) ?_
                  rotate_left 1
                  · have c5 := HC5.out W hW; go_simp <;> with_reducible rfl
                  simp only [puts]
                  refine flow_val ?_ rfl (by kernel_rfl) (by rfl) (fun W hW => ?_) ?_
                  rotate_left 1
                  · have q := HY3.out; go_simp <;> with_reducible rfl
                  simp only [puts]
                  refine flow_quiet (.bool true) rfl (by kernel_rfl) (by rfl) (fun W hW => ⟨_, _, by go_simp, HO3.out W hW⟩) ?_
                  simp only [puts]
                  iterate 4
                   refine flow_val ?_ rfl (by kernel_rfl) (by rfl) (fun W hW => ?_) ?_
                   rotate_left 1
                   · go_simp <;> with_reducible rfl
                   simp only [puts]
                  refine flow_val ?_ rfl (by kernel_rfl) (by rfl) (fun W hW => ?_) ?_
                  rotate_left 1
                  · have c7 := HC7.out W hW; go_simp <;> with_reducible rfl
                  simp only [puts]
                  refine flow_val ?_ rfl (by kernel_rfl) (by rfl) (fun W hW => ?_) ?_
                  rotate_left 1
                  · go_simp <;> with_reducible rfl
                  simp only [puts]
                  refine flow_val ?_ rfl (by kernel_rfl) (by rfl) (fun W hW => ?_) ?_
                  rotate_left 1
                  · have c7 := HC7.out W hW; go_simp <;> with_reducible rfl
                  simp only [puts]
                  refine flow_val ?_ rfl (by kernel_rfl) (by rfl) (fun W hW => ?_) ?_
                  rotate_left 1
                  · have q := HY4.out; go_simp <;> with_reducible rfl
                  simp only [puts]
                  refine flow_call (.bool X4) rfl (by kernel_rfl) (by rfl) (by kernel_rfl) (fun W hW => ⟨_, _, _, by go_simp, (HX4.out W).mono fun e w' ⟨he, hp⟩ => ⟨he, hW.trans (by obtain ⟨pos, rfl⟩ := hp; exact ((Below.refl _ W).alloc (Nat.le_refl _) _).mono hW.size)⟩⟩) ?_
                  simp only [puts]
                  refine flow_quiet (.bool false) rfl (by kernel_rfl) (by rfl) (fun W hW => ⟨_, _, by go_simp, HO4.out W hW.1⟩) ?_
                  simp only [puts]
                  iterate 3
                   refine flow_val ?_ rfl (by kernel_rfl) (by rfl) (fun W hW => ?_) ?_
                   rotate_left 1
                   · go_simp <;> with_reducible rfl
                   simp only [puts]
                  refine flow_done ?_
                  intro W hW
                  have HBW := Lib.hid (HKB.out.trans (hW.1.mono HKB.out.size))
                  clear hW
                  go_wp2
                  go_ret
                  exact ⟨ret_bool HMA.out.symm, HBW.out⟩
                · go_wp2_with fail
                  refine wp_region_flow (fun W => Below W2.heap.size W2 W) [0, 1, 2, 3, 4, 5, 6, 7, 8, 9, 10, 11, 12, 13, 14, 15, 16, 17, 18, 19, 20, 22, 23, 24, 21, 25, 26, 27, 28] (by kernel_rfl) (by kernel_rfl) (by kernel_rfl) (HB6.out.drew) ?_
                  iterate 3
                   refine flow_val ?_ rfl (by kernel_rfl) (by rfl) (fun W hW => ?_) ?_
                   rotate_left 1
                   · go_simp <;> with_reducible rfl
                   simp only [puts]
                  refine flow_val ?_ rfl (by kernel_rfl) (by rfl) (fun W hW => ?_) ?_
                  rotate_left 1
                  · have c5 := HC5.out W hW; go_simp <;> with_reducible rfl
                  simp only [puts]
                  refine flow_quiet (.bool true) rfl (by kernel_rfl) (by rfl) (fun W hW => ⟨_, _, by go_simp, HX3.out W⟩) ?_
                  simp only [puts]
                  iterate 2
                   refine flow_val ?_ rfl (by kernel_rfl) (by rfl) (fun W hW => ?_) ?_
                   rotate_left 1
                   · go_simp <;> with_reducible rfl
                   simp only [puts]
                  refine flow_val ?_ rfl (by kernel_rfl) (by rfl) (fun W hW => ?_) ?_
                  rotate_left 1
                  · have c5 := HC5.out W hW; go_simp <;> with_reducible rfl
                  simp only [puts]
                  refine flow_val ?_ rfl (by kernel_rfl) (by rfl) (fun W hW => ?_) ?_
                  rotate_left 1
                  · go_simp <;> with_reducible rfl
                  simp only [puts]
                  refine flow_val ?_ rfl (by kernel_rfl) (by rfl) (fun W hW => ?_) ?_
                  rotate_left 1
                  · have c4 := HC4.out W hW; go_simp <;> with_reducible rfl
                  simp only [puts]
                  refine flow_val ?_ rfl (by kernel_rfl) (by rfl) (fun W hW => ?_) ?_
                  rotate_left 1
                  · have q := HNE.out; go_simp <;> with_reducible rfl
                  simp only [puts]
                  iterate 2
                   refine flow_val ?_ rfl (by kernel_rfl) (by rfl) (fun W hW => ?_) ?_
                   rotate_left 1
                   · go_simp <;> with_reducible rfl
                   simp only [puts]
                  refine flow_val ?_ rfl (by kernel_rfl) (by rfl) (fun W hW => ?_) ?_
                  rotate_left 1
                  · have c5 := HC5.out W hW; go_simp <;> with_reducible rfl
                  simp only [puts]
                  refine flow_val ?_ rfl (by kernel_rfl) (by rfl) (fun W hW => ?_) ?_
                  rotate_left 1
                  · have q := HY3.out; go_simp <;> with_reducible rfl
                  simp only [puts]
                  refine flow_quiet (.bool true) rfl (by kernel_rfl) (by rfl) (fun W hW => ⟨_, _, by go_simp, HO3.out W hW⟩) ?_
                  simp only [puts]
                  iterate 4
                   refine flow_val ?_ rfl (by kernel_rfl) (by rfl) (fun W hW => ?_) ?_
                   rotate_left 1
                   · go_simp <;> with_reducible rfl
                   simp only [puts]
                  refine flow_val ?_ rfl (by kernel_rfl) (by rfl) (fun W hW => ?_) ?_
                  rotate_left 1
                  · have c7 := HC7.out W hW; go_simp <;> with_reducible rfl
                  simp only [puts]
                  refine flow_val ?_ rfl (by kernel_rfl) (by rfl) (fun W hW => ?_) ?_
                  rotate_left 1
                  · go_simp <;> with_reducible rfl
                  simp only [puts]
                  refine flow_val ?_ rfl (by kernel_rfl) (by rfl) (fun W hW => ?_) ?_
                  rotate_left 1
                  · have c7 := HC7.out W hW; go_simp <;> with_reducible rfl
                  simp only [puts]
                  refine flow_val ?_ rfl (by kernel_rfl) (by rfl) (fun W hW => ?_) ?_
                  rotate_left 1
                  · have q := HY4.out; go_simp <;> with_reducible rfl
                  simp only [puts]
                  refine flow_call (.bool X4) rfl (by kernel_rfl) (by rfl) (by kernel_rfl) (fun W hW => ⟨_, _, _, by go_simp, (HX4.out W).mono fun e w' ⟨he, hp⟩ => ⟨he, hW.trans (by obtain ⟨pos, rfl⟩ := hp; exact ((Below.refl _ W).alloc (Nat.le_refl _) _).mono hW.size)⟩⟩) ?_
                  simp only [puts]
                  refine flow_quiet (.bool true) rfl (by kernel_rfl) (by rfl) (fun W hW => ⟨_, _, by go_simp, HO4.out W hW.1⟩) ?_
                  simp only [puts]
                  iterate 3
                   refine flow_val ?_ rfl (by kernel_rfl) (by rfl) (fun W hW => ?_) ?_
                   rotate_left 1
                   · go_simp <;> with_reducible rfl
                   simp only [puts]
                  refine flow_done ?_
                  intro W hW
                  have HB8 := Lib.hid hW.1
                  clear hW
                  cases LE
                  · cases O5
                    · go_wp2_with fail
                      refine wp_region_flow (fun W => Below W2.heap.size W2 W) [0, 1, 2, 3, 4, 5, 10, 11, 12, 13, 6, 7, 8, 9, 14, 15, 16, 17, 18, 19] (by kernel_rfl) (by kernel_rfl) (by kernel_rfl) (HB8.out.drew) ?_
                      iterate 2
                       refine flow_val ?_ rfl (by kernel_rfl) (by rfl) (fun W hW => ?_) ?_
                       rotate_left 1
                       · go_simp <;> with_reducible rfl
                       simp only [puts]
                      refine flow_val ?_ rfl (by kernel_rfl) (by rfl) (fun W hW => ?_) ?_
                      rotate_left 1
                      · have c8 := HC8.out W hW; go_simp <;> with_reducible rfl
                      simp only [puts]
                      refine flow_val ?_ rfl (by kernel_rfl) (by rfl) (fun W hW => ?_) ?_
                      rotate_left 1
                      · go_simp <;> with_reducible rfl
                      simp only [puts]
                      refine flow_val ?_ rfl (by kernel_rfl) (by rfl) (fun W hW => ?_) ?_
                      rotate_left 1
                      · have q := HLE.out; have q2 := HLF.out; go_simp <;> with_reducible rfl
                      simp only [puts]
                      iterate 2
                       refine flow_val ?_ rfl (by kernel_rfl) (by rfl) (fun W hW => ?_) ?_
                       rotate_left 1
                       · go_simp <;> with_reducible rfl
                       simp only [puts]
                      refine flow_val ?_ rfl (by kernel_rfl) (by rfl) (fun W hW => ?_) ?_
                      rotate_left 1
                      · have c8 := HC8.out W hW; go_simp <;> with_reducible rfl
                      simp only [puts]
                      refine flow_val ?_ rfl (by kernel_rfl) (by rfl) (fun W hW => ?_) ?_
                      rotate_left 1
                      · go_simp <;> with_reducible rfl
                      simp only [puts]
                      refine flow_val ?_ rfl (by kernel_rfl) (by rfl) (fun W hW => ?_) ?_
                      rotate_left 1
                      · have q := HY5.out; have q2 := HY6.out; go_simp <;> with_reducible rfl
                      simp only [puts]
                      iterate 3
                       refine flow_off rfl (by kernel_rfl) (by rfl) ?_
                       simp only [puts]
                      refine flow_val ?_ rfl (by kernel_rfl) (by rfl) (fun W hW => ?_) ?_
                      rotate_left 1
                      · go_simp <;> with_reducible rfl
                      simp only [puts]
                      refine flow_quiet (.bool false) rfl (by kernel_rfl) (by rfl) (fun W hW => ⟨_, _, by go_simp, HO5.out W hW⟩) ?_
                      simp only [puts]
                      refine flow_val ?_ rfl (by kernel_rfl) (by rfl) (fun W hW => ?_) ?_
                      rotate_left 1
                      · go_simp <;> with_reducible rfl
                      simp only [puts]
                      iterate 2
                       refine flow_off rfl (by kernel_rfl) (by rfl) ?_
                       simp only [puts]
                      iterate 2
                       refine flow_val ?_ rfl (by kernel_rfl) (by rfl) (fun W hW => ?_) ?_
                       rotate_left 1
                       · go_simp <;> with_reducible rfl
                       simp only [puts]
                      refine flow_done ?_
                      intro W hW
                      have HBW := Lib.hid (HKB.out.trans ((hW).mono HKB.out.size))
                      clear hW
                      go_wp2
                      go_ret
                      exact ⟨ret_bool HMA.out.symm, HBW.out⟩
                    · go_wp2_with fail
                      refine wp_region_flow (fun W => Below W2.heap.size W2 W) [0, 1, 2, 3, 4, 5, 10, 11, 12, 13, 6, 7, 8, 9, 14, 15, 16, 17, 18, 19] (by kernel_rfl) (by kernel_rfl) (by kernel_rfl) (HB8.out.drew) ?_
                      iterate 2
                       refine flow_val ?_ rfl (by kernel_rfl) (by rfl) (fun W hW => ?_) ?_
                       rotate_left 1
                       · go_simp <;> with_reducible rfl
                       simp only [puts]
                      refine flow_val ?_ rfl (by kernel_rfl) (by rfl) (fun W hW => ?_) ?_
                      rotate_left 1
                      · have c8 := HC8.out W hW; go_simp <;> with_reducible rfl
                      simp only [puts]
                      refine flow_val ?_ rfl (by kernel_rfl) (by rfl) (fun W hW => ?_) ?_
                      rotate_left 1
                      · go_simp <;> with_reducible rfl
                      simp only [puts]
                      refine flow_val ?_ rfl (by kernel_rfl) (by rfl) (fun W hW => ?_) ?_
                      rotate_left 1
                      · have q := HLE.out; have q2 := HLF.out; go_simp <;> with_reducible rfl
                      simp only [puts]
                      iterate 2
                       refine flow_val ?_ rfl (by kernel_rfl) (by rfl) (fun W hW => ?_) ?_
                       rotate_left 1
                       · go_simp <;> with_reducible rfl
                       simp only [puts]
                      refine flow_val ?_ rfl (by kernel_rfl) (by rfl) (fun W hW => ?_) ?_
                      rotate_left 1
                      · have c8 := HC8.out W hW; go_simp <;> with_reducible rfl
                      simp only [puts]
                      refine flow_val ?_ rfl (by kernel_rfl) (by rfl) (fun W hW => ?_) ?_
                      rotate_left 1
                      · go_simp <;> with_reducible rfl
                      simp only [puts]
                      refine flow_val ?_ rfl (by kernel_rfl) (by rfl) (fun W hW => ?_) ?_
                      rotate_left 1
                      · have q := HY5.out; have q2 := HY6.out; go_simp <;> with_reducible rfl
                      simp only [puts]
                      iterate 3
                       refine flow_off rfl (by kernel_rfl) (by rfl) ?_
                       simp only [puts]
                      refine flow_val ?_ rfl (by kernel_rfl) (by rfl) (fun W hW => ?_) ?_
                      rotate_left 1
                      · go_simp <;> with_reducible rfl
                      simp only [puts]
                      refine flow_quiet (.bool true) rfl (by kernel_rfl) (by rfl) (fun W hW => ⟨_, _, by go_simp, HO5.out W hW⟩) ?_
                      simp only [puts]
                      refine flow_val ?_ rfl (by kernel_rfl) (by rfl) (fun W hW => ?_) ?_
                      rotate_left 1
                      · go_simp <;> with_reducible rfl
                      simp only [puts]
                      refine flow_val ?_ rfl (by kernel_rfl) (by rfl) (fun W hW => ?_) ?_
                      rotate_left 1
                      · have c0 := HC0.out W hW; have c1 := HC1.out W hW; have c2 := HC2.out W hW; have c3 := HC3.out W hW; have c4 := HC4.out W hW; have c5 := HC5.out W hW; have c6 := HC6.out W hW; have c7 := HC7.out W hW; have c8 := HC8.out W hW; go_simp <;> with_reducible rfl
                      simp only [puts]
                      refine flow_call (.bool NN) rfl (by kernel_rfl) (by rfl) (by kernel_rfl) (fun W hW => ⟨_, _, _, by go_simp, (HNN.out W).mono fun e w' ⟨he, hb⟩ => ⟨he, hW.trans (hb.mono hW.size)⟩⟩) ?_
                      simp only [puts]
                      iterate 2
                       refine flow_val ?_ rfl (by kernel_rfl) (by rfl) (fun W hW => ?_) ?_
                       rotate_left 1
                       · go_simp <;> with_reducible rfl
                       simp only [puts]
                      refine flow_done ?_
                      intro W hW
                      have HBW := Lib.hid (HKB.out.trans ((hW.1).mono HKB.out.size))
                      clear hW
                      go_wp2
                      go_ret
                      exact ⟨ret_bool HMA.out.symm, HBW.out⟩
                  · cases O5
                    · go_wp2_with fail
                      refine wp_region_flow (fun W => Below W2.heap.size W2 W) [0, 1, 2, 3, 4, 5, 10, 11, 12, 13, 6, 7, 8, 9, 14, 15, 16, 17, 18, 19] (by kernel_rfl) (by kernel_rfl) (by kernel_rfl) (HB8.out.drew) ?_
                      iterate 2
                       refine flow_val ?_ rfl (by kernel_rfl) (by rfl) (fun W hW => ?_) ?_
                       rotate_left 1
                       · go_simp <;> with_reducible rfl
                       simp only [puts]
                      refine flow_val ?_ rfl (by kernel_rfl) (by rfl) (fun W hW => ?_) ?_
                      rotate_left 1
                      · have c8 := HC8.out W hW; go_simp <;> with_reducible rfl
                      simp only [puts]
                      refine flow_val ?_ rfl (by kernel_rfl) (by rfl) (fun W hW => ?_) ?_
                      rotate_left 1
                      · go_simp <;> with_reducible rfl
                      simp only [puts]
                      refine flow_val ?_ rfl (by kernel_rfl) (by rfl) (fun W hW => ?_) ?_
                      rotate_left 1
                      · have q := HLE.out; have q2 := HLF.out; go_simp <;> with_reducible rfl
                      simp only [puts]
                      iterate 2
                       refine flow_val ?_ rfl (by kernel_rfl) (by rfl) (fun W hW => ?_) ?_
                       rotate_left 1
                       · go_simp <;> with_reducible rfl
                       simp only [puts]
                      refine flow_val ?_ rfl (by kernel_rfl) (by rfl) (fun W hW => ?_) ?_
                      rotate_left 1
                      · have c8 := HC8.out W hW; go_simp <;> with_reducible rfl
                      simp only [puts]
                      refine flow_val ?_ rfl (by kernel_rfl) (by rfl) (fun W hW => ?_) ?_
                      rotate_left 1
                      · go_simp <;> with_reducible rfl
                      simp only [puts]
                      refine flow_val ?_ rfl (by kernel_rfl) (by rfl) (fun W hW => ?_) ?_
                      rotate_left 1
                      · have q := HY5.out; have q2 := HY6.out; go_simp <;> with_reducible rfl
                      simp only [puts]
                      refine flow_val ?_ rfl (by kernel_rfl) (by rfl) (fun W hW => ?_) ?_
                      rotate_left 1
                      · go_simp <;> with_reducible rfl
                      simp only [puts]
                      refine flow_val ?_ rfl (by kernel_rfl) (by rfl) (fun W hW => ?_) ?_
                      rotate_left 1
                      · have c8 := HC8.out W hW; go_simp <;> with_reducible rfl
                      simp only [puts]
                      refine flow_call (.bool MI) rfl (by kernel_rfl) (by rfl) (by kernel_rfl) (fun W hW => ⟨_, _, _, by go_simp, (HMI.out W hW).mono fun e w' ⟨he, hb⟩ => ⟨he, hW.trans (hb.mono hW.size)⟩⟩) ?_
                      simp only [puts]
                      refine flow_val ?_ rfl (by kernel_rfl) (by rfl) (fun W hW => ?_) ?_
                      rotate_left 1
                      · go_simp <;> with_reducible rfl
                      simp only [puts]
                      refine flow_quiet (.bool false) rfl (by kernel_rfl) (by rfl) (fun W hW => ⟨_, _, by go_simp, HO5.out W hW.1⟩) ?_
                      simp only [puts]
                      refine flow_val ?_ rfl (by kernel_rfl) (by rfl) (fun W hW => ?_) ?_
                      rotate_left 1
                      · go_simp <;> with_reducible rfl
                      simp only [puts]
                      iterate 2
                       refine flow_off rfl (by kernel_rfl) (by rfl) ?_
                       simp only [puts]
                      iterate 2
                       refine flow_val ?_ rfl (by kernel_rfl) (by rfl) (fun W hW => ?_) ?_
                       rotate_left 1
                       · go_simp <;> with_reducible rfl
                       simp only [puts]
                      refine flow_done ?_
                      intro W hW
                      have HBW := Lib.hid (HKB.out.trans ((hW.1).mono HKB.out.size))
                      clear hW
                      go_wp2
                      go_ret
                      exact ⟨ret_bool HMA.out.symm, HBW.out⟩
                    · go_wp2_with fail
                      refine wp_region_flow (fun W => Below W2.heap.size W2 W) [0, 1, 2, 3, 4, 5, 10, 11, 12, 13, 6, 7, 8, 9, 14, 15, 16, 17, 18, 19] (by kernel_rfl) (by kernel_rfl) (by kernel_rfl) (HB8.out.drew) ?_
                      iterate 2
                       refine flow_val ?_ rfl (by kernel_rfl) (by rfl) (fun W hW => ?_) ?_
                       rotate_left 1
                       · go_simp <;> with_reducible rfl
                       simp only [puts]
                      refine flow_val ?_ rfl (by kernel_rfl) (by rfl) (fun W hW => ?_) ?_
                      rotate_left 1
                      · have c8 := HC8.out W hW; go_simp <;> with_reducible rfl
                      simp only [puts]
                      refine flow_val ?_ rfl (by kernel_rfl) (by rfl) (fun W hW => ?_) ?_
                      rotate_left 1
                      · go_simp <;> with_reducible rfl
                      simp only [puts]
                      refine flow_val ?_ rfl (by kernel_rfl) (by rfl) (fun W hW => ?_) ?_
                      rotate_left 1
                      · have q := HLE.out; have q2 := HLF.out; go_simp <;> with_reducible rfl
                      simp only [puts]
                      iterate 2
                       refine flow_val ?_ rfl (by kernel_rfl) (by rfl) (fun W hW => ?_) ?_
                       rotate_left 1
                       · go_simp <;> with_reducible rfl
                       simp only [puts]
                      refine flow_val ?_ rfl (by kernel_rfl) (by rfl) (fun W hW => ?_) ?_
                      rotate_left 1
                      · have c8 := HC8.out W hW; go_simp <;> with_reducible rfl
                      simp only [puts]
                      refine flow_val ?_ rfl (by kernel_rfl) (by rfl) (fun W hW => ?_) ?_
                      rotate_left 1
                      · go_simp <;> with_reducible rfl
                      simp only [puts]
                      refine flow_val ?_ rfl (by kernel_rfl) (by rfl) (fun W hW => ?_) ?_
                      rotate_left 1
                      · have q := HY5.out; have q2 := HY6.out; go_simp <;> with_reducible rfl
                      simp only [puts]
                      refine flow_val ?_ rfl (by kernel_rfl) (by rfl) (fun W hW => ?_) ?_
                      rotate_left 1
                      · go_simp <;> with_reducible rfl
                      simp only [puts]
                      refine flow_val ?_ rfl (by kernel_rfl) (by rfl) (fun W hW => ?_) ?_
                      rotate_left 1
                      · have c8 := HC8.out W hW; go_simp <;> with_reducible rfl
                      simp only [puts]
                      refine flow_call (.bool MI) rfl (by kernel_rfl) (by rfl) (by kernel_rfl) (fun W hW => ⟨_, _, _, by go_simp, (HMI.out W hW).mono fun e w' ⟨he, hb⟩ => ⟨he, hW.trans (hb.mono hW.size)⟩⟩) ?_
                      simp only [puts]
                      refine flow_val ?_ rfl (by kernel_rfl) (by rfl) (fun W hW => ?_) ?_
                      rotate_left 1
                      · go_simp <;> with_reducible rfl
                      simp only [puts]
                      refine flow_quiet (.bool true) rfl (by kernel_rfl) (by rfl) (fun W hW => ⟨_, _, by go_simp, HO5.out W hW.1⟩) ?_
                      simp only [puts]
                      refine flow_val ?_ rfl (by kernel_rfl) (by rfl) (fun W hW => ?_) ?_
                      rotate_left 1
                      · go_simp <;> with_reducible rfl
                      simp only [puts]
                      refine flow_val ?_ rfl (by kernel_rfl) (by rfl) (fun W hW => ?_) ?_
                      rotate_left 1
                      · have c0 := HC0.out W hW.1; have c1 := HC1.out W hW.1; have c2 := HC2.out W hW.1; have c3 := HC3.out W hW.1; have c4 := HC4.out W hW.1; have c5 := HC5.out W hW.1; have c6 := HC6.out W hW.1; have c7 := HC7.out W hW.1; have c8 := HC8.out W hW.1; go_simp <;> with_reducible rfl
                      simp only [puts]
                      refine flow_call (.bool NN) rfl (by kernel_rfl) (by rfl) (by kernel_rfl) (fun W hW => ⟨_, _, _, by go_simp, (HNN.out W).mono fun e w' ⟨he, hb⟩ => ⟨he, ⟨hW.1.trans (hb.mono hW.1.size), trivial⟩⟩⟩) ?_
                      simp only [puts]
                      iterate 2
                       refine flow_val ?_ rfl (by kernel_rfl) (by rfl) (fun W hW => ?_) ?_
                       rotate_left 1
                       · go_simp <;> with_reducible rfl
                       simp only [puts]
                      refine flow_done ?_
                      intro W hW
                      have HBW := Lib.hid (HKB.out.trans ((hW.1.1).mono HKB.out.size))
                      clear hW
                      go_wp2
                      go_ret
                      exact ⟨ret_bool HMA.out.symm, HBW.out⟩
  · have hH := HHA.out rfl
    subst hH
    go_wp2
    go_ret
    exact ⟨ret_bool HMA.out.symm, by rw [HWW.out]; exact HKB.out⟩
end Go.Proofs.Ytpccbobomppdbaa
