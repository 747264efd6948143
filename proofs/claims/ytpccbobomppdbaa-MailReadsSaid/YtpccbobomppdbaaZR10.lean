/- Lists of items compared, requests compared: the program's and the reference's. -/
import Derived.Test.YtpccbobomppdbaaZR9
import Derived.Laws.StructEq
namespace Go.Proofs.Ytpccbobomppdbaa
open Go.RowKit

def eqIt (x y : It) : Bool := (x.good.toList == y.good.toList) && (x.n == y.n)
theorem eqIt_iff {x y : It} : eqIt x y = true ↔ x = y := by
  obtain ⟨g, n⟩ := x
  obtain ⟨g', n'⟩ := y
  unfold eqIt
  simp only [Bool.and_eq_true, beq_iff_eq, It.mk.injEq]
  exact ⟨fun h => ⟨toList_inj h.1, h.2⟩, fun h => ⟨by rw [h.1], h.2⟩⟩
def eqI : List It → List It → Bool
  | [], [] => true
  | x :: a, y :: b => eqIt x y && eqI a b
  | _, _ => false
theorem eqI_iff : ∀ {a b : List It}, eqI a b = true ↔ a = b
  | [], [] => by simp [eqI]
  | [], _ :: _ => by simp [eqI]
  | _ :: _, [] => by simp [eqI]
  | x :: a, y :: b => by
    simp only [eqI, Bool.and_eq_true, eqIt_iff, eqI_iff (a := a) (b := b), List.cons.injEq]
theorem eqI_len {a b : List It} (h : a.length ≠ b.length) : eqI a b = false := by
  cases e : eqI a b with
  | false => rfl
  | true => exact absurd (congrArg List.length (eqI_iff.1 e)) h
theorem eqI_bad {a b : List It} {k : Nat} (h1 : k < a.length) (h2 : k < b.length) (h : eqIt a[k] b[k] = false) : eqI a b = false := by
  cases e : eqI a b with
  | false => rfl
  | true =>
    have := eqI_iff.1 e
    subst this
    rw [eqIt_iff.2 rfl] at h
    cases h
theorem eqI_all {a b : List It} (hl : a.length = b.length) (h : ∀ k (h1 : k < a.length) (h2 : k < b.length), eqIt a[k] b[k] = true) : eqI a b = true :=
  eqI_iff.2 (List.ext_getElem hl fun k h1 h2 => eqIt_iff.1 (h k h1 h2))
/-- Are two requests the same? -/
def eqA (a b : Ak) : Bool := (a.client == b.client) && ((a.number == b.number) && ((a.kind == b.kind) && ((a.order == b.order) && ((a.region == b.region) && ((a.to == b.to) && ((a.n == b.n) && ((a.good.toList == b.good.toList) && eqI a.items b.items)))))))
theorem eqA_iff {a b : Ak} : eqA a b = true ↔ a = b := by
  obtain ⟨a1, a2, a3, a4, a5, a6, a7, a8, a9⟩ := a
  obtain ⟨b1, b2, b3, b4, b5, b6, b7, b8, b9⟩ := b
  unfold eqA
  simp only [Bool.and_eq_true, beq_iff_eq, eqI_iff, Ak.mk.injEq]
  exact ⟨fun ⟨h1, h2, h3, h4, h5, h6, h7, h8, h9⟩ => ⟨h1, h2, h3, h4, h5, h6, h7, toList_inj h8, h9⟩, fun ⟨h1, h2, h3, h4, h5, h6, h7, h8, h9⟩ => ⟨h1, h2, h3, h4, h5, h6, h7, by rw [h8], h9⟩⟩
set_option maxRecDepth 100000 in
set_option maxHeartbeats 2000000 in
theorem xeqI_any (A : Option Addr) (c : Nat) (B : Option Addr) (d : Nat) (l r : List It) (w : World) (hr : Rd w 2 A l.length (l.flatMap encI)) (hs : Rd w 2 B r.length (r.flatMap encI)) (hm : l.length ≤ 4611686018427387903) :
    Calls Try.prog 25 #[.slice A l.length c, .slice B r.length d] w fun e W => e = .returned (.bool (eqI l r)) ∧ Below w.heap.size w W := by
  obtain ⟨m, hm2⟩ : ∃ m, l.length = m := ⟨_, rfl⟩
  obtain ⟨q, hq2⟩ : ∃ q, r.length = q := ⟨_, rfl⟩
  have HM := Lib.hid hm2
  have HQ2 := Lib.hid hq2
  have HR := Lib.hid hr
  have HS := Lib.hid hs
  rw [hm2] at hm ⊢
  rw [hq2]
  clear hr hs hm2 hq2
  by_cases hmq : m = q
  · subst hmq
    go_enter Try.func25, Try.ntmps25
    go_wp2_with fail
    go_loopw [5] (fun iv wr => Below w.heap.size w wr ∧ ∃ k : Nat, k ≤ m ∧ iv = .int .i64 k ∧ ∀ j (h1 : j < l.length) (h2 : j < r.length), j < k → eqIt l[j] r[j] = true) (fun iv => fun _ => m - (intOf iv).toNat)
    case atStart => exact ⟨Below.refl _ _, 0, Nat.zero_le _, rfl, fun j _ _ h => absurd h (by omega)⟩
    case round =>
      obtain ⟨hbw, k, hk, rfl, hq⟩ := hrel
      have HBW := Lib.hid hbw
      have HQ := Lib.hid hq
      clear hbw hq
      by_cases hlt : k < m
      · have hkl : k < l.length := by have := HM.out; omega
        have hkr : k < r.length := by have := HQ2.out; omega
        obtain ⟨g, o, rfl, hg, c0, c1⟩ := rdi_at HR.out hkl
        obtain ⟨g2, o2, rfl, hg2, e0, e1⟩ := rdi_at HS.out hkr
        have HC0 := Lib.hid ((HBW.out.cell (p := ⟨g, o + k * 2, none⟩) hg).trans c0)
        have HC1 := Lib.hid ((HBW.out.cell (p := ⟨g, o + k * 2 + 1, none⟩) hg).trans c1)
        have HE0 := Lib.hid ((HBW.out.cell (p := ⟨g2, o2 + k * 2, none⟩) hg2).trans e0)
        have HE1 := Lib.hid ((HBW.out.cell (p := ⟨g2, o2 + k * 2 + 1, none⟩) hg2).trans e1)
        have HG := Lib.hid (Nat.lt_of_lt_of_le hg HBW.out.size)
        have HG2 := Lib.hid (Nat.lt_of_lt_of_le hg2 HBW.out.size)
        have HBAD : Hid (eqIt l[k] r[k] = false → eqI l r = false) := Lib.hid (fun h => eqI_bad hkl hkr h)
        have HOK : Hid (eqIt l[k] r[k] = true → ∀ j (h1 : j < l.length) (h2 : j < r.length), j < k + 1 → eqIt l[j] r[j] = true) := Lib.hid (fun h j h1 h2 h3 => by
          rcases Nat.lt_or_ge j k with h' | h'
          · exact HQ.out j h1 h2 h'
          · obtain rfl : j = k := by omega
            exact h)
        obtain ⟨gd, hgd⟩ : ∃ gd, l[k].good = gd := ⟨_, rfl⟩
        obtain ⟨n, hn⟩ : ∃ n, l[k].n = n := ⟨_, rfl⟩
        obtain ⟨gd2, hgd2⟩ : ∃ gd, r[k].good = gd := ⟨_, rfl⟩
        obtain ⟨n2, hn2⟩ : ∃ n, r[k].n = n := ⟨_, rfl⟩
        have HEQ : Hid (eqIt l[k] r[k] = ((gd.toList == gd2.toList) && (n == n2))) := Lib.hid (by rw [← hgd, ← hgd2, ← hn, ← hn2]; rfl)
        rw [hgd] at HC0
        rw [hn] at HC1
        rw [hgd2] at HE0
        rw [hn2] at HE1
        have hkm : (k : Int) < (m : Int) := by omega
        have hkm' : decide ((k : Int) < (m : Int)) = true := by simp; omega
        clear c0 c1 e0 e1 hg hg2 hgd hn hgd2 hn2
        by_cases h1 : gd.toList = gd2.toList
        · obtain rfl := toList_inj h1
          clear h1
          by_cases h2 : n = n2
          · subst h2
            have HT := Lib.hid (HOK.out (by rw [HEQ.out]; simp))
            clear HEQ HOK HBAD
            go_wp2_with fail
            refine wp_region_flow (fun W => Below wr.heap.size wr W) [0, 1, 2, 3, 4, 5, 6, 7, 8] (by kernel_rfl) (by kernel_rfl) (by kernel_rfl) ((Below.refl _ _).drew) ?_
            iterate 3
             refine flow_val ?_ rfl (by kernel_rfl) (by rfl) (fun W hW => ?_) ?_
             rotate_left 1
             · go_simp <;> with_reducible rfl
             simp only [puts]
            refine flow_val ?_ rfl (by kernel_rfl) (by rfl) (fun W hW => ?_) ?_
            rotate_left 1
            · have d0 : W.cell? ⟨g, o + k * 2, none⟩ = some (.string gd) := (hW.cell (p := ⟨g, o + k * 2, none⟩) HG.out).trans HC0.out; have d1 : W.cell? ⟨g, o + k * 2 + 1, none⟩ = some (.int .i64 n) := (hW.cell (p := ⟨g, o + k * 2 + 1, none⟩) HG.out).trans HC1.out; go_simp <;> with_reducible rfl
            simp only [puts]
            iterate 3
             refine flow_val ?_ rfl (by kernel_rfl) (by rfl) (fun W hW => ?_) ?_
             rotate_left 1
             · go_simp <;> with_reducible rfl
             simp only [puts]
            refine flow_val ?_ rfl (by kernel_rfl) (by rfl) (fun W hW => ?_) ?_
            rotate_left 1
            · have d0 : W.cell? ⟨g2, o2 + k * 2, none⟩ = some (.string gd) := (hW.cell (p := ⟨g2, o2 + k * 2, none⟩) HG2.out).trans HE0.out; have d1 : W.cell? ⟨g2, o2 + k * 2 + 1, none⟩ = some (.int .i64 n) := (hW.cell (p := ⟨g2, o2 + k * 2 + 1, none⟩) HG2.out).trans HE1.out; go_simp <;> with_reducible rfl
            simp only [puts]
            refine flow_val ?_ rfl (by kernel_rfl) (by rfl) (fun W hW => ?_) ?_
            rotate_left 1
            · go_simp <;> with_reducible rfl
            simp only [puts]
            refine flow_done ?_
            intro W hW
            have HB2 := Lib.hid (HBW.out.trans (hW.mono HBW.out.size))
            clear hW
            go_wp2_with fail
            go_roundw
            case rel => exact ⟨HB2.out, k + 1, hlt, by go_num, HT.out⟩
            case measure => simp [intOf]; omega
          · have HF := Lib.hid (HBAD.out (by rw [HEQ.out]; simp [h2]))
            clear HEQ HOK HBAD
            go_wp2_with fail
            refine wp_region_flow (fun W => Below wr.heap.size wr W) [0, 1, 2, 3, 4, 5, 6, 7, 8] (by kernel_rfl) (by kernel_rfl) (by kernel_rfl) ((Below.refl _ _).drew) ?_
            iterate 3
             refine flow_val ?_ rfl (by kernel_rfl) (by rfl) (fun W hW => ?_) ?_
             rotate_left 1
             · go_simp <;> with_reducible rfl
             simp only [puts]
            refine flow_val ?_ rfl (by kernel_rfl) (by rfl) (fun W hW => ?_) ?_
            rotate_left 1
            · have d0 : W.cell? ⟨g, o + k * 2, none⟩ = some (.string gd) := (hW.cell (p := ⟨g, o + k * 2, none⟩) HG.out).trans HC0.out; have d1 : W.cell? ⟨g, o + k * 2 + 1, none⟩ = some (.int .i64 n) := (hW.cell (p := ⟨g, o + k * 2 + 1, none⟩) HG.out).trans HC1.out; go_simp <;> with_reducible rfl
            simp only [puts]
            iterate 3
             refine flow_val ?_ rfl (by kernel_rfl) (by rfl) (fun W hW => ?_) ?_
             rotate_left 1
             · go_simp <;> with_reducible rfl
             simp only [puts]
            refine flow_val ?_ rfl (by kernel_rfl) (by rfl) (fun W hW => ?_) ?_
            rotate_left 1
            · have d0 : W.cell? ⟨g2, o2 + k * 2, none⟩ = some (.string gd) := (hW.cell (p := ⟨g2, o2 + k * 2, none⟩) HG2.out).trans HE0.out; have d1 : W.cell? ⟨g2, o2 + k * 2 + 1, none⟩ = some (.int .i64 n2) := (hW.cell (p := ⟨g2, o2 + k * 2 + 1, none⟩) HG2.out).trans HE1.out; go_simp <;> with_reducible rfl
            simp only [puts]
            refine flow_val ?_ rfl (by kernel_rfl) (by rfl) (fun W hW => ?_) ?_
            rotate_left 1
            · go_simp <;> with_reducible rfl
            simp only [puts]
            refine flow_done ?_
            intro W hW
            have HB2 := Lib.hid (HBW.out.trans (hW.mono HBW.out.size))
            clear hW
            go_wp2
            go_ret
            exact ⟨ret_bool HF.out.symm, HB2.out⟩
        · have HF := Lib.hid (HBAD.out (by rw [HEQ.out]; simp [h1]))
          clear HEQ HOK HBAD
          go_wp2_with fail
          refine wp_region_flow (fun W => Below wr.heap.size wr W) [0, 1, 2, 3, 4, 5, 6, 7, 8] (by kernel_rfl) (by kernel_rfl) (by kernel_rfl) ((Below.refl _ _).drew) ?_
          iterate 3
           refine flow_val ?_ rfl (by kernel_rfl) (by rfl) (fun W hW => ?_) ?_
           rotate_left 1
           · go_simp <;> with_reducible rfl
           simp only [puts]
          refine flow_val ?_ rfl (by kernel_rfl) (by rfl) (fun W hW => ?_) ?_
          rotate_left 1
          · have d0 : W.cell? ⟨g, o + k * 2, none⟩ = some (.string gd) := (hW.cell (p := ⟨g, o + k * 2, none⟩) HG.out).trans HC0.out; have d1 : W.cell? ⟨g, o + k * 2 + 1, none⟩ = some (.int .i64 n) := (hW.cell (p := ⟨g, o + k * 2 + 1, none⟩) HG.out).trans HC1.out; go_simp <;> with_reducible rfl
          simp only [puts]
          iterate 3
           refine flow_val ?_ rfl (by kernel_rfl) (by rfl) (fun W hW => ?_) ?_
           rotate_left 1
           · go_simp <;> with_reducible rfl
           simp only [puts]
          refine flow_val ?_ rfl (by kernel_rfl) (by rfl) (fun W hW => ?_) ?_
          rotate_left 1
          · have d0 : W.cell? ⟨g2, o2 + k * 2, none⟩ = some (.string gd2) := (hW.cell (p := ⟨g2, o2 + k * 2, none⟩) HG2.out).trans HE0.out; have d1 : W.cell? ⟨g2, o2 + k * 2 + 1, none⟩ = some (.int .i64 n2) := (hW.cell (p := ⟨g2, o2 + k * 2 + 1, none⟩) HG2.out).trans HE1.out; go_simp <;> with_reducible rfl
          simp only [puts]
          refine flow_val ?_ rfl (by kernel_rfl) (by rfl) (fun W hW => ?_) ?_
          rotate_left 1
          · go_simp <;> with_reducible rfl
          simp only [puts]
          refine flow_done ?_
          intro W hW
          have HB2 := Lib.hid (HBW.out.trans (hW.mono HBW.out.size))
          clear hW
          go_wp2
          go_ret
          exact ⟨ret_bool HF.out.symm, HB2.out⟩
      · have ekm : k = m := by omega
        have hkm' : decide ((k : Int) < (m : Int)) = false := by simp; omega
        have HT : Hid (eqI l r = true) := Lib.hid (eqI_all (HM.out.trans HQ2.out.symm) (fun j h1 h2 => HQ.out j h1 h2 (by have := HM.out; omega)))
        subst ekm
        go_wp2
        go_ret
        exact ⟨ret_bool HT.out.symm, HBW.out⟩
  · have HF : Hid (eqI l r = false) := Lib.hid (eqI_len (by rw [HM.out, HQ2.out]; exact hmq))
    have d0 : ((m : Int) == (q : Int)) = false := by simp; omega
    have d1 : ((m : Int) != (q : Int)) = true := by rw [bne, d0]; rfl
    have hmqI : ¬ (m : Int) = (q : Int) := by omega
    go_enter Try.func25, Try.ntmps25
    go_wp2
    go_ret
    exact ⟨ret_bool HF.out.symm, Below.refl _ _⟩
set_option maxRecDepth 100000 in
set_option maxHeartbeats 2000000 in
theorem eqI_any (A : Option Addr) (c : Nat) (B : Option Addr) (d : Nat) (l r : List It) (w : World) (hr : Rd w 2 A l.length (l.flatMap encI)) (hs : Rd w 2 B r.length (r.flatMap encI)) (hm : l.length ≤ 4611686018427387903) :
    Calls Try.prog 27 #[.slice A l.length c, .slice B r.length d] w fun e W => e = .returned (.bool (eqI l r)) ∧ Below w.heap.size w W := by
  obtain ⟨m, hm2⟩ : ∃ m, l.length = m := ⟨_, rfl⟩
  obtain ⟨q, hq2⟩ : ∃ q, r.length = q := ⟨_, rfl⟩
  have HM := Lib.hid hm2
  have HQ2 := Lib.hid hq2
  have HR := Lib.hid hr
  have HS := Lib.hid hs
  rw [hm2] at hm ⊢
  rw [hq2]
  clear hr hs hm2 hq2
  by_cases hmq : m = q
  · subst hmq
    go_enter Try.func27, Try.ntmps27
    go_wp2_with fail
    go_loopw [13] (fun iv wr => Below w.heap.size w wr ∧ ∃ k : Nat, k ≤ m ∧ iv = .int .i64 k ∧ ∀ j (h1 : j < l.length) (h2 : j < r.length), j < k → eqIt l[j] r[j] = true) (fun iv => fun _ => m - (intOf iv).toNat)
    case atStart => exact ⟨Below.refl _ _, 0, Nat.zero_le _, rfl, fun j _ _ h => absurd h (by omega)⟩
    case round =>
      obtain ⟨hbw, k, hk, rfl, hq⟩ := hrel
      have HBW := Lib.hid hbw
      have HQ := Lib.hid hq
      clear hbw hq
      by_cases hlt : k < m
      · have hkl : k < l.length := by have := HM.out; omega
        have hkr : k < r.length := by have := HQ2.out; omega
        obtain ⟨g, o, rfl, hg, c0, c1⟩ := rdi_at HR.out hkl
        obtain ⟨g2, o2, rfl, hg2, e0, e1⟩ := rdi_at HS.out hkr
        have HC0 := Lib.hid ((HBW.out.cell (p := ⟨g, o + k * 2, none⟩) hg).trans c0)
        have HC1 := Lib.hid ((HBW.out.cell (p := ⟨g, o + k * 2 + 1, none⟩) hg).trans c1)
        have HE0 := Lib.hid ((HBW.out.cell (p := ⟨g2, o2 + k * 2, none⟩) hg2).trans e0)
        have HE1 := Lib.hid ((HBW.out.cell (p := ⟨g2, o2 + k * 2 + 1, none⟩) hg2).trans e1)
        have HG := Lib.hid (Nat.lt_of_lt_of_le hg HBW.out.size)
        have HG2 := Lib.hid (Nat.lt_of_lt_of_le hg2 HBW.out.size)
        have HBAD : Hid (eqIt l[k] r[k] = false → eqI l r = false) := Lib.hid (fun h => eqI_bad hkl hkr h)
        have HOK : Hid (eqIt l[k] r[k] = true → ∀ j (h1 : j < l.length) (h2 : j < r.length), j < k + 1 → eqIt l[j] r[j] = true) := Lib.hid (fun h j h1 h2 h3 => by
          rcases Nat.lt_or_ge j k with h' | h'
          · exact HQ.out j h1 h2 h'
          · obtain rfl : j = k := by omega
            exact h)
        obtain ⟨gd, hgd⟩ : ∃ gd, l[k].good = gd := ⟨_, rfl⟩
        obtain ⟨n, hn⟩ : ∃ n, l[k].n = n := ⟨_, rfl⟩
        obtain ⟨gd2, hgd2⟩ : ∃ gd, r[k].good = gd := ⟨_, rfl⟩
        obtain ⟨n2, hn2⟩ : ∃ n, r[k].n = n := ⟨_, rfl⟩
        have HEQ : Hid (eqIt l[k] r[k] = ((gd.toList == gd2.toList) && (n == n2))) := Lib.hid (by rw [← hgd, ← hgd2, ← hn, ← hn2]; rfl)
        rw [hgd] at HC0
        rw [hn] at HC1
        rw [hgd2] at HE0
        rw [hn2] at HE1
        have hkm : (k : Int) < (m : Int) := by omega
        have hkm' : decide ((k : Int) < (m : Int)) = true := by simp; omega
        clear c0 c1 e0 e1 hg hg2 hgd hn hgd2 hn2
        by_cases h1 : gd.toList = gd2.toList
        · obtain rfl := toList_inj h1
          clear h1
          by_cases h2 : n = n2
          · subst h2
            have HT := Lib.hid (HOK.out (by rw [HEQ.out]; simp))
            clear HEQ HOK HBAD
            go_wp2_with fail
            refine wp_region_flow (fun W => Below wr.heap.size wr W) [0, 1, 2, 3, 4, 5, 6, 7, 8] (by kernel_rfl) (by kernel_rfl) (by kernel_rfl) ((Below.refl _ _).drew) ?_
            iterate 3
             refine flow_val ?_ rfl (by kernel_rfl) (by rfl) (fun W hW => ?_) ?_
             rotate_left 1
             · go_simp <;> with_reducible rfl
             simp only [puts]
            refine flow_val ?_ rfl (by kernel_rfl) (by rfl) (fun W hW => ?_) ?_
            rotate_left 1
            · have d0 : W.cell? ⟨g, o + k * 2, none⟩ = some (.string gd) := (hW.cell (p := ⟨g, o + k * 2, none⟩) HG.out).trans HC0.out; have d1 : W.cell? ⟨g, o + k * 2 + 1, none⟩ = some (.int .i64 n) := (hW.cell (p := ⟨g, o + k * 2 + 1, none⟩) HG.out).trans HC1.out; go_simp <;> with_reducible rfl
            simp only [puts]
            iterate 3
             refine flow_val ?_ rfl (by kernel_rfl) (by rfl) (fun W hW => ?_) ?_
             rotate_left 1
             · go_simp <;> with_reducible rfl
             simp only [puts]
            refine flow_val ?_ rfl (by kernel_rfl) (by rfl) (fun W hW => ?_) ?_
            rotate_left 1
            · have d0 : W.cell? ⟨g2, o2 + k * 2, none⟩ = some (.string gd) := (hW.cell (p := ⟨g2, o2 + k * 2, none⟩) HG2.out).trans HE0.out; have d1 : W.cell? ⟨g2, o2 + k * 2 + 1, none⟩ = some (.int .i64 n) := (hW.cell (p := ⟨g2, o2 + k * 2 + 1, none⟩) HG2.out).trans HE1.out; go_simp <;> with_reducible rfl
            simp only [puts]
            refine flow_val ?_ rfl (by kernel_rfl) (by rfl) (fun W hW => ?_) ?_
            rotate_left 1
            · go_simp <;> with_reducible rfl
            simp only [puts]
            refine flow_done ?_
            intro W hW
            have HB2 := Lib.hid (HBW.out.trans (hW.mono HBW.out.size))
            clear hW
            go_wp2_with fail
            go_roundw
            case rel => exact ⟨HB2.out, k + 1, hlt, by go_num, HT.out⟩
            case measure => simp [intOf]; omega
          · have HF := Lib.hid (HBAD.out (by rw [HEQ.out]; simp [h2]))
            clear HEQ HOK HBAD
            go_wp2_with fail
            refine wp_region_flow (fun W => Below wr.heap.size wr W) [0, 1, 2, 3, 4, 5, 6, 7, 8] (by kernel_rfl) (by kernel_rfl) (by kernel_rfl) ((Below.refl _ _).drew) ?_
            iterate 3
             refine flow_val ?_ rfl (by kernel_rfl) (by rfl) (fun W hW => ?_) ?_
             rotate_left 1
             · go_simp <;> with_reducible rfl
             simp only [puts]
            refine flow_val ?_ rfl (by kernel_rfl) (by rfl) (fun W hW => ?_) ?_
            rotate_left 1
            · have d0 : W.cell? ⟨g, o + k * 2, none⟩ = some (.string gd) := (hW.cell (p := ⟨g, o + k * 2, none⟩) HG.out).trans HC0.out; have d1 : W.cell? ⟨g, o + k * 2 + 1, none⟩ = some (.int .i64 n) := (hW.cell (p := ⟨g, o + k * 2 + 1, none⟩) HG.out).trans HC1.out; go_simp <;> with_reducible rfl
            simp only [puts]
            iterate 3
             refine flow_val ?_ rfl (by kernel_rfl) (by rfl) (fun W hW => ?_) ?_
             rotate_left 1
             · go_simp <;> with_reducible rfl
             simp only [puts]
            refine flow_val ?_ rfl (by kernel_rfl) (by rfl) (fun W hW => ?_) ?_
            rotate_left 1
            · have d0 : W.cell? ⟨g2, o2 + k * 2, none⟩ = some (.string gd) := (hW.cell (p := ⟨g2, o2 + k * 2, none⟩) HG2.out).trans HE0.out; have d1 : W.cell? ⟨g2, o2 + k * 2 + 1, none⟩ = some (.int .i64 n2) := (hW.cell (p := ⟨g2, o2 + k * 2 + 1, none⟩) HG2.out).trans HE1.out; go_simp <;> with_reducible rfl
            simp only [puts]
            refine flow_val ?_ rfl (by kernel_rfl) (by rfl) (fun W hW => ?_) ?_
            rotate_left 1
            · go_simp <;> with_reducible rfl
            simp only [puts]
            refine flow_done ?_
            intro W hW
            have HB2 := Lib.hid (HBW.out.trans (hW.mono HBW.out.size))
            clear hW
            go_wp2
            go_ret
            exact ⟨ret_bool HF.out.symm, HB2.out⟩
        · have HF := Lib.hid (HBAD.out (by rw [HEQ.out]; simp [h1]))
          clear HEQ HOK HBAD
          go_wp2_with fail
          refine wp_region_flow (fun W => Below wr.heap.size wr W) [0, 1, 2, 3, 4, 5, 6, 7, 8] (by kernel_rfl) (by kernel_rfl) (by kernel_rfl) ((Below.refl _ _).drew) ?_
          iterate 3
           refine flow_val ?_ rfl (by kernel_rfl) (by rfl) (fun W hW => ?_) ?_
           rotate_left 1
           · go_simp <;> with_reducible rfl
           simp only [puts]
          refine flow_val ?_ rfl (by kernel_rfl) (by rfl) (fun W hW => ?_) ?_
          rotate_left 1
          · have d0 : W.cell? ⟨g, o + k * 2, none⟩ = some (.string gd) := (hW.cell (p := ⟨g, o + k * 2, none⟩) HG.out).trans HC0.out; have d1 : W.cell? ⟨g, o + k * 2 + 1, none⟩ = some (.int .i64 n) := (hW.cell (p := ⟨g, o + k * 2 + 1, none⟩) HG.out).trans HC1.out; go_simp <;> with_reducible rfl
          simp only [puts]
          iterate 3
           refine flow_val ?_ rfl (by kernel_rfl) (by rfl) (fun W hW => ?_) ?_
           rotate_left 1
           · go_simp <;> with_reducible rfl
           simp only [puts]
          refine flow_val ?_ rfl (by kernel_rfl) (by rfl) (fun W hW => ?_) ?_
          rotate_left 1
          · have d0 : W.cell? ⟨g2, o2 + k * 2, none⟩ = some (.string gd2) := (hW.cell (p := ⟨g2, o2 + k * 2, none⟩) HG2.out).trans HE0.out; have d1 : W.cell? ⟨g2, o2 + k * 2 + 1, none⟩ = some (.int .i64 n2) := (hW.cell (p := ⟨g2, o2 + k * 2 + 1, none⟩) HG2.out).trans HE1.out; go_simp <;> with_reducible rfl
          simp only [puts]
          refine flow_val ?_ rfl (by kernel_rfl) (by rfl) (fun W hW => ?_) ?_
          rotate_left 1
          · go_simp <;> with_reducible rfl
          simp only [puts]
          refine flow_done ?_
          intro W hW
          have HB2 := Lib.hid (HBW.out.trans (hW.mono HBW.out.size))
          clear hW
          go_wp2
          go_ret
          exact ⟨ret_bool HF.out.symm, HB2.out⟩
      · have ekm : k = m := by omega
        have hkm' : decide ((k : Int) < (m : Int)) = false := by simp; omega
        have HT : Hid (eqI l r = true) := Lib.hid (eqI_all (HM.out.trans HQ2.out.symm) (fun j h1 h2 => HQ.out j h1 h2 (by have := HM.out; omega)))
        subst ekm
        go_wp2
        go_ret
        exact ⟨ret_bool HT.out.symm, HBW.out⟩
  · have HF : Hid (eqI l r = false) := Lib.hid (eqI_len (by rw [HM.out, HQ2.out]; exact hmq))
    have d0 : ((m : Int) == (q : Int)) = false := by simp; omega
    have d1 : ((m : Int) != (q : Int)) = true := by rw [bne, d0]; rfl
    have hmqI : ¬ (m : Int) = (q : Int) := by omega
    go_enter Try.func27, Try.ntmps27
    go_wp2
    go_ret
    exact ⟨ret_bool HF.out.symm, Below.refl _ _⟩
set_option maxRecDepth 100000 in
set_option maxHeartbeats 2000000 in
theorem xsameA_any (a b : Ak) (A : Option Addr) (c : Nat) (B : Option Addr) (d : Nat) (w : World) (hr : Rd w 2 A a.items.length (a.items.flatMap encI)) (hs : Rd w 2 B b.items.length (b.items.flatMap encI)) (hm : a.items.length ≤ 4611686018427387903) :
    Calls Try.prog 26 #[akV a (.slice A a.items.length c), akV b (.slice B b.items.length d)] w fun e W => e = .returned (.bool (eqA a b)) ∧ Below w.heap.size w W := by
  have HE : Hid (eqA a b = ((a.client == b.client) && ((a.number == b.number) && ((a.kind == b.kind) && ((a.order == b.order) && ((a.region == b.region) && ((a.to == b.to) && ((a.n == b.n) && ((a.good.toList == b.good.toList) && eqI a.items b.items))))))))) := Lib.hid rfl
  have HC := Lib.hid (fun W (hW : Below w.heap.size w W) => xeqI_any A c B d a.items b.items W (hr.below hW) (hs.below hW) hm)
  obtain ⟨a1, a2, a3, a4, a5, a6, a7, a8, a9⟩ := a
  obtain ⟨b1, b2, b3, b4, b5, b6, b7, b8, b9⟩ := b
  simp only at HE HC ⊢
  clear hr hs hm
  obtain ⟨E1, hE1⟩ : ∃ E, (a1 == b1) = E := ⟨_, rfl⟩
  obtain ⟨E2, hE2⟩ : ∃ E, (a2 == b2) = E := ⟨_, rfl⟩
  obtain ⟨E3, hE3⟩ : ∃ E, (a3 == b3) = E := ⟨_, rfl⟩
  obtain ⟨E4, hE4⟩ : ∃ E, (a4 == b4) = E := ⟨_, rfl⟩
  obtain ⟨E5, hE5⟩ : ∃ E, (a5 == b5) = E := ⟨_, rfl⟩
  obtain ⟨E6, hE6⟩ : ∃ E, (a6 == b6) = E := ⟨_, rfl⟩
  obtain ⟨E7, hE7⟩ : ∃ E, (a7 == b7) = E := ⟨_, rfl⟩
  obtain ⟨E8, hE8⟩ : ∃ E, (a8.toList == b8.toList) = E := ⟨_, rfl⟩
  obtain ⟨E9, hE9⟩ : ∃ E, eqI a9 b9 = E := ⟨_, rfl⟩
  obtain ⟨m, hm⟩ : ∃ m, a9.length = m := ⟨_, rfl⟩
  obtain ⟨q, hq⟩ : ∃ q, b9.length = q := ⟨_, rfl⟩
  rw [hE1, hE2, hE3, hE4, hE5, hE6, hE7, hE8, hE9] at HE
  rw [hE9, hm, hq] at HC
  rw [hm, hq]
  have HBB := Lib.hid (((Below.refl _ w).alloc (Nat.le_refl _) (.cells #[.int .i64 a1, .int .i64 a2, .int .i64 a3, .int .i64 a4, .int .i64 a5, .int .i64 a6, .int .i64 a7, .string a8, .slice A m c] 24)).alloc (by simp) (.cells #[.int .i64 b1, .int .i64 b2, .int .i64 b3, .int .i64 b4, .int .i64 b5, .int .i64 b6, .int .i64 b7, .string b8, .slice B q d] 24))
  clear hE9 hm hq
  go_enter Try.func26, Try.ntmps26
  cases E1
  case false =>
    go_wp2
    go_ret
    exact ⟨ret_bool HE.out.symm, HBB.out⟩
  cases E2
  case false =>
    go_wp2
    go_ret
    exact ⟨ret_bool HE.out.symm, HBB.out⟩
  cases E3
  case false =>
    go_wp2
    go_ret
    exact ⟨ret_bool HE.out.symm, HBB.out⟩
  cases E4
  case false =>
    go_wp2
    go_ret
    exact ⟨ret_bool HE.out.symm, HBB.out⟩
  cases E5
  case false =>
    go_wp2
    go_ret
    exact ⟨ret_bool HE.out.symm, HBB.out⟩
  cases E6
  case false =>
    go_wp2
    go_ret
    exact ⟨ret_bool HE.out.symm, HBB.out⟩
  cases E7
  case false =>
    go_wp2
    go_ret
    exact ⟨ret_bool HE.out.symm, HBB.out⟩
  cases E8
  case false =>
    go_wp2
    go_ret
    exact ⟨ret_bool HE.out.symm, HBB.out⟩
  go_wp2_with fail
  refine (HC.out _ HBB.out).mono ?_
  rintro e w1 ⟨rfl, hb⟩
  have HB2 := Lib.hid (HBB.out.trans (hb.mono HBB.out.size))
  clear hb
  go_wp2
  go_ret
  exact ⟨ret_bool HE.out.symm, HB2.out⟩
set_option maxRecDepth 100000 in
set_option maxHeartbeats 2000000 in
theorem asame_any (a b : Ak) (A : Option Addr) (c : Nat) (B : Option Addr) (d : Nat) (w : World) (hr : Rd w 2 A a.items.length (a.items.flatMap encI)) (hs : Rd w 2 B b.items.length (b.items.flatMap encI)) (hm : a.items.length ≤ 4611686018427387903) :
    Calls Try.prog 28 #[akV a (.slice A a.items.length c), akV b (.slice B b.items.length d)] w fun e W => e = .returned (.bool (eqA a b)) ∧ Below w.heap.size w W := by
  have HE : Hid (eqA a b = ((a.client == b.client) && ((a.number == b.number) && ((a.kind == b.kind) && ((a.order == b.order) && ((a.region == b.region) && ((a.to == b.to) && ((a.n == b.n) && ((a.good.toList == b.good.toList) && eqI a.items b.items))))))))) := Lib.hid rfl
  have HC := Lib.hid (fun W (hW : Below w.heap.size w W) => eqI_any A c B d a.items b.items W (hr.below hW) (hs.below hW) hm)
  obtain ⟨a1, a2, a3, a4, a5, a6, a7, a8, a9⟩ := a
  obtain ⟨b1, b2, b3, b4, b5, b6, b7, b8, b9⟩ := b
  simp only at HE HC ⊢
  clear hr hs hm
  obtain ⟨E1, hE1⟩ : ∃ E, (a1 == b1) = E := ⟨_, rfl⟩
  obtain ⟨E2, hE2⟩ : ∃ E, (a2 == b2) = E := ⟨_, rfl⟩
  obtain ⟨E3, hE3⟩ : ∃ E, (a3 == b3) = E := ⟨_, rfl⟩
  obtain ⟨E4, hE4⟩ : ∃ E, (a4 == b4) = E := ⟨_, rfl⟩
  obtain ⟨E5, hE5⟩ : ∃ E, (a5 == b5) = E := ⟨_, rfl⟩
  obtain ⟨E6, hE6⟩ : ∃ E, (a6 == b6) = E := ⟨_, rfl⟩
  obtain ⟨E7, hE7⟩ : ∃ E, (a7 == b7) = E := ⟨_, rfl⟩
  obtain ⟨E8, hE8⟩ : ∃ E, (a8.toList == b8.toList) = E := ⟨_, rfl⟩
  obtain ⟨E9, hE9⟩ : ∃ E, eqI a9 b9 = E := ⟨_, rfl⟩
  obtain ⟨m, hm⟩ : ∃ m, a9.length = m := ⟨_, rfl⟩
  obtain ⟨q, hq⟩ : ∃ q, b9.length = q := ⟨_, rfl⟩
  rw [hE1, hE2, hE3, hE4, hE5, hE6, hE7, hE8, hE9] at HE
  rw [hE9, hm, hq] at HC
  rw [hm, hq]
  have HBB := Lib.hid (((Below.refl _ w).alloc (Nat.le_refl _) (.cells #[.int .i64 a1, .int .i64 a2, .int .i64 a3, .int .i64 a4, .int .i64 a5, .int .i64 a6, .int .i64 a7, .string a8, .slice A m c] 24)).alloc (by simp) (.cells #[.int .i64 b1, .int .i64 b2, .int .i64 b3, .int .i64 b4, .int .i64 b5, .int .i64 b6, .int .i64 b7, .string b8, .slice B q d] 24))
  clear hE9 hm hq
  go_enter Try.func28, Try.ntmps28
  cases E1
  case false =>
    go_wp2
    go_ret
    exact ⟨ret_bool HE.out.symm, HBB.out⟩
  cases E2
  case false =>
    go_wp2
    go_ret
    exact ⟨ret_bool HE.out.symm, HBB.out⟩
  cases E3
  case false =>
    go_wp2
    go_ret
    exact ⟨ret_bool HE.out.symm, HBB.out⟩
  cases E4
  case false =>
    go_wp2
    go_ret
    exact ⟨ret_bool HE.out.symm, HBB.out⟩
  cases E5
  case false =>
    go_wp2
    go_ret
    exact ⟨ret_bool HE.out.symm, HBB.out⟩
  cases E6
  case false =>
    go_wp2
    go_ret
    exact ⟨ret_bool HE.out.symm, HBB.out⟩
  cases E7
  case false =>
    go_wp2
    go_ret
    exact ⟨ret_bool HE.out.symm, HBB.out⟩
  cases E8
  case false =>
    go_wp2
    go_ret
    exact ⟨ret_bool HE.out.symm, HBB.out⟩
  go_wp2_with fail
  refine (HC.out _ HBB.out).mono ?_
  rintro e w1 ⟨rfl, hb⟩
  have HB2 := Lib.hid (HBB.out.trans (hb.mono HBB.out.size))
  clear hb
  go_wp2
  go_ret
  exact ⟨ret_bool HE.out.symm, HB2.out⟩
end Go.Proofs.Ytpccbobomppdbaa
