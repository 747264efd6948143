/- slices.symMergeCmpFunc on parts. -/
import Derived.Test.YtochhjdjfgiaeaaNDown
import Derived.Deep.DeepCutAuto
import Derived.Test.YtochhjdjfgiaeaaNRot
namespace Go.Proofs.Ytochhjdjfgiaeaa
open Go.RowKit

/-- What a merge makes of two neighbours, in a row of n. -/
def MrgN (n a b : Nat) (l : List (Nat × Nat)) (base g c : Nat) (w w' : World) : Prop := (∃ l', SymP.Res a b l l' ∧ SymP.Srt l' a b ∧ w'.ownsRow base 56 2 (.slice (some ⟨g, 0, none⟩) n c) n (l'.flatMap encQ)) ∧ Fr base [56] [] w w'

set_option maxRecDepth 100000 in
set_option maxHeartbeats 4000000 in
theorem sym_gen (n a m b base g c : Nat) (rs : List (Nat × Nat)) (w : World) (hn : rs.length = n) (hb : b ≤ n) (h1 : a + 1 < m) (h2 : m + 1 < b) (hm : n ≤ 1048576) (hS1 : SymP.Srt rs a m) (hS2 : SymP.Srt rs m b) (hP : SymP.Sep rs a m b)
    (hown : w.ownsRow base 56 2 (.slice (some ⟨g, 0, none⟩) n c) n (rs.flatMap encQ))
    (IH : ∀ a' m' b' (l : List (Nat × Nat)) (W : World), b' - a' < b - a → a' < m' → m' < b' → b' ≤ n → l.length = n → SymP.Srt l a' m' → SymP.Srt l m' b' → SymP.Sep l a' m' b' → W.ownsRow base 56 2 (.slice (some ⟨g, 0, none⟩) n c) n (l.flatMap encQ) → Calls Try.prog 54 #[.slice (some ⟨g, 0, none⟩) n c, .int .i64 (a' : Int), .int .i64 (m' : Int), .int .i64 (b' : Int), .func (.func 31) #[] #[]] W fun e w' => e = .returned (.tuple #[]) ∧ MrgN n a' b' l base g c W w') :
    Calls Try.prog 54 #[.slice (some ⟨g, 0, none⟩) n c, .int .i64 (a : Int), .int .i64 (m : Int), .int .i64 (b : Int), .func (.func 31) #[] #[]] w fun e w' => e = .returned (.tuple #[]) ∧ MrgN n a b rs base g c w w' := by
  have HOWN := Lib.hid hown
  have HS1 := Lib.hid hS1
  have HS2 := Lib.hid hS2
  have HP := Lib.hid hP
  have HIH := Lib.hid IH
  have HN := Lib.hid hn
  have g1 : (((m : Int) - (a : Int)) == 1) = false := by rw [beq_eq_false_iff_ne]; omega
  have g2 : (((b : Int) - (m : Int)) == 1) = false := by rw [beq_eq_false_iff_ne]; omega
  have gw1 : IntKind.i64.wrap ((m : Int) - (a : Int)) = (m : Int) - (a : Int) := IntWalk.i64_in _ (by omega)
  have gw2 : IntKind.i64.wrap ((b : Int) - (m : Int)) = (b : Int) - (m : Int) := IntWalk.i64_in _ (by omega)
  obtain ⟨mid, hmid⟩ : ∃ mid, (a + b) / 2 = mid := ⟨_, rfl⟩
  have ms1 : (a : Int) + (b : Int) = ((a + b : Nat) : Int) := by omega
  have mw1 : IntKind.i64.wrap ((a + b : Nat) : Int) = ((a + b : Nat) : Int) := IntWalk.i64_in _ (by omega)
  have mw2 : IntKind.u64.wrap ((a + b : Nat) : Int) = ((a + b : Nat) : Int) := by rw [IntKind.wrap_u64]; omega
  have md : ((a + b : Nat) : Int) / 2 = (mid : Int) := by omega
  have mw3 : IntKind.i64.wrap (mid : Int) = (mid : Int) := IntWalk.i64_in _ (by omega)
  obtain ⟨lo, hlo⟩ : ∃ lo, (if mid < m then mid + m - b else a) = lo := ⟨_, rfl⟩
  obtain ⟨hi, hhi⟩ : ∃ hi, (if mid < m then mid else m) = hi := ⟨_, rfl⟩
  have f1 : a ≤ lo ∧ lo ≤ hi ∧ hi ≤ m ∧ hi ≤ mid ∧ mid + m ≤ lo + b ∧ a < mid ∧ mid < b := by
    by_cases hc : mid < m
    · rw [if_pos hc] at hlo hhi; omega
    · rw [if_neg hc] at hlo hhi; omega
  obtain ⟨nn, hnn⟩ : ∃ nn, mid + m = nn := ⟨_, rfl⟩
  have ns1 : (mid : Int) + (m : Int) = (nn : Int) := by omega
  have nw1 : IntKind.i64.wrap (nn : Int) = (nn : Int) := IntWalk.i64_in _ (by omega)
  obtain ⟨pp, hpp⟩ : ∃ pp, nn - 1 = pp := ⟨_, rfl⟩
  have ps1 : (nn : Int) - 1 = (pp : Int) := by omega
  have pw1 : IntKind.i64.wrap (pp : Int) = (pp : Int) := IntWalk.i64_in _ (by omega)
  obtain ⟨s, hs⟩ : ∃ s, a + b = s := ⟨_, rfl⟩
  rw [hs] at ms1 mw1 mw2 md
  have HMID : Hid (mid = (a + b) / 2) := Lib.hid hmid.symm
  have HLO := Lib.hid hlo.symm
  have HHI := Lib.hid hhi.symm
  have HNN := Lib.hid hnn
  have HPP := Lib.hid hpp
  have HF1 := Lib.hid f1
  have g3 : ∀ h : mid < m, IntKind.i64.wrap ((nn : Int) - (b : Int)) = (lo : Int) ∧ hi = mid := fun h => by
    rw [if_pos h] at hlo hhi
    exact ⟨by rw [IntWalk.i64_in _ (by omega)]; omega, hhi.symm⟩
  have g4 : ∀ h : ¬ mid < m, a = lo ∧ hi = m := fun h => by
    rw [if_neg h] at hlo hhi
    exact ⟨hlo, hhi.symm⟩
  have HG3 := Lib.hid g3
  have HG4 := Lib.hid g4
  clear hown hS1 hS2 hP IH hn hmid hlo hhi hnn hpp hs f1 g3 g4
  go_enter Try.func54, Try.ntmps54
  go_upto_if 140 with fail
  go_cut [20, 21] (fun sv rv wx => sv = .int .i64 (lo : Int) ∧ rv = .int .i64 (hi : Int) ∧ w = wx)
  case first =>
    by_cases hc : mid < m
    · have hci : (mid : Int) < (m : Int) := by omega
      obtain ⟨e1, e2⟩ := HG3.out hc
      have HE2 := Lib.hid e2
      clear e2
      go_wp2_with fail
      go_meet
      exact ⟨rfl, by rw [HE2.out], rfl⟩
    · have hci : ¬ (mid : Int) < (m : Int) := by omega
      obtain ⟨e1, e2⟩ := HG4.out hc
      have HE1 := Lib.hid e1
      have HE2 := Lib.hid e2
      clear e1 e2
      go_wp2_with fail
      go_meet
      exact ⟨by rw [HE1.out], by rw [HE2.out], rfl⟩
  case rest =>
  obtain ⟨rfl, rfl, rfl⟩ := hcut
  go_wp2_with fail
  go_loopw [20, 21] (fun iv jv wr => ∃ (i j : Nat), iv = .int .i64 (i : Int) ∧ jv = .int .i64 (j : Int) ∧ SymP.Srch lo hi nn rs i j ∧ Fr base [] [] w wr) (fun iv jv _ => (intOf jv).toNat - (intOf iv).toNat)
  case atStart => exact ⟨lo, hi, rfl, rfl, ⟨Nat.le_refl _, HF1.out.2.1, Nat.le_refl _, .inl rfl, .inl rfl⟩, Fr.refl w⟩
  case round =>
    obtain ⟨i, j, rfl, rfl, hup, hfr⟩ := hrel
    have hi1 := hup.h1
    have hi2 := hup.h2
    have hi3 := hup.h3
    have HUP := Lib.hid hup
    have HFR := Lib.hid hfr
    obtain ⟨k1, k2, k3, k4, k5, k6, k7⟩ := HF1.out
    clear hup hfr
    by_cases hlt : i < j
    · obtain ⟨h, hh⟩ : ∃ h, (i + j) / 2 = h := ⟨_, rfl⟩
      have hs1 : (i : Int) + (j : Int) = ((i + j : Nat) : Int) := by omega
      have hw1 : IntKind.i64.wrap ((i + j : Nat) : Int) = ((i + j : Nat) : Int) := IntWalk.i64_in _ (by omega)
      have hw2 : IntKind.u64.wrap ((i + j : Nat) : Int) = ((i + j : Nat) : Int) := by rw [IntKind.wrap_u64]; omega
      have hd : ((i + j : Nat) : Int) / 2 = (h : Int) := by omega
      have hw3 : IntKind.i64.wrap (h : Int) = (h : Int) := IntWalk.i64_in _ (by omega)
      have hij : (i : Int) < (j : Int) := by omega
      obtain ⟨s', hs'⟩ : ∃ s', i + j = s' := ⟨_, rfl⟩
      rw [hs'] at hs1 hw1 hw2 hd
      have HH := Lib.hid hh
      obtain ⟨x, hx⟩ : ∃ x, pp - h = x := ⟨_, rfl⟩
      have hnn := HNN.out
      have hpp := HPP.out
      have hxs : (pp : Int) - (h : Int) = (x : Int) := by omega
      have hxw : IntKind.i64.wrap (x : Int) = (x : Int) := IntWalk.i64_in _ (by omega)
      have HX : Hid (nn - 1 - h = x ∧ h < m ∧ m ≤ x ∧ x < b ∧ a ≤ h) := Lib.hid (by omega)
      have hln := HN.out
      have hla : x < rs.length := by omega
      have hlh : h < rs.length := by omega
      have hlar : (x : Int) < (n : Int) := by omega
      have hlhr : (h : Int) < (n : Int) := by omega
      have howr := HFR.out.own HOWN.out (by simp) (by simp)
      obtain ⟨_, _, hv, _, _, hrd, _⟩ := own_slice howr
      cases hv
      obtain ⟨g', o', e', hg', hcell⟩ := hrd.2 (by omega)
      cases e'
      obtain ⟨p, hp⟩ : ∃ p, rs[x] = p := ⟨_, rfl⟩
      obtain ⟨q, hq⟩ : ∃ q, rs[h] = q := ⟨_, rfl⟩
      have hc : ∀ W, Below wr.heap.size wr W → W.cell? ⟨g, x * 2, none⟩ = some (.int .i64 (p.1 : Int)) ∧ W.cell? ⟨g, x * 2 + 1, none⟩ = some (.int .u64 (p.2 : Int)) ∧ W.cell? ⟨g, h * 2, none⟩ = some (.int .i64 (q.1 : Int)) ∧ W.cell? ⟨g, h * 2 + 1, none⟩ = some (.int .u64 (q.2 : Int)) := fun W hW => by
        have e0 := hcell (x * 2 + 0) _ (by rw [flatQ_at rs x 0 hla (by omega)]; rfl)
        have e1 := hcell (x * 2 + 1) _ (by rw [flatQ_at rs x 1 hla (by omega)]; rfl)
        have e2 := hcell (h * 2 + 0) _ (by rw [flatQ_at rs h 0 hlh (by omega)]; rfl)
        have e3 := hcell (h * 2 + 1) _ (by rw [flatQ_at rs h 1 hlh (by omega)]; rfl)
        rw [hp] at e0 e1
        rw [hq] at e2 e3
        exact ⟨(hW.cell (p := ⟨g, _, none⟩) hg').trans (by simpa using e0), (hW.cell (p := ⟨g, _, none⟩) hg').trans (by simpa using e1), (hW.cell (p := ⟨g, _, none⟩) hg').trans (by simpa using e2), (hW.cell (p := ⟨g, _, none⟩) hg').trans (by simpa using e3)⟩
      have HC := Lib.hid hc
      have hpd : rs.getD x SymP.z = p := by rw [← hp]; simp [List.getD_eq_getElem?_getD, hla]
      have hqd : rs.getD h SymP.z = q := by rw [← hq]; simp [List.getD_eq_getElem?_getD, hlh]
      have HPD := Lib.hid hpd
      have HQD := Lib.hid hqd
      obtain ⟨C, hC⟩ : ∃ C, cmpN (q.2 : Int) (p.2 : Int) = C := ⟨_, rfl⟩
      have HCm := Lib.hid hC
      clear hrd hcell hc howr hp hq hpd hqd hla hlh hln hnn hpp hx hh hs'
      by_cases hqp : q.2 < p.2
      · obtain rfl : C = -1 := by rw [← hC]; unfold cmpN; rw [if_pos (by omega)]
        clear hC
        go_wp2_with fail
        refine wp_region_flow (fun W => Below wr.heap.size wr W) [0, 1, 2, 3, 4, 5, 6, 7, 8, 9, 10, 11, 12, 13] (by kernel_rfl) (by kernel_rfl) (by kernel_rfl) ((Below.refl _ _).drew) ?_
        refine flow_val ?_ rfl (by kernel_rfl) (by rfl) (fun W hW => ?_) ?_
        rotate_left 1
        · go_simp <;> with_reducible rfl
        simp only [Act.put, List.setIfInBounds_toArray, List.set_cons_succ, List.set_cons_zero]
        refine flow_val ?_ rfl (by kernel_rfl) (by rfl) (fun W hW => ?_) ?_
        rotate_left 1
        · go_simp <;> with_reducible rfl
        simp only [Act.put, List.setIfInBounds_toArray, List.set_cons_succ, List.set_cons_zero]
        refine flow_val ?_ rfl (by kernel_rfl) (by rfl) (fun W hW => ?_) ?_
        rotate_left 1
        · go_simp <;> with_reducible rfl
        simp only [Act.put, List.setIfInBounds_toArray, List.set_cons_succ, List.set_cons_zero]
        refine flow_val ?_ rfl (by kernel_rfl) (by rfl) (fun W hW => ?_) ?_
        rotate_left 1
        · go_simp <;> with_reducible rfl
        simp only [Act.put, List.setIfInBounds_toArray, List.set_cons_succ, List.set_cons_zero]
        refine flow_val ?_ rfl (by kernel_rfl) (by rfl) (fun W hW => ?_) ?_
        rotate_left 1
        · go_simp <;> with_reducible rfl
        simp only [Act.put, List.setIfInBounds_toArray, List.set_cons_succ, List.set_cons_zero]
        refine flow_val ?_ rfl (by kernel_rfl) (by rfl) (fun W hW => ?_) ?_
        rotate_left 1
        · go_simp <;> with_reducible rfl
        simp only [Act.put, List.setIfInBounds_toArray, List.set_cons_succ, List.set_cons_zero]
        refine flow_val ?_ rfl (by kernel_rfl) (by rfl) (fun W hW => ?_) ?_
        rotate_left 1
        · obtain ⟨q0, q1, q2, q3⟩ := HC.out W hW; go_simp <;> with_reducible rfl
        simp only [Act.put, List.setIfInBounds_toArray, List.set_cons_succ, List.set_cons_zero]
        refine flow_val ?_ rfl (by kernel_rfl) (by rfl) (fun W hW => ?_) ?_
        rotate_left 1
        · go_simp <;> with_reducible rfl
        simp only [Act.put, List.setIfInBounds_toArray, List.set_cons_succ, List.set_cons_zero]
        refine flow_val ?_ rfl (by kernel_rfl) (by rfl) (fun W hW => ?_) ?_
        rotate_left 1
        · go_simp <;> with_reducible rfl
        simp only [Act.put, List.setIfInBounds_toArray, List.set_cons_succ, List.set_cons_zero]
        refine flow_val ?_ rfl (by kernel_rfl) (by rfl) (fun W hW => ?_) ?_
        rotate_left 1
        · go_simp <;> with_reducible rfl
        simp only [Act.put, List.setIfInBounds_toArray, List.set_cons_succ, List.set_cons_zero]
        refine flow_val ?_ rfl (by kernel_rfl) (by rfl) (fun W hW => ?_) ?_
        rotate_left 1
        · obtain ⟨q0, q1, q2, q3⟩ := HC.out W hW; go_simp <;> with_reducible rfl
        simp only [Act.put, List.setIfInBounds_toArray, List.set_cons_succ, List.set_cons_zero]
        refine flow_call (.int .i64 (-1)) rfl (by kernel_rfl) (by rfl) (by kernel_rfl) (fun W hW => ⟨_, _, _, by go_simp, (share1_any p q W).mono fun e w1 ⟨he, h⟩ => ⟨by rw [HCm.out] at he; exact he, hW.trans (h.mono hW.size)⟩⟩) ?_
        simp only [Act.put, List.setIfInBounds_toArray, List.set_cons_succ, List.set_cons_zero]
        refine flow_val ?_ rfl (by kernel_rfl) (by rfl) (fun W hW => ?_) ?_
        rotate_left 1
        · go_simp <;> with_reducible rfl
        simp only [Act.put, List.setIfInBounds_toArray, List.set_cons_succ, List.set_cons_zero]
        refine flow_val ?_ rfl (by kernel_rfl) (by rfl) (fun W hW => ?_) ?_
        rotate_left 1
        · go_simp <;> with_reducible rfl
        simp only [Act.put, List.setIfInBounds_toArray, List.set_cons_succ, List.set_cons_zero]
        refine flow_done ?_
        intro W hW
        replace hW := hW.1
        have HFW := Lib.hid (HFR.out.trans (Fr.of_below (B := base) (T := []) (S := []) (hW)))
        clear hW
        go_wp2_with fail
        go_roundw
        case rel => exact ⟨i, h, rfl, rfl, HUP.out.down (by have := HH.out; omega) (by have := HH.out; omega) (by rw [HX.out.1, HPD.out, HQD.out]; exact .inl hqp), HFW.out⟩
        case measure => have := HH.out; simp [intOf]; omega
      · have hC0 : decide (C < 0) = false := by
          rw [← hC]; unfold cmpN; rw [if_neg (by omega)]; split <;> simp
        have hw4 : IntKind.i64.wrap ((h : Int) + 1) = (h : Int) + 1 := IntWalk.i64_in _ (by omega)
        clear hC
        go_wp2_with fail
        refine wp_region_flow (fun W => Below wr.heap.size wr W) [0, 1, 2, 3, 4, 5, 6, 7, 8, 9, 10, 11, 12, 13] (by kernel_rfl) (by kernel_rfl) (by kernel_rfl) ((Below.refl _ _).drew) ?_
        refine flow_val ?_ rfl (by kernel_rfl) (by rfl) (fun W hW => ?_) ?_
        rotate_left 1
        · go_simp <;> with_reducible rfl
        simp only [Act.put, List.setIfInBounds_toArray, List.set_cons_succ, List.set_cons_zero]
        refine flow_val ?_ rfl (by kernel_rfl) (by rfl) (fun W hW => ?_) ?_
        rotate_left 1
        · go_simp <;> with_reducible rfl
        simp only [Act.put, List.setIfInBounds_toArray, List.set_cons_succ, List.set_cons_zero]
        refine flow_val ?_ rfl (by kernel_rfl) (by rfl) (fun W hW => ?_) ?_
        rotate_left 1
        · go_simp <;> with_reducible rfl
        simp only [Act.put, List.setIfInBounds_toArray, List.set_cons_succ, List.set_cons_zero]
        refine flow_val ?_ rfl (by kernel_rfl) (by rfl) (fun W hW => ?_) ?_
        rotate_left 1
        · go_simp <;> with_reducible rfl
        simp only [Act.put, List.setIfInBounds_toArray, List.set_cons_succ, List.set_cons_zero]
        refine flow_val ?_ rfl (by kernel_rfl) (by rfl) (fun W hW => ?_) ?_
        rotate_left 1
        · go_simp <;> with_reducible rfl
        simp only [Act.put, List.setIfInBounds_toArray, List.set_cons_succ, List.set_cons_zero]
        refine flow_val ?_ rfl (by kernel_rfl) (by rfl) (fun W hW => ?_) ?_
        rotate_left 1
        · go_simp <;> with_reducible rfl
        simp only [Act.put, List.setIfInBounds_toArray, List.set_cons_succ, List.set_cons_zero]
        refine flow_val ?_ rfl (by kernel_rfl) (by rfl) (fun W hW => ?_) ?_
        rotate_left 1
        · obtain ⟨q0, q1, q2, q3⟩ := HC.out W hW; go_simp <;> with_reducible rfl
        simp only [Act.put, List.setIfInBounds_toArray, List.set_cons_succ, List.set_cons_zero]
        refine flow_val ?_ rfl (by kernel_rfl) (by rfl) (fun W hW => ?_) ?_
        rotate_left 1
        · go_simp <;> with_reducible rfl
        simp only [Act.put, List.setIfInBounds_toArray, List.set_cons_succ, List.set_cons_zero]
        refine flow_val ?_ rfl (by kernel_rfl) (by rfl) (fun W hW => ?_) ?_
        rotate_left 1
        · go_simp <;> with_reducible rfl
        simp only [Act.put, List.setIfInBounds_toArray, List.set_cons_succ, List.set_cons_zero]
        refine flow_val ?_ rfl (by kernel_rfl) (by rfl) (fun W hW => ?_) ?_
        rotate_left 1
        · go_simp <;> with_reducible rfl
        simp only [Act.put, List.setIfInBounds_toArray, List.set_cons_succ, List.set_cons_zero]
        refine flow_val ?_ rfl (by kernel_rfl) (by rfl) (fun W hW => ?_) ?_
        rotate_left 1
        · obtain ⟨q0, q1, q2, q3⟩ := HC.out W hW; go_simp <;> with_reducible rfl
        simp only [Act.put, List.setIfInBounds_toArray, List.set_cons_succ, List.set_cons_zero]
        refine flow_call (.int .i64 C) rfl (by kernel_rfl) (by rfl) (by kernel_rfl) (fun W hW => ⟨_, _, _, by go_simp, (share1_any p q W).mono fun e w1 ⟨he, h⟩ => ⟨by rw [HCm.out] at he; exact he, hW.trans (h.mono hW.size)⟩⟩) ?_
        simp only [Act.put, List.setIfInBounds_toArray, List.set_cons_succ, List.set_cons_zero]
        refine flow_val ?_ rfl (by kernel_rfl) (by rfl) (fun W hW => ?_) ?_
        rotate_left 1
        · go_simp <;> with_reducible rfl
        simp only [Act.put, List.setIfInBounds_toArray, List.set_cons_succ, List.set_cons_zero]
        refine flow_val ?_ rfl (by kernel_rfl) (by rfl) (fun W hW => ?_) ?_
        rotate_left 1
        · go_simp <;> with_reducible rfl
        simp only [Act.put, List.setIfInBounds_toArray, List.set_cons_succ, List.set_cons_zero]
        refine flow_done ?_
        intro W hW
        replace hW := hW.1
        have HFW := Lib.hid (HFR.out.trans (Fr.of_below (B := base) (T := []) (S := []) (hW)))
        clear hW
        go_wp2_with fail
        go_roundw
        case rel => exact ⟨h + 1, j, by go_num, rfl, HUP.out.up (by have := HH.out; omega) (by have := HH.out; omega) (by
          have hx := HP.out h x HX.out.2.2.2.2 HX.out.2.1 HX.out.2.2.1 HX.out.2.2.2.1
          rw [HX.out.1, HPD.out, HQD.out]
          rw [HPD.out, HQD.out] at hx
          unfold SymP.R
          omega), HFW.out⟩
        case measure => have := HH.out; simp [intOf]; omega
    · obtain rfl : i = j := by omega
      have hcut := SymP.Srch.cut HMID.out HLO.out HHI.out (by rw [HNN.out]; exact HUP.out)
      have c1 := hcut.h1
      have c2 := hcut.h2
      have c3 := hcut.h3
      have c4 := hcut.h4
      obtain ⟨en, hen⟩ : ∃ en, mid + m - i = en := ⟨_, rfl⟩
      have hask := fun l1 => hcut.ask (l1 := l1) HS1.out HS2.out HP.out
      have hall := fun l1 l2 l3 => hcut.all (l1 := l1) (l2 := l2) (l3 := l3) (by omega) (by omega) HS1.out HS2.out
      have hnn := HNN.out
      have es1 : (nn : Int) - (i : Int) = (en : Int) := by omega
      have ew1 : IntKind.i64.wrap (en : Int) = (en : Int) := IntWalk.i64_in _ (by omega)
      rw [hen] at hask hall c4
      have HASK := Lib.hid hask
      have HALL := Lib.hid hall
      have HEN := Lib.hid hen
      have hrot := fun p1 p2 => rot_any i m en base g c rs wr p1 p2 (by rw [HN.out]; omega) (by rw [HN.out]; exact hm) (by rw [HN.out]; exact HFR.out.own HOWN.out (by simp) (by simp))
      rw [HN.out] at hrot
      have HROT := Lib.hid hrot
      have HO0 := Lib.hid (HFR.out.own HOWN.out (by simp) (by simp))
      have HF0 := Lib.hid (HFR.out.mono (T' := [56]) (Nat.le_refl _) (fun _ h => absurd h (by simp)) (fun _ h => h))
      have hem : m ≤ en ∧ mid ≤ en := by omega
      obtain ⟨c5, c6⟩ := hem
      clear hcut hask hall hnn hrot
      by_cases hP : i < m
      · have xP0 : (i : Int) < (m : Int) := by have := HEN.out; omega
        have xP1 : (mid : Int) < (en : Int) := by have := HEN.out; omega
        by_cases hQ : i < mid
        · have xQ0 : (m : Int) < (en : Int) := by have := HEN.out; omega
          have xQ1 : (i : Int) < (mid : Int) := by have := HEN.out; omega
          by_cases hA : a < i
          · have xA0 : (a : Int) < (i : Int) := by have := HEN.out; omega
            by_cases hB : en < b
            · have xB0 : (en : Int) < (b : Int) := by have := HEN.out; omega
              go_wp2_with fail
              refine (HROT.out (by omega) (by omega)).mono ?_
              rintro e w1 ⟨rfl, ⟨l1, hr1, ho1⟩, hf1⟩
              have HO1 := Lib.hid ho1
              have HR1 := Lib.hid hr1
              have HF1' := Lib.hid (HF0.out.trans hf1)
              clear ho1 hr1 hf1
              have HA1 := Lib.hid (HASK.out l1 HR1.out)
              have hl1 := HR1.out.len.trans HN.out
              have HL1 := Lib.hid hl1
              clear hl1
              go_wp2_with fail
              refine (HIH.out a i mid l1 w1 (by omega) (by omega) (by omega) (by omega) HL1.out HA1.out.1 HA1.out.2.1 HA1.out.2.2.1 HO1.out).mono ?_
              rintro e w2 ⟨rfl, ⟨l2, hr2, hs2, ho2⟩, hf2⟩
              have HO2 := Lib.hid ho2
              have HR2 := Lib.hid hr2
              have HT2 := Lib.hid hs2
              have HF2 := Lib.hid (HF1'.out.trans hf2)
              clear ho2 hr2 hs2 hf2
              have hl2 := HR2.out.len.trans HL1.out
              have HL2 := Lib.hid hl2
              clear hl2
              have HB2 : Hid (SymP.Srt l2 mid en ∧ SymP.Srt l2 en b ∧ SymP.Sep l2 mid en b) := Lib.hid ⟨HR2.out.srt (.inr (Nat.le_refl _)) HA1.out.2.2.2.1, HR2.out.srt (.inr c6) HA1.out.2.2.2.2.1, HR2.out.sep2 (Nat.le_refl _) HA1.out.2.2.2.2.2⟩
              go_wp2_with fail
              refine (HIH.out mid en b l2 w2 (by omega) (by omega) (by omega) (by omega) HL2.out HB2.out.1 HB2.out.2.1 HB2.out.2.2 HO2.out).mono ?_
              rintro e w3 ⟨rfl, ⟨l3, hr3, hs3, ho3⟩, hf3⟩
              have HO3 := Lib.hid ho3
              have HR3 := Lib.hid hr3
              have HT3 := Lib.hid hs3
              have HF3 := Lib.hid (HF2.out.trans hf3)
              clear ho3 hr3 hs3 hf3
              go_wp2_with fail
              go_end0
              have hz := HALL.out l1 l2 l3 HR1.out HR2.out HT2.out HR3.out HT3.out
              exact ⟨rfl, ⟨_, hz.1, hz.2, HO3.out⟩, HF3.out⟩
            · have xB0 : ¬ (en : Int) < (b : Int) := by have := HEN.out; omega
              go_wp2_with fail
              refine (HROT.out (by omega) (by omega)).mono ?_
              rintro e w1 ⟨rfl, ⟨l1, hr1, ho1⟩, hf1⟩
              have HO1 := Lib.hid ho1
              have HR1 := Lib.hid hr1
              have HF1' := Lib.hid (HF0.out.trans hf1)
              clear ho1 hr1 hf1
              have HA1 := Lib.hid (HASK.out l1 HR1.out)
              have hl1 := HR1.out.len.trans HN.out
              have HL1 := Lib.hid hl1
              clear hl1
              go_wp2_with fail
              refine (HIH.out a i mid l1 w1 (by omega) (by omega) (by omega) (by omega) HL1.out HA1.out.1 HA1.out.2.1 HA1.out.2.2.1 HO1.out).mono ?_
              rintro e w2 ⟨rfl, ⟨l2, hr2, hs2, ho2⟩, hf2⟩
              have HO2 := Lib.hid ho2
              have HR2 := Lib.hid hr2
              have HT2 := Lib.hid hs2
              have HF2 := Lib.hid (HF1'.out.trans hf2)
              clear ho2 hr2 hs2 hf2
              have hl2 := HR2.out.len.trans HL1.out
              have HL2 := Lib.hid hl2
              clear hl2
              have HB2 : Hid (SymP.Srt l2 mid en ∧ SymP.Srt l2 en b ∧ SymP.Sep l2 mid en b) := Lib.hid ⟨HR2.out.srt (.inr (Nat.le_refl _)) HA1.out.2.2.2.1, HR2.out.srt (.inr c6) HA1.out.2.2.2.2.1, HR2.out.sep2 (Nat.le_refl _) HA1.out.2.2.2.2.2⟩
              have HR3 := Lib.hid (SymP.Res.refl mid b l2)
              have HT3 := Lib.hid (SymP.Srt.join (a := mid) (st := en) (mid := b) (by omega) (by omega) (by omega) HB2.out.1 HB2.out.2.1)
              have HO3 := HO2
              have HF3 := HF2
              go_wp2_with fail
              go_end0
              have hz := HALL.out l1 l2 l2 HR1.out HR2.out HT2.out HR3.out HT3.out
              exact ⟨rfl, ⟨_, hz.1, hz.2, HO3.out⟩, HF3.out⟩
          · have xA0 : ¬ (a : Int) < (i : Int) := by have := HEN.out; omega
            by_cases hB : en < b
            · have xB0 : (en : Int) < (b : Int) := by have := HEN.out; omega
              go_wp2_with fail
              refine (HROT.out (by omega) (by omega)).mono ?_
              rintro e w1 ⟨rfl, ⟨l1, hr1, ho1⟩, hf1⟩
              have HO1 := Lib.hid ho1
              have HR1 := Lib.hid hr1
              have HF1' := Lib.hid (HF0.out.trans hf1)
              clear ho1 hr1 hf1
              have HA1 := Lib.hid (HASK.out l1 HR1.out)
              have hl1 := HR1.out.len.trans HN.out
              have HL1 := Lib.hid hl1
              clear hl1
              have HR2 := Lib.hid (SymP.Res.refl a mid l1)
              have HT2 := Lib.hid (SymP.Srt.join (a := a) (st := i) (mid := mid) (by omega) (by omega) (by omega) HA1.out.1 HA1.out.2.1)
              have HO2 := HO1
              have HF2 := HF1'
              have hl2 := HR2.out.len.trans HL1.out
              have HL2 := Lib.hid hl2
              clear hl2
              have HB2 : Hid (SymP.Srt l1 mid en ∧ SymP.Srt l1 en b ∧ SymP.Sep l1 mid en b) := Lib.hid ⟨HR2.out.srt (.inr (Nat.le_refl _)) HA1.out.2.2.2.1, HR2.out.srt (.inr c6) HA1.out.2.2.2.2.1, HR2.out.sep2 (Nat.le_refl _) HA1.out.2.2.2.2.2⟩
              go_wp2_with fail
              refine (HIH.out mid en b l1 w1 (by omega) (by omega) (by omega) (by omega) HL2.out HB2.out.1 HB2.out.2.1 HB2.out.2.2 HO2.out).mono ?_
              rintro e w3 ⟨rfl, ⟨l3, hr3, hs3, ho3⟩, hf3⟩
              have HO3 := Lib.hid ho3
              have HR3 := Lib.hid hr3
              have HT3 := Lib.hid hs3
              have HF3 := Lib.hid (HF2.out.trans hf3)
              clear ho3 hr3 hs3 hf3
              go_wp2_with fail
              go_end0
              have hz := HALL.out l1 l1 l3 HR1.out HR2.out HT2.out HR3.out HT3.out
              exact ⟨rfl, ⟨_, hz.1, hz.2, HO3.out⟩, HF3.out⟩
            · have xB0 : ¬ (en : Int) < (b : Int) := by have := HEN.out; omega
              go_wp2_with fail
              refine (HROT.out (by omega) (by omega)).mono ?_
              rintro e w1 ⟨rfl, ⟨l1, hr1, ho1⟩, hf1⟩
              have HO1 := Lib.hid ho1
              have HR1 := Lib.hid hr1
              have HF1' := Lib.hid (HF0.out.trans hf1)
              clear ho1 hr1 hf1
              have HA1 := Lib.hid (HASK.out l1 HR1.out)
              have hl1 := HR1.out.len.trans HN.out
              have HL1 := Lib.hid hl1
              clear hl1
              have HR2 := Lib.hid (SymP.Res.refl a mid l1)
              have HT2 := Lib.hid (SymP.Srt.join (a := a) (st := i) (mid := mid) (by omega) (by omega) (by omega) HA1.out.1 HA1.out.2.1)
              have HO2 := HO1
              have HF2 := HF1'
              have hl2 := HR2.out.len.trans HL1.out
              have HL2 := Lib.hid hl2
              clear hl2
              have HB2 : Hid (SymP.Srt l1 mid en ∧ SymP.Srt l1 en b ∧ SymP.Sep l1 mid en b) := Lib.hid ⟨HR2.out.srt (.inr (Nat.le_refl _)) HA1.out.2.2.2.1, HR2.out.srt (.inr c6) HA1.out.2.2.2.2.1, HR2.out.sep2 (Nat.le_refl _) HA1.out.2.2.2.2.2⟩
              have HR3 := Lib.hid (SymP.Res.refl mid b l1)
              have HT3 := Lib.hid (SymP.Srt.join (a := mid) (st := en) (mid := b) (by omega) (by omega) (by omega) HB2.out.1 HB2.out.2.1)
              have HO3 := HO2
              have HF3 := HF2
              go_wp2_with fail
              go_end0
              have hz := HALL.out l1 l1 l1 HR1.out HR2.out HT2.out HR3.out HT3.out
              exact ⟨rfl, ⟨_, hz.1, hz.2, HO3.out⟩, HF3.out⟩
        · have xQ0 : ¬ (m : Int) < (en : Int) := by have := HEN.out; omega
          have xQ1 : ¬ (i : Int) < (mid : Int) := by have := HEN.out; omega
          by_cases hA : a < i
          · have xA0 : (a : Int) < (i : Int) := by have := HEN.out; omega
            by_cases hB : en < b
            · have xB0 : (en : Int) < (b : Int) := by have := HEN.out; omega
              go_wp2_with fail
              have HR1 := Lib.hid (SymP.Rot.id (st := i) (m := m) (en := en) (l := rs) (by omega) (by omega) (by have := HEN.out; omega))
              have HO1 := HO0
              have HF1' := HF0
              have HA1 := Lib.hid (HASK.out rs HR1.out)
              have hl1 := HR1.out.len.trans HN.out
              have HL1 := Lib.hid hl1
              clear hl1
              have HR2 := Lib.hid (SymP.Res.refl a mid rs)
              have HT2 := Lib.hid (SymP.Srt.join (a := a) (st := i) (mid := mid) (by omega) (by omega) (by omega) HA1.out.1 HA1.out.2.1)
              have HO2 := HO1
              have HF2 := HF1'
              have hl2 := HR2.out.len.trans HL1.out
              have HL2 := Lib.hid hl2
              clear hl2
              have HB2 : Hid (SymP.Srt rs mid en ∧ SymP.Srt rs en b ∧ SymP.Sep rs mid en b) := Lib.hid ⟨HR2.out.srt (.inr (Nat.le_refl _)) HA1.out.2.2.2.1, HR2.out.srt (.inr c6) HA1.out.2.2.2.2.1, HR2.out.sep2 (Nat.le_refl _) HA1.out.2.2.2.2.2⟩
              refine (HIH.out mid en b rs wr (by omega) (by omega) (by omega) (by omega) HL2.out HB2.out.1 HB2.out.2.1 HB2.out.2.2 HO2.out).mono ?_
              rintro e w3 ⟨rfl, ⟨l3, hr3, hs3, ho3⟩, hf3⟩
              have HO3 := Lib.hid ho3
              have HR3 := Lib.hid hr3
              have HT3 := Lib.hid hs3
              have HF3 := Lib.hid (HF2.out.trans hf3)
              clear ho3 hr3 hs3 hf3
              go_wp2_with fail
              go_end0
              have hz := HALL.out rs rs l3 HR1.out HR2.out HT2.out HR3.out HT3.out
              exact ⟨rfl, ⟨_, hz.1, hz.2, HO3.out⟩, HF3.out⟩
            · have xB0 : ¬ (en : Int) < (b : Int) := by have := HEN.out; omega
              go_wp2_with fail
              have HR1 := Lib.hid (SymP.Rot.id (st := i) (m := m) (en := en) (l := rs) (by omega) (by omega) (by have := HEN.out; omega))
              have HO1 := HO0
              have HF1' := HF0
              have HA1 := Lib.hid (HASK.out rs HR1.out)
              have hl1 := HR1.out.len.trans HN.out
              have HL1 := Lib.hid hl1
              clear hl1
              have HR2 := Lib.hid (SymP.Res.refl a mid rs)
              have HT2 := Lib.hid (SymP.Srt.join (a := a) (st := i) (mid := mid) (by omega) (by omega) (by omega) HA1.out.1 HA1.out.2.1)
              have HO2 := HO1
              have HF2 := HF1'
              have hl2 := HR2.out.len.trans HL1.out
              have HL2 := Lib.hid hl2
              clear hl2
              have HB2 : Hid (SymP.Srt rs mid en ∧ SymP.Srt rs en b ∧ SymP.Sep rs mid en b) := Lib.hid ⟨HR2.out.srt (.inr (Nat.le_refl _)) HA1.out.2.2.2.1, HR2.out.srt (.inr c6) HA1.out.2.2.2.2.1, HR2.out.sep2 (Nat.le_refl _) HA1.out.2.2.2.2.2⟩
              have HR3 := Lib.hid (SymP.Res.refl mid b rs)
              have HT3 := Lib.hid (SymP.Srt.join (a := mid) (st := en) (mid := b) (by omega) (by omega) (by omega) HB2.out.1 HB2.out.2.1)
              have HO3 := HO2
              have HF3 := HF2
              go_end0
              have hz := HALL.out rs rs rs HR1.out HR2.out HT2.out HR3.out HT3.out
              exact ⟨rfl, ⟨_, hz.1, hz.2, HO3.out⟩, HF3.out⟩
          · have xA0 : ¬ (a : Int) < (i : Int) := by have := HEN.out; omega
            by_cases hB : en < b
            · have xB0 : (en : Int) < (b : Int) := by have := HEN.out; omega
              go_wp2_with fail
              have HR1 := Lib.hid (SymP.Rot.id (st := i) (m := m) (en := en) (l := rs) (by omega) (by omega) (by have := HEN.out; omega))
              have HO1 := HO0
              have HF1' := HF0
              have HA1 := Lib.hid (HASK.out rs HR1.out)
              have hl1 := HR1.out.len.trans HN.out
              have HL1 := Lib.hid hl1
              clear hl1
              have HR2 := Lib.hid (SymP.Res.refl a mid rs)
              have HT2 := Lib.hid (SymP.Srt.join (a := a) (st := i) (mid := mid) (by omega) (by omega) (by omega) HA1.out.1 HA1.out.2.1)
              have HO2 := HO1
              have HF2 := HF1'
              have hl2 := HR2.out.len.trans HL1.out
              have HL2 := Lib.hid hl2
              clear hl2
              have HB2 : Hid (SymP.Srt rs mid en ∧ SymP.Srt rs en b ∧ SymP.Sep rs mid en b) := Lib.hid ⟨HR2.out.srt (.inr (Nat.le_refl _)) HA1.out.2.2.2.1, HR2.out.srt (.inr c6) HA1.out.2.2.2.2.1, HR2.out.sep2 (Nat.le_refl _) HA1.out.2.2.2.2.2⟩
              refine (HIH.out mid en b rs wr (by omega) (by omega) (by omega) (by omega) HL2.out HB2.out.1 HB2.out.2.1 HB2.out.2.2 HO2.out).mono ?_
              rintro e w3 ⟨rfl, ⟨l3, hr3, hs3, ho3⟩, hf3⟩
              have HO3 := Lib.hid ho3
              have HR3 := Lib.hid hr3
              have HT3 := Lib.hid hs3
              have HF3 := Lib.hid (HF2.out.trans hf3)
              clear ho3 hr3 hs3 hf3
              go_wp2_with fail
              go_end0
              have hz := HALL.out rs rs l3 HR1.out HR2.out HT2.out HR3.out HT3.out
              exact ⟨rfl, ⟨_, hz.1, hz.2, HO3.out⟩, HF3.out⟩
            · have xB0 : ¬ (en : Int) < (b : Int) := by have := HEN.out; omega
              go_wp2_with fail
              have HR1 := Lib.hid (SymP.Rot.id (st := i) (m := m) (en := en) (l := rs) (by omega) (by omega) (by have := HEN.out; omega))
              have HO1 := HO0
              have HF1' := HF0
              have HA1 := Lib.hid (HASK.out rs HR1.out)
              have hl1 := HR1.out.len.trans HN.out
              have HL1 := Lib.hid hl1
              clear hl1
              have HR2 := Lib.hid (SymP.Res.refl a mid rs)
              have HT2 := Lib.hid (SymP.Srt.join (a := a) (st := i) (mid := mid) (by omega) (by omega) (by omega) HA1.out.1 HA1.out.2.1)
              have HO2 := HO1
              have HF2 := HF1'
              have hl2 := HR2.out.len.trans HL1.out
              have HL2 := Lib.hid hl2
              clear hl2
              have HB2 : Hid (SymP.Srt rs mid en ∧ SymP.Srt rs en b ∧ SymP.Sep rs mid en b) := Lib.hid ⟨HR2.out.srt (.inr (Nat.le_refl _)) HA1.out.2.2.2.1, HR2.out.srt (.inr c6) HA1.out.2.2.2.2.1, HR2.out.sep2 (Nat.le_refl _) HA1.out.2.2.2.2.2⟩
              have HR3 := Lib.hid (SymP.Res.refl mid b rs)
              have HT3 := Lib.hid (SymP.Srt.join (a := mid) (st := en) (mid := b) (by omega) (by omega) (by omega) HB2.out.1 HB2.out.2.1)
              have HO3 := HO2
              have HF3 := HF2
              go_end0
              have hz := HALL.out rs rs rs HR1.out HR2.out HT2.out HR3.out HT3.out
              exact ⟨rfl, ⟨_, hz.1, hz.2, HO3.out⟩, HF3.out⟩
      · have xP0 : ¬ (i : Int) < (m : Int) := by have := HEN.out; omega
        have xP1 : ¬ (mid : Int) < (en : Int) := by have := HEN.out; omega
        by_cases hQ : i < mid
        · have xQ0 : (m : Int) < (en : Int) := by have := HEN.out; omega
          have xQ1 : (i : Int) < (mid : Int) := by have := HEN.out; omega
          by_cases hA : a < i
          · have xA0 : (a : Int) < (i : Int) := by have := HEN.out; omega
            go_wp2_with fail
            have HR1 := Lib.hid (SymP.Rot.id (st := i) (m := m) (en := en) (l := rs) (by omega) (by omega) (by have := HEN.out; omega))
            have HO1 := HO0
            have HF1' := HF0
            have HA1 := Lib.hid (HASK.out rs HR1.out)
            have hl1 := HR1.out.len.trans HN.out
            have HL1 := Lib.hid hl1
            clear hl1
            refine (HIH.out a i mid rs wr (by omega) (by omega) (by omega) (by omega) HL1.out HA1.out.1 HA1.out.2.1 HA1.out.2.2.1 HO1.out).mono ?_
            rintro e w2 ⟨rfl, ⟨l2, hr2, hs2, ho2⟩, hf2⟩
            have HO2 := Lib.hid ho2
            have HR2 := Lib.hid hr2
            have HT2 := Lib.hid hs2
            have HF2 := Lib.hid (HF1'.out.trans hf2)
            clear ho2 hr2 hs2 hf2
            have hl2 := HR2.out.len.trans HL1.out
            have HL2 := Lib.hid hl2
            clear hl2
            have HB2 : Hid (SymP.Srt l2 mid en ∧ SymP.Srt l2 en b ∧ SymP.Sep l2 mid en b) := Lib.hid ⟨HR2.out.srt (.inr (Nat.le_refl _)) HA1.out.2.2.2.1, HR2.out.srt (.inr c6) HA1.out.2.2.2.2.1, HR2.out.sep2 (Nat.le_refl _) HA1.out.2.2.2.2.2⟩
            have HR3 := Lib.hid (SymP.Res.refl mid b l2)
            have HT3 := Lib.hid (SymP.Srt.join (a := mid) (st := en) (mid := b) (by omega) (by omega) (by omega) HB2.out.1 HB2.out.2.1)
            have HO3 := HO2
            have HF3 := HF2
            go_wp2_with fail
            go_end0
            have hz := HALL.out rs l2 l2 HR1.out HR2.out HT2.out HR3.out HT3.out
            exact ⟨rfl, ⟨_, hz.1, hz.2, HO3.out⟩, HF3.out⟩
          · have xA0 : ¬ (a : Int) < (i : Int) := by have := HEN.out; omega
            go_wp2_with fail
            have HR1 := Lib.hid (SymP.Rot.id (st := i) (m := m) (en := en) (l := rs) (by omega) (by omega) (by have := HEN.out; omega))
            have HO1 := HO0
            have HF1' := HF0
            have HA1 := Lib.hid (HASK.out rs HR1.out)
            have hl1 := HR1.out.len.trans HN.out
            have HL1 := Lib.hid hl1
            clear hl1
            have HR2 := Lib.hid (SymP.Res.refl a mid rs)
            have HT2 := Lib.hid (SymP.Srt.join (a := a) (st := i) (mid := mid) (by omega) (by omega) (by omega) HA1.out.1 HA1.out.2.1)
            have HO2 := HO1
            have HF2 := HF1'
            have hl2 := HR2.out.len.trans HL1.out
            have HL2 := Lib.hid hl2
            clear hl2
            have HB2 : Hid (SymP.Srt rs mid en ∧ SymP.Srt rs en b ∧ SymP.Sep rs mid en b) := Lib.hid ⟨HR2.out.srt (.inr (Nat.le_refl _)) HA1.out.2.2.2.1, HR2.out.srt (.inr c6) HA1.out.2.2.2.2.1, HR2.out.sep2 (Nat.le_refl _) HA1.out.2.2.2.2.2⟩
            have HR3 := Lib.hid (SymP.Res.refl mid b rs)
            have HT3 := Lib.hid (SymP.Srt.join (a := mid) (st := en) (mid := b) (by omega) (by omega) (by omega) HB2.out.1 HB2.out.2.1)
            have HO3 := HO2
            have HF3 := HF2
            go_end0
            have hz := HALL.out rs rs rs HR1.out HR2.out HT2.out HR3.out HT3.out
            exact ⟨rfl, ⟨_, hz.1, hz.2, HO3.out⟩, HF3.out⟩
        · have xQ0 : ¬ (m : Int) < (en : Int) := by have := HEN.out; omega
          have xQ1 : ¬ (i : Int) < (mid : Int) := by have := HEN.out; omega
          by_cases hA : a < i
          · have xA0 : (a : Int) < (i : Int) := by have := HEN.out; omega
            go_wp2_with fail
            have HR1 := Lib.hid (SymP.Rot.id (st := i) (m := m) (en := en) (l := rs) (by omega) (by omega) (by have := HEN.out; omega))
            have HO1 := HO0
            have HF1' := HF0
            have HA1 := Lib.hid (HASK.out rs HR1.out)
            have hl1 := HR1.out.len.trans HN.out
            have HL1 := Lib.hid hl1
            clear hl1
            have HR2 := Lib.hid (SymP.Res.refl a mid rs)
            have HT2 := Lib.hid (SymP.Srt.join (a := a) (st := i) (mid := mid) (by omega) (by omega) (by omega) HA1.out.1 HA1.out.2.1)
            have HO2 := HO1
            have HF2 := HF1'
            have hl2 := HR2.out.len.trans HL1.out
            have HL2 := Lib.hid hl2
            clear hl2
            have HB2 : Hid (SymP.Srt rs mid en ∧ SymP.Srt rs en b ∧ SymP.Sep rs mid en b) := Lib.hid ⟨HR2.out.srt (.inr (Nat.le_refl _)) HA1.out.2.2.2.1, HR2.out.srt (.inr c6) HA1.out.2.2.2.2.1, HR2.out.sep2 (Nat.le_refl _) HA1.out.2.2.2.2.2⟩
            have HR3 := Lib.hid (SymP.Res.refl mid b rs)
            have HT3 := Lib.hid (SymP.Srt.join (a := mid) (st := en) (mid := b) (by omega) (by omega) (by omega) HB2.out.1 HB2.out.2.1)
            have HO3 := HO2
            have HF3 := HF2
            go_end0
            have hz := HALL.out rs rs rs HR1.out HR2.out HT2.out HR3.out HT3.out
            exact ⟨rfl, ⟨_, hz.1, hz.2, HO3.out⟩, HF3.out⟩
          · have xA0 : ¬ (a : Int) < (i : Int) := by have := HEN.out; omega
            go_wp2_with fail
            have HR1 := Lib.hid (SymP.Rot.id (st := i) (m := m) (en := en) (l := rs) (by omega) (by omega) (by have := HEN.out; omega))
            have HO1 := HO0
            have HF1' := HF0
            have HA1 := Lib.hid (HASK.out rs HR1.out)
            have hl1 := HR1.out.len.trans HN.out
            have HL1 := Lib.hid hl1
            clear hl1
            have HR2 := Lib.hid (SymP.Res.refl a mid rs)
            have HT2 := Lib.hid (SymP.Srt.join (a := a) (st := i) (mid := mid) (by omega) (by omega) (by omega) HA1.out.1 HA1.out.2.1)
            have HO2 := HO1
            have HF2 := HF1'
            have hl2 := HR2.out.len.trans HL1.out
            have HL2 := Lib.hid hl2
            clear hl2
            have HB2 : Hid (SymP.Srt rs mid en ∧ SymP.Srt rs en b ∧ SymP.Sep rs mid en b) := Lib.hid ⟨HR2.out.srt (.inr (Nat.le_refl _)) HA1.out.2.2.2.1, HR2.out.srt (.inr c6) HA1.out.2.2.2.2.1, HR2.out.sep2 (Nat.le_refl _) HA1.out.2.2.2.2.2⟩
            have HR3 := Lib.hid (SymP.Res.refl mid b rs)
            have HT3 := Lib.hid (SymP.Srt.join (a := mid) (st := en) (mid := b) (by omega) (by omega) (by omega) HB2.out.1 HB2.out.2.1)
            have HO3 := HO2
            have HF3 := HF2
            go_end0
            have hz := HALL.out rs rs rs HR1.out HR2.out HT2.out HR3.out HT3.out
            exact ⟨rfl, ⟨_, hz.1, hz.2, HO3.out⟩, HF3.out⟩

theorem sym_any (n base g c : Nat) (hm : n ≤ 1048576) : ∀ (k a m b : Nat) (rs : List (Nat × Nat)) (w : World), b - a ≤ k → a < m → m < b → b ≤ n → rs.length = n → SymP.Srt rs a m → SymP.Srt rs m b → SymP.Sep rs a m b → w.ownsRow base 56 2 (.slice (some ⟨g, 0, none⟩) n c) n (rs.flatMap encQ) →
    Calls Try.prog 54 #[.slice (some ⟨g, 0, none⟩) n c, .int .i64 (a : Int), .int .i64 (m : Int), .int .i64 (b : Int), .func (.func 31) #[] #[]] w fun e w' => e = .returned (.tuple #[]) ∧ MrgN n a b rs base g c w w'
  | 0, a, m, b, rs, w, h, h1, h2, _, _, _, _, _, _ => absurd h (by omega)
  | k + 1, a, m, b, rs, w, h, h1, h2, hb, hn, hS1, hS2, hP, hown => by
    by_cases e1 : m = a + 1
    · subst e1
      subst hn
      exact sym_up a b base g c rs w hb h2 hm hS2 hP hown
    · by_cases e2 : b = m + 1
      · subst e2
        subst hn
        exact sym_down a m base g c rs w hb (by omega) hm hS1 hP hown
      · exact sym_gen n a m b base g c rs w hn hb (by omega) (by omega) hm hS1 hS2 hP hown fun a' m' b' l W q0 q1 q2 q3 q4 q5 q6 q7 q8 => sym_any n base g c hm k a' m' b' l W (by omega) q1 q2 q3 q4 q5 q6 q7 q8
end Go.Proofs.Ytochhjdjfgiaeaa
