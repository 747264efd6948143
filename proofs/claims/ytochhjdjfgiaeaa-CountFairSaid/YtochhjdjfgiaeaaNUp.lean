/- slices.symMergeCmpFunc on parts where one stands on the left. -/
import Derived.Test.YtochhjdjfgiaeaaNRot
namespace Go.Proofs.Ytochhjdjfgiaeaa
open Go.RowKit

/-- What a merge makes of two neighbours. -/
def Mrg (a b : Nat) (rs : List (Nat × Nat)) (base g c : Nat) (w w' : World) : Prop := (∃ l, SymP.Res a b rs l ∧ SymP.Srt l a b ∧ w'.ownsRow base 56 2 (.slice (some ⟨g, 0, none⟩) rs.length c) rs.length (l.flatMap encQ)) ∧ Fr base [56] [] w w'

set_option maxRecDepth 100000 in
set_option maxHeartbeats 4000000 in
theorem sym_up (a b base g c : Nat) (rs : List (Nat × Nat)) (w : World) (hb : b ≤ rs.length) (hab : a + 1 < b) (hm : rs.length ≤ 1048576) (hS : SymP.Srt rs (a + 1) b) (hP : SymP.Sep rs a (a + 1) b)
    (hown : w.ownsRow base 56 2 (.slice (some ⟨g, 0, none⟩) rs.length c) rs.length (rs.flatMap encQ)) :
    Calls Try.prog 54 #[.slice (some ⟨g, 0, none⟩) rs.length c, .int .i64 (a : Int), .int .i64 ((a + 1 : Nat) : Int), .int .i64 (b : Int), .func (.func 31) #[] #[]] w fun e w' => e = .returned (.tuple #[]) ∧ Mrg a b rs base g c w w' := by
  have HOWN := Lib.hid hown
  have HS := Lib.hid hS
  have HP := Lib.hid hP
  obtain ⟨m, hm1⟩ : ∃ m, a + 1 = m := ⟨_, rfl⟩
  have h1 : (m : Int) - (a : Int) = 1 := by omega
  rw [hm1]
  have HM := Lib.hid hm1
  clear hown hS hP hm1
  go_enter Try.func54, Try.ntmps54
  go_wp2_with fail
  go_loopw [10, 11] (fun iv jv wr => ∃ (i j : Nat), iv = .int .i64 (i : Int) ∧ jv = .int .i64 (j : Int) ∧ SymP.Up a b m rs i j ∧ Fr base [] [] w wr) (fun iv jv _ => (intOf jv).toNat - (intOf iv).toNat)
  case atStart => exact ⟨m, b, rfl, rfl, ⟨Nat.le_refl _, by have := HM.out; omega, Nat.le_refl _, fun h => absurd h (by omega), fun h => absurd h (by omega)⟩, Fr.refl w⟩
  case round =>
    obtain ⟨i, j, rfl, rfl, hup, hfr⟩ := hrel
    have hi1 := hup.h1
    have hi2 := hup.h2
    have hi3 := hup.h3
    have HUP := Lib.hid hup
    have HFR := Lib.hid hfr
    clear hup hfr
    by_cases hlt : i < j
    · obtain ⟨h, hh⟩ : ∃ h, (i + j) / 2 = h := ⟨_, rfl⟩
      have hs1 : (i : Int) + (j : Int) = ((i + j : Nat) : Int) := by omega
      have hw1 : IntKind.i64.wrap ((i + j : Nat) : Int) = ((i + j : Nat) : Int) := IntWalk.i64_in _ (by omega)
      have hw2 : IntKind.u64.wrap ((i + j : Nat) : Int) = ((i + j : Nat) : Int) := by rw [IntKind.wrap_u64]; omega
      have hd : ((i + j : Nat) : Int) / 2 = (h : Int) := by omega
      have hw3 : IntKind.i64.wrap (h : Int) = (h : Int) := IntWalk.i64_in _ (by omega)
      have hij : (i : Int) < (j : Int) := by omega
      obtain ⟨s, hs⟩ : ∃ s, i + j = s := ⟨_, rfl⟩
      rw [hs] at hs1 hw1 hw2 hd
      have HH := Lib.hid hh
      clear hh hs
      have hla : a < rs.length := by omega
      have hlh : h < rs.length := by have := HH.out; omega
      have hlar : (a : Int) < (rs.length : Int) := by omega
      have hlhr : (h : Int) < (rs.length : Int) := by omega
      have howr := HFR.out.own HOWN.out (by simp) (by simp)
      obtain ⟨_, _, hv, _, _, hrd, _⟩ := own_slice howr
      cases hv
      obtain ⟨g', o', e', hg', hcell⟩ := hrd.2 (by omega)
      cases e'
      obtain ⟨p, hp⟩ : ∃ p, rs[h] = p := ⟨_, rfl⟩
      obtain ⟨q, hq⟩ : ∃ q, rs[a] = q := ⟨_, rfl⟩
      have hc : ∀ W, Below wr.heap.size wr W → W.cell? ⟨g, h * 2, none⟩ = some (.int .i64 (p.1 : Int)) ∧ W.cell? ⟨g, h * 2 + 1, none⟩ = some (.int .u64 (p.2 : Int)) ∧ W.cell? ⟨g, a * 2, none⟩ = some (.int .i64 (q.1 : Int)) ∧ W.cell? ⟨g, a * 2 + 1, none⟩ = some (.int .u64 (q.2 : Int)) := fun W hW => by
        have e0 := hcell (h * 2 + 0) _ (by rw [flatQ_at rs h 0 hlh (by omega)]; rfl)
        have e1 := hcell (h * 2 + 1) _ (by rw [flatQ_at rs h 1 hlh (by omega)]; rfl)
        have e2 := hcell (a * 2 + 0) _ (by rw [flatQ_at rs a 0 hla (by omega)]; rfl)
        have e3 := hcell (a * 2 + 1) _ (by rw [flatQ_at rs a 1 hla (by omega)]; rfl)
        rw [hp] at e0 e1
        rw [hq] at e2 e3
        exact ⟨(hW.cell (p := ⟨g, _, none⟩) hg').trans (by simpa using e0), (hW.cell (p := ⟨g, _, none⟩) hg').trans (by simpa using e1), (hW.cell (p := ⟨g, _, none⟩) hg').trans (by simpa using e2), (hW.cell (p := ⟨g, _, none⟩) hg').trans (by simpa using e3)⟩
      have HC := Lib.hid hc
      have hpd : rs.getD h SymP.z = p := by rw [← hp]; simp [List.getD_eq_getElem?_getD, hlh]
      have hqd : rs.getD a SymP.z = q := by rw [← hq]; simp [List.getD_eq_getElem?_getD, hla]
      have HPD := Lib.hid hpd
      have HQD := Lib.hid hqd
      obtain ⟨C, hC⟩ : ∃ C, cmpN (q.2 : Int) (p.2 : Int) = C := ⟨_, rfl⟩
      have HCm := Lib.hid hC
      clear hrd hcell hc howr hp hq hpd hqd
      by_cases hqp : q.2 < p.2
      · obtain rfl : C = -1 := by rw [← hC]; unfold cmpN; rw [if_pos (by omega)]
        clear hC
        have hw4 : IntKind.i64.wrap ((h : Int) + 1) = (h : Int) + 1 := IntWalk.i64_in _ (by omega)
        go_wp2_with fail
        refine wp_region_flow (fun W => Below wr.heap.size wr W) [0, 1, 2, 3, 4, 5, 6, 7, 8, 9, 10] (by kernel_rfl) (by kernel_rfl) (by kernel_rfl) ((Below.refl _ _).drew) ?_
        refine flow_val ?_ rfl (by kernel_rfl) (by rfl) (fun W hW => ?_) ?_
        rotate_left 1
        · go_simp <;> with_reducible rfl
        simp only [Act.put, List.setIfInBounds_toArray, List.set_cons_succ, List.set_cons_zero]
        refine flow_val ?_ rfl (by kernel_rfl) (by rfl) (fun W hW => ?_) ?_
        rotate_left 1
        · go_simp <;> with_reducible rfl
        simp only [Act.put, List.setIfInBounds_toArray, List.set_cons_succ, List.set_cons_zero]
        refine flow_val ?_ rfl (by kernel_rfl) (by rfl) (fun W hW => ?_) ?_
        rotate_left 1
        · go_simp <;> with_reducible rfl
        simp only [Act.put, List.setIfInBounds_toArray, List.set_cons_succ, List.set_cons_zero]
        refine flow_val ?_ rfl (by kernel_rfl) (by rfl) (fun W hW => ?_) ?_
        rotate_left 1
        · go_simp <;> with_reducible rfl
        simp only [Act.put, List.setIfInBounds_toArray, List.set_cons_succ, List.set_cons_zero]
        refine flow_val ?_ rfl (by kernel_rfl) (by rfl) (fun W hW => ?_) ?_
        rotate_left 1
        · obtain ⟨q0, q1, q2, q3⟩ := HC.out W hW; go_simp <;> with_reducible rfl
        simp only [Act.put, List.setIfInBounds_toArray, List.set_cons_succ, List.set_cons_zero]
        refine flow_val ?_ rfl (by kernel_rfl) (by rfl) (fun W hW => ?_) ?_
        rotate_left 1
        · go_simp <;> with_reducible rfl
        simp only [Act.put, List.setIfInBounds_toArray, List.set_cons_succ, List.set_cons_zero]
        refine flow_val ?_ rfl (by kernel_rfl) (by rfl) (fun W hW => ?_) ?_
        rotate_left 1
        · go_simp <;> with_reducible rfl
        simp only [Act.put, List.setIfInBounds_toArray, List.set_cons_succ, List.set_cons_zero]
        refine flow_val ?_ rfl (by kernel_rfl) (by rfl) (fun W hW => ?_) ?_
        rotate_left 1
        · go_simp <;> with_reducible rfl
        simp only [Act.put, List.setIfInBounds_toArray, List.set_cons_succ, List.set_cons_zero]
        refine flow_val ?_ rfl (by kernel_rfl) (by rfl) (fun W hW => ?_) ?_
        rotate_left 1
        · obtain ⟨q0, q1, q2, q3⟩ := HC.out W hW; go_simp <;> with_reducible rfl
        simp only [Act.put, List.setIfInBounds_toArray, List.set_cons_succ, List.set_cons_zero]
        refine flow_call (.int .i64 (-1)) rfl (by kernel_rfl) (by rfl) (by kernel_rfl) (fun W hW => ⟨_, _, _, by go_simp, (share1_any p q W).mono fun e w1 ⟨he, h⟩ => ⟨by rw [HCm.out] at he; exact he, hW.trans (h.mono hW.size)⟩⟩) ?_
        simp only [Act.put, List.setIfInBounds_toArray, List.set_cons_succ, List.set_cons_zero]
        refine flow_val ?_ rfl (by kernel_rfl) (by rfl) (fun W hW => ?_) ?_
        rotate_left 1
        · go_simp <;> with_reducible rfl
        simp only [Act.put, List.setIfInBounds_toArray, List.set_cons_succ, List.set_cons_zero]
        refine flow_done ?_
        intro W hW
        replace hW := hW.1
        have HFW := Lib.hid (HFR.out.trans (Fr.of_below (B := base) (T := []) (S := []) (hW)))
        clear hW
        go_wp2_with fail
        go_roundw
        case rel => exact ⟨h + 1, j, by go_num, rfl, HUP.out.up (by have := HH.out; omega) (by have := HH.out; omega) (by rw [HPD.out, HQD.out]; exact .inl hqp), HFW.out⟩
        case measure => have := HH.out; simp [intOf]; omega
      · have hC0 : decide (C < 0) = false := by
          rw [← hC]; unfold cmpN; rw [if_neg (by omega)]; split <;> simp
        clear hC
        go_wp2_with fail
        refine wp_region_flow (fun W => Below wr.heap.size wr W) [0, 1, 2, 3, 4, 5, 6, 7, 8, 9, 10] (by kernel_rfl) (by kernel_rfl) (by kernel_rfl) ((Below.refl _ _).drew) ?_
        refine flow_val ?_ rfl (by kernel_rfl) (by rfl) (fun W hW => ?_) ?_
        rotate_left 1
        · go_simp <;> with_reducible rfl
        simp only [Act.put, List.setIfInBounds_toArray, List.set_cons_succ, List.set_cons_zero]
        refine flow_val ?_ rfl (by kernel_rfl) (by rfl) (fun W hW => ?_) ?_
        rotate_left 1
        · go_simp <;> with_reducible rfl
        simp only [Act.put, List.setIfInBounds_toArray, List.set_cons_succ, List.set_cons_zero]
        refine flow_val ?_ rfl (by kernel_rfl) (by rfl) (fun W hW => ?_) ?_
        rotate_left 1
        · go_simp <;> with_reducible rfl
        simp only [Act.put, List.setIfInBounds_toArray, List.set_cons_succ, List.set_cons_zero]
        refine flow_val ?_ rfl (by kernel_rfl) (by rfl) (fun W hW => ?_) ?_
        rotate_left 1
        · go_simp <;> with_reducible rfl
        simp only [Act.put, List.setIfInBounds_toArray, List.set_cons_succ, List.set_cons_zero]
        refine flow_val ?_ rfl (by kernel_rfl) (by rfl) (fun W hW => ?_) ?_
        rotate_left 1
        · obtain ⟨q0, q1, q2, q3⟩ := HC.out W hW; go_simp <;> with_reducible rfl
        simp only [Act.put, List.setIfInBounds_toArray, List.set_cons_succ, List.set_cons_zero]
        refine flow_val ?_ rfl (by kernel_rfl) (by rfl) (fun W hW => ?_) ?_
        rotate_left 1
        · go_simp <;> with_reducible rfl
        simp only [Act.put, List.setIfInBounds_toArray, List.set_cons_succ, List.set_cons_zero]
        refine flow_val ?_ rfl (by kernel_rfl) (by rfl) (fun W hW => ?_) ?_
        rotate_left 1
        · go_simp <;> with_reducible rfl
        simp only [Act.put, List.setIfInBounds_toArray, List.set_cons_succ, List.set_cons_zero]
        refine flow_val ?_ rfl (by kernel_rfl) (by rfl) (fun W hW => ?_) ?_
        rotate_left 1
        · go_simp <;> with_reducible rfl
        simp only [Act.put, List.setIfInBounds_toArray, List.set_cons_succ, List.set_cons_zero]
        refine flow_val ?_ rfl (by kernel_rfl) (by rfl) (fun W hW => ?_) ?_
        rotate_left 1
        · obtain ⟨q0, q1, q2, q3⟩ := HC.out W hW; go_simp <;> with_reducible rfl
        simp only [Act.put, List.setIfInBounds_toArray, List.set_cons_succ, List.set_cons_zero]
        refine flow_call (.int .i64 C) rfl (by kernel_rfl) (by rfl) (by kernel_rfl) (fun W hW => ⟨_, _, _, by go_simp, (share1_any p q W).mono fun e w1 ⟨he, h⟩ => ⟨by rw [HCm.out] at he; exact he, hW.trans (h.mono hW.size)⟩⟩) ?_
        simp only [Act.put, List.setIfInBounds_toArray, List.set_cons_succ, List.set_cons_zero]
        refine flow_val ?_ rfl (by kernel_rfl) (by rfl) (fun W hW => ?_) ?_
        rotate_left 1
        · go_simp <;> with_reducible rfl
        simp only [Act.put, List.setIfInBounds_toArray, List.set_cons_succ, List.set_cons_zero]
        refine flow_done ?_
        intro W hW
        replace hW := hW.1
        have HFW := Lib.hid (HFR.out.trans (Fr.of_below (B := base) (T := []) (S := []) (hW)))
        clear hW
        go_wp2_with fail
        go_roundw
        case rel => exact ⟨i, h, rfl, rfl, HUP.out.down (by have := HH.out; omega) (by have := HH.out; omega) (by
          rw [HPD.out, HQD.out]
          have hx := HP.out a h (Nat.le_refl _) (by omega) (by have := HH.out; have := HM.out; omega) (by have := HH.out; omega)
          rw [HPD.out, HQD.out] at hx
          unfold SymP.R
          omega), HFW.out⟩
        case measure => have := HH.out; simp [intOf]; omega
    · obtain rfl : i = j := by omega
      obtain ⟨e, he⟩ : ∃ e, i - 1 = e := ⟨_, rfl⟩
      have hse : (i : Int) - 1 = (e : Int) := by have := HM.out; omega
      have hwe : IntKind.i64.wrap (e : Int) = (e : Int) := IntWalk.i64_in _ (by omega)
      have HE := Lib.hid he
      have hae : a ≤ e := by have := HM.out; omega
      clear he
      have HOW0 := Lib.hid (HFR.out.own HOWN.out (by simp) (by simp))
      have HF0 := Lib.hid (HFR.out.mono (T' := [56]) (Nat.le_refl _) (fun _ h => absurd h (by simp)) (fun _ h => h))
      go_wp2_with fail
      go_loopw [13] (fun kv wl => ∃ t : Nat, a + t ≤ e ∧ kv = .int .i64 ((a + t : Nat) : Int) ∧ wl.ownsRow base 56 2 (.slice (some ⟨g, 0, none⟩) rs.length c) rs.length ((SymP.shU a t rs).flatMap encQ) ∧ Fr base [56] [] w wl) (fun kv _ => e - (intOf kv).toNat)
      case atStart => exact ⟨0, hae, rfl, HOW0.out, HF0.out⟩
      case round =>
        obtain ⟨t, ht, rfl, hown, hfr⟩ := hrel
        by_cases hlt : a + t < e
        · have HOW := Lib.hid hown
          have HFR := Lib.hid hfr
          obtain ⟨l, hl⟩ : ∃ l, SymP.shU a t rs = l := ⟨_, rfl⟩
          have hll : l.length = rs.length := by rw [← hl]; exact SymP.shU_len a t rs
          have hnx : SymP.shU a (t + 1) rs = SymP.sw l (a + t) (a + t + 1) := by rw [← hl]; rfl
          rw [hl] at HOW hown
          obtain ⟨x, hx⟩ : ∃ x, a + t = x := ⟨_, rfl⟩
          obtain ⟨y, hy⟩ : ∃ y, x + 1 = y := ⟨_, rfl⟩
          have hxr : (x : Int) < (rs.length : Int) := by omega
          have hyr : (y : Int) < (rs.length : Int) := by omega
          have hxl : x < l.length := by omega
          have hyl : y < l.length := by omega
          have hxy : ¬ x * 2 = y * 2 := by omega
          have hyx : ¬ y * 2 = x * 2 := by omega
          rw [hx, hy] at hnx
          obtain ⟨_, _, hv, _, _, hrd, _⟩ := own_slice hown
          cases hv
          obtain ⟨g', o', e', hg', hcell⟩ := hrd.2 (by omega)
          cases e'
          obtain ⟨p, hp⟩ : ∃ p, l[x] = p := ⟨_, rfl⟩
          obtain ⟨q, hq⟩ : ∃ q, l[y] = q := ⟨_, rfl⟩
          have e0 := hcell (x * 2 + 0) _ (by rw [flatQ_at l x 0 hxl (by omega)]; rfl)
          have e1 := hcell (x * 2 + 1) _ (by rw [flatQ_at l x 1 hxl (by omega)]; rfl)
          have e2 := hcell (y * 2 + 0) _ (by rw [flatQ_at l y 0 hyl (by omega)]; rfl)
          have e3 := hcell (y * 2 + 1) _ (by rw [flatQ_at l y 1 hyl (by omega)]; rfl)
          rw [hp] at e0 e1
          rw [hq] at e2 e3
          have q0 : wr.cell? ⟨g, x * 2, none⟩ = some (.int .i64 (p.1 : Int)) := by simpa using e0
          have q1 : wr.cell? ⟨g, x * 2 + 1, none⟩ = some (.int .u64 (p.2 : Int)) := by simpa using e1
          have q2 : wr.cell? ⟨g, y * 2, none⟩ = some (.int .i64 (q.1 : Int)) := by simpa using e2
          have q3 : wr.cell? ⟨g, y * 2 + 1, none⟩ = some (.int .u64 (q.2 : Int)) := by simpa using e3
          obtain ⟨_, cs, hgb⟩ := own_block hown (k := g) rfl
          have f0 := frozen_at hgb (x * 2)
          have f1 := frozen_at hgb (x * 2 + 1)
          have f2 := frozen_at hgb (y * 2)
          have f3 := frozen_at hgb (y * 2 + 1)
          have hsy : (x : Int) + 1 = (y : Int) := by omega
          have hwx : IntKind.i64.wrap (x : Int) = (x : Int) := IntWalk.i64_in _ (by omega)
          have hwy : IntKind.i64.wrap (y : Int) = (y : Int) := IntWalk.i64_in _ (by omega)
          have hkn : (x : Int) < (e : Int) := by omega
          rw [hx]
          have HXX := Lib.hid hx
          have HP := Lib.hid hp
          have HQ_ := Lib.hid hq
          have HNX := Lib.hid hnx
          have HLL := Lib.hid hll
          clear hrd hcell e0 e1 e2 e3 hgb hp hq hnx hown hfr hl hx hy hll
          go_wp2_with fail
          go_region
          have w1 := own_set HOW.out (i := x * 2) (by omega) (.int .i64 (q.1 : Int))
          have g1 := own_set_fr HOW.out HFR.out (x * 2) (.int .i64 (q.1 : Int))
          have g2 := own_set_fr w1 g1 (x * 2 + 1) (.int .u64 (q.2 : Int))
          have w2 := own_set w1 (i := x * 2 + 1) (by omega) (.int .u64 (q.2 : Int))
          rw [flatQ_set l x q hxl] at w2
          have g3 := own_set_fr w2 g2 (y * 2) (.int .i64 (p.1 : Int))
          have w3 := own_set w2 (i := y * 2) (by omega) (.int .i64 (p.1 : Int))
          have g4 := own_set_fr w3 g3 (y * 2 + 1) (.int .u64 (p.2 : Int))
          have w4 := own_set w3 (i := y * 2 + 1) (by omega) (.int .u64 (p.2 : Int))
          rw [flatQ_set (l.set x q) y p (by simpa using hyl)] at w4
          have hsw : SymP.shU a (t + 1) rs = (l.set x q).set y p := by
            rw [HNX.out, sw_flat hxl hyl, HP.out, HQ_.out]
          rw [← hsw] at w4
          have HW4 := Lib.hid ((Fr.of_below (B := 0) (T := []) (S := []) (Below.refl _ _).drew).own w4 (by simp) (by simp))
          have HG4 := Lib.hid (g4.trans (Fr.of_below (Below.refl _ _).drew))
          clear w1 w2 w3 w4 g1 g2 g3 g4 hsw f0 f1 f2 f3 q0 q1 q2 q3
          go_wp2_with fail
          go_roundw
          case rel => exact ⟨t + 1, by have := HXX.out; omega, by have := HXX.out; go_num, HW4.out, HG4.out⟩
          case measure => have := HXX.out; simp [intOf]; omega
        · have hte : t = i - 1 - a := by have := HE.out; omega
          subst hte
          have HF := Lib.hid hown
          have HFR := Lib.hid hfr
          have hxe : ((a + (i - 1 - a) : Nat) : Int) = (e : Int) := by omega
          rw [hxe]
          clear hown hfr hxe
          go_wp2_with fail
          refine bodyPost_ret (results_none rfl _ _ _) rfl ?_
          have hmm := HM.out
          have h1 := HUP.out.h1
          have h3 := HUP.out.h3
          exact ⟨rfl, ⟨_, SymP.shU_res _ (by omega) hb, SymP.up_sorted (by omega) h3 hb (by omega) HS.out (fun q => HUP.out.left (by omega)) HUP.out.right, HF.out⟩, HFR.out⟩
end Go.Proofs.Ytochhjdjfgiaeaa
