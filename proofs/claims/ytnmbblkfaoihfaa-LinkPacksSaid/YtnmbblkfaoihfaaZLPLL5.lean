/- The law LinkPacks: behind any calls, packed and unpacked, an end is as it was. The walk. -/
import Derived.Test.YtnmbblkfaoihfaaZLP34
namespace Go.Proofs.Ytnmbblkfaoihfaa
open Go.RowKit

set_option maxRecDepth 100000 in
set_option maxHeartbeats 4000000 in
theorem lpacks_any (A0 : Option Addr) (c0 : Nat) (zs : List LOp) (w : World) (hn : zs.length ≤ 140737488355328) (hrd : Rd w 5 A0 zs.length (zs.flatMap encO)) (hin : ∀ z ∈ zs, OkO w z) :
    Calls Try.prog 9 #[.slice A0 zs.length c0] w fun e w' => e = .returned (.bool true) ∧ Below w.heap.size w w' := by
  have HRD := Lib.hid hrd
  have HIN := Lib.hid hin
  clear hrd hin
  go_enter Try.func9, Try.ntmps9
  go_wp2_with fail
  refine (lnew_any w).mono ?_
  rintro e w1 ⟨rfl, hE1, hb1⟩
  have H1 := Lib.hid hE1
  have HB1 := Lib.hid hb1
  clear hE1 hb1
  go_wp2_with fail
  refine (lives_any _).mono ?_
  rintro e w3 ⟨rfl, hb3⟩
  have hA := (Below.refl _ w1).alloc (Nat.le_refl _) (.cells #[.slice none 0 0, .int .i64 0, .int .i64 0] 55)
  have htwo : Two w w.heap.size w1.heap.size ⟨[], 0, 0⟩ ⟨[], 0, 0⟩ w3 := by
    have h2 : Two w w.heap.size w1.heap.size ⟨[], 0, 0⟩ ⟨[], 0, 0⟩ (w1.alloc (.cells #[.slice none 0 0, .int .i64 0, .int .i64 0] 55)) :=
      ⟨none, none, H1.out.below hA, ⟨.slice none 0 0, block_new _ _, [], rfl, World.ownsRow_nil _ _ _ _, rfl, by simp⟩, Nat.le_refl _, HB1.out.size, by simp, by simp, HB1.out.trans (hA.mono HB1.out.size)⟩
    exact h2.keep hb3
  obtain ⟨p, hp⟩ : ∃ p, w.heap.size = p := ⟨_, rfl⟩
  obtain ⟨q, hq⟩ : ∃ q, w1.heap.size = q := ⟨_, rfl⟩
  have HTW : Hid (Two w p q ⟨[], 0, 0⟩ ⟨[], 0, 0⟩ w3) := Lib.hid (hp ▸ hq ▸ htwo)
  rw [hp, hq]
  clear htwo hA hb3 H1 HB1 hp hq
  go_wp2_with fail
  go_loopw [3, 5] (fun ev iv wr => ∃ (k : Nat) (s : LSt) (p : Nat), k ≤ zs.length ∧ ev = .pointer (some ⟨p, 0, none⟩) ∧ iv = .int .i64 k ∧ InvL s k ∧ GoodE s ∧ Two w p q s s wr) (fun _ iv _ => zs.length - (intOf iv).toNat)
  case atStart => exact ⟨0, ⟨[], 0, 0⟩, p, Nat.zero_le _, rfl, rfl, ⟨by simp, by simp, by simp, by simp, by simp, by simp⟩, GoodE.nil, HTW.out⟩
  case round =>
    obtain ⟨k, s, p, hk, rfl, rfl, hinv, hgd, htw⟩ := hrel
    have HI := Lib.hid hinv
    have HG := Lib.hid hgd
    have HT := Lib.hid htw
    clear hinv hgd htw HTW
    by_cases hgo : k < zs.length ∧ k < 80
    · obtain ⟨hlt, h80⟩ := hgo
      obtain ⟨g, o, rfl, hg, hcell⟩ := HRD.out.2 (by omega)
      have hat := fun j (hj : j < 5) => flatO_at zs k j hlt hj
      have hbl := HT.out.below
      have hz := HIN.out zs[k] (List.getElem_mem _)
      obtain ⟨z, hzk⟩ : ∃ z, zs[k] = z := ⟨_, rfl⟩
      rw [hzk] at hz
      have k0 : wr.cell? ⟨g, o + k * 5, none⟩ = some (.int .i64 z.kind) := (hbl.cell (p := ⟨g, o + k * 5, none⟩) hg).trans (hcell (k * 5 + 0) _ ((hat 0 (by omega)).trans (by rw [hzk]; rfl)))
      have k1 : wr.cell? ⟨g, o + k * 5 + 1, none⟩ = some (.int .i64 z.now) := (hbl.cell (p := ⟨g, o + k * 5 + 1, none⟩) hg).trans (hcell (k * 5 + 1) _ ((hat 1 (by omega)).trans (by rw [hzk]; rfl)))
      have k2 : wr.cell? ⟨g, o + k * 5 + 2, none⟩ = some (.int .i64 z.seq) := (hbl.cell (p := ⟨g, o + k * 5 + 2, none⟩) hg).trans (hcell (k * 5 + 2) _ ((hat 2 (by omega)).trans (by rw [hzk]; rfl)))
      have k3 : wr.cell? ⟨g, o + k * 5 + 3, none⟩ = some (.int .i64 z.ack) := (hbl.cell (p := ⟨g, o + k * 5 + 3, none⟩) hg).trans (hcell (k * 5 + 3) _ ((hat 3 (by omega)).trans (by rw [hzk]; rfl)))
      have k4 : wr.cell? ⟨g, o + k * 5 + 4, none⟩ = some (.slice z.A z.bs.length z.c) := (hbl.cell (p := ⟨g, o + k * 5 + 4, none⟩) hg).trans (hcell (k * 5 + 4) _ ((hat 4 (by omega)).trans (by rw [hzk]; rfl)))
      have HZ := Lib.hid hz
      clear hat hcell hzk hz hbl
      by_cases hlong : 5000 < z.bs.length
      · go_wp2_with fail
        go_roundw
        case rel => exact ⟨k + 1, s, p, hlt, rfl, by go_num, by have := HI.out.next; simpa using this, HG.out, HT.out⟩
        case measure => simp [intOf]; omega
      have hok : StepOk s := by
        have h := HI.out
        unfold InvL at h
        exact ⟨by omega, by omega, h.2.2.2.2.1, fun x hx => by have := h.2.2.2.2.2 x hx; omega⟩
      obtain ⟨s1, hs1⟩ : ∃ s1, stepS s z = s1 := ⟨_, rfl⟩
      have hi1 : InvL s1 ((k + 1 : Nat) : Int) := by
        have e : ((k + 1 : Nat) : Int) = (k : Int) + 1 := by omega
        rw [← hs1, e]
        unfold stepS
        split
        · exact HI.out.send _ _
        · split
          · exact HI.out.tick _
          · split
            · exact HI.out.on _
            · exact HI.out.next
      have hg1 : GoodE s1 := by
        rw [← hs1]
        unfold stepS
        split
        · exact HG.out.send HZ.out.2.2.2.2.1 HZ.out.1 hok.1.2
        · split
          · exact HG.out.tick HZ.out.1 (fun x hx => (hok.2.2.2 x hx).2.1)
          · split
            · exact HG.out.on _ hok.2.1.2
            · exact HG.out
      have HSTEP := Lib.hid (lstep_any w p q s z wr HT.out HZ.out hok)
      rw [hs1] at HSTEP
      have HI1 := Lib.hid hi1
      have HG1 := Lib.hid hg1
      clear hok hs1 hi1 hg1
      go_wp2_with fail
      refine HSTEP.out.mono ?_
      rintro e w4 ⟨rfl, ht4⟩
      have HT4 := Lib.hid ht4
      clear ht4 k0 k1 k2 k3 k4 HSTEP
      go_wp2_with fail
      refine (HT4.out.pack HG1.out).mono ?_
      rintro e w5 ⟨v6, rfl, hv6, hb5⟩
      have HT5 := Lib.hid (HT4.out.keep hb5)
      have HV5 := Lib.hid hv6
      obtain ⟨A6, c6, rfl, _, _, _⟩ := hv6
      have hpl := packE_len HG1.out
      have HPB := Lib.hid (packE_lt HG1.out)
      have HUP := Lib.hid (unE_pack HG1.out)
      have HXP : Hid (∀ W, Two w p q s1 s1 W → Calls Try.prog 37 #[.pointer (some ⟨q, 0, none⟩)] W fun e W' => ∃ v, e = .returned v ∧ Bs W' v (packE s1) ∧ Below W.heap.size W W') := Lib.hid (fun W ht => ht.xpack HG1.out)
      obtain ⟨P, hP⟩ : ∃ P, packE s1 = P := ⟨_, rfl⟩
      rw [hP] at hpl HPB HUP HXP HV5
      simp only [hP]
      clear hb5 hP HT4
      go_wp2_with fail
      refine (lunpack_any _ P w5 HV5.out HPB.out (by omega)).mono ?_
      rintro e w6 ⟨h6, hb6⟩
      rw [HUP.out] at h6
      obtain ⟨p', G', rfl, hi6, hlow6, hG6⟩ := h6
      have HT6 := Lib.hid (HT5.out.keep hb6)
      have HE6 := Lib.hid hi6
      have HLW : Hid (w.heap.size ≤ p' ∧ ∀ g, G' = some g → w.heap.size ≤ g) := Lib.hid ⟨Nat.le_trans HT5.out.below.size hlow6, fun g hg => Nat.le_trans HT5.out.below.size (hG6 g hg)⟩
      have HV6 := Lib.hid (HV5.out.below hb6)
      obtain ⟨m, hm⟩ : ∃ m, P.length = m := ⟨_, rfl⟩
      rw [hm] at HV6
      simp only [hm]
      have HM := Lib.hid hm
      obtain ⟨S, hS⟩ : ∃ S, strOf P = S := ⟨_, rfl⟩
      have HSS := Lib.hid hS
      clear hi6 hlow6 hG6 hb6 hm hS HT5 HV5
      go_wp2_with fail
      refine wp_region_flow (fun W => Below w6.heap.size w6 W) [0, 1, 2, 3, 4, 5, 6, 7, 8, 9, 10, 11, 12, 13, 14, 15, 16, 17, 18, 19, 20, 21, 22, 23, 24, 25, 26, 27, 28, 29, 30, 31, 32, 33, 34] (by kernel_rfl) (by kernel_rfl) (by kernel_rfl) ((Below.refl _ w6).drew) ?_
      refine flow_val ?_ rfl (by kernel_rfl) (by rfl) (fun W hW => ?_) ?_
      rotate_left 1
      · go_simp <;> with_reducible rfl
      simp only [Act.put, List.setIfInBounds_toArray, List.set_cons_succ, List.set_cons_zero]
      refine flow_val ?_ rfl (by kernel_rfl) (by rfl) (fun W hW => ?_) ?_
      rotate_left 1
      · have r1 := HSS.out ▸ run_str W A6 m c6 P (HV6.out.below hW).rd' HPB.out; go_simp <;> with_reducible rfl
      simp only [Act.put, List.setIfInBounds_toArray, List.set_cons_succ, List.set_cons_zero]
      refine flow_val ?_ rfl (by kernel_rfl) (by rfl) (fun W hW => ?_) ?_
      rotate_left 1
      · go_simp <;> with_reducible rfl
      simp only [Act.put, List.setIfInBounds_toArray, List.set_cons_succ, List.set_cons_zero]
      refine flow_new (fun v W => Bs W v P) rfl (by kernel_rfl) (by rfl) (by kernel_rfl) (fun W hW => ⟨_, _, _, by go_simp, (HXP.out W (HT6.out.keep hW)).mono fun e w' ⟨v, he, hv, hb⟩ => ⟨v, he, hW.trans (hb.mono hW.size), hv⟩⟩) ?_
      rintro v54 ⟨_, _, A54, c54, rfl, _, _, _⟩
      simp only [Act.put, List.setIfInBounds_toArray, List.set_cons_succ, List.set_cons_zero]
      refine flow_val ?_ rfl (by kernel_rfl) (by rfl) (fun W hW => ?_) ?_
      rotate_left 1
      · have r1 := HSS.out ▸ run_str W A54 P.length c54 P hW.2.rd' HPB.out; go_simp <;> with_reducible rfl
      simp only [Act.put, List.setIfInBounds_toArray, List.set_cons_succ, List.set_cons_zero]
      refine flow_val ?_ rfl (by kernel_rfl) (by rfl) (fun W hW => ?_) ?_
      rotate_left 1
      · go_simp <;> with_reducible rfl
      simp only [Act.put, List.setIfInBounds_toArray, List.set_cons_succ, List.set_cons_zero]
      refine flow_val ?_ rfl (by kernel_rfl) (by rfl) (fun W hW => ?_) ?_
      rotate_left 1
      · go_simp <;> with_reducible rfl
      simp only [Act.put, List.setIfInBounds_toArray, List.set_cons_succ, List.set_cons_zero]
      refine flow_val ?_ rfl (by kernel_rfl) (by rfl) (fun W hW => ?_) ?_
      rotate_left 1
      · go_simp <;> with_reducible rfl
      simp only [Act.put, List.setIfInBounds_toArray, List.set_cons_succ, List.set_cons_zero]
      refine flow_val ?_ rfl (by kernel_rfl) (by rfl) (fun W hW => ?_) ?_
      rotate_left 1
      · go_simp <;> with_reducible rfl
      simp only [Act.put, List.setIfInBounds_toArray, List.set_cons_succ, List.set_cons_zero]
      refine flow_val ?_ rfl (by kernel_rfl) (by rfl) (fun W hW => ?_) ?_
      rotate_left 1
      · go_simp <;> with_reducible rfl
      simp only [Act.put, List.setIfInBounds_toArray, List.set_cons_succ, List.set_cons_zero]
      refine flow_val ?_ rfl (by kernel_rfl) (by rfl) (fun W hW => ?_) ?_
      rotate_left 1
      · go_simp <;> with_reducible rfl
      simp only [Act.put, List.setIfInBounds_toArray, List.set_cons_succ, List.set_cons_zero]
      refine flow_val ?_ rfl (by kernel_rfl) (by rfl) (fun W hW => ?_) ?_
      rotate_left 1
      · go_simp <;> with_reducible rfl
      simp only [Act.put, List.setIfInBounds_toArray, List.set_cons_succ, List.set_cons_zero]
      refine flow_val ?_ rfl (by kernel_rfl) (by rfl) (fun W hW => ?_) ?_
      rotate_left 1
      · go_simp <;> with_reducible rfl
      simp only [Act.put, List.setIfInBounds_toArray, List.set_cons_succ, List.set_cons_zero]
      refine flow_val ?_ rfl (by kernel_rfl) (by rfl) (fun W hW => ?_) ?_
      rotate_left 1
      · go_simp <;> with_reducible rfl
      simp only [Act.put, List.setIfInBounds_toArray, List.set_cons_succ, List.set_cons_zero]
      refine flow_val ?_ rfl (by kernel_rfl) (by rfl) (fun W hW => ?_) ?_
      rotate_left 1
      · go_simp <;> with_reducible rfl
      simp only [Act.put, List.setIfInBounds_toArray, List.set_cons_succ, List.set_cons_zero]
      refine flow_val ?_ rfl (by kernel_rfl) (by rfl) (fun W hW => ?_) ?_
      rotate_left 1
      · go_simp <;> with_reducible rfl
      simp only [Act.put, List.setIfInBounds_toArray, List.set_cons_succ, List.set_cons_zero]
      refine flow_quiet (.int .i64 s1.l.length) rfl (by kernel_rfl) (by rfl) (fun W hW => ⟨_, _, by go_simp, (lopen_any p' G' s1 W (HE6.out.below hW.1))⟩) ?_
      simp only [Act.put, List.setIfInBounds_toArray, List.set_cons_succ, List.set_cons_zero]
      refine flow_val ?_ rfl (by kernel_rfl) (by rfl) (fun W hW => ?_) ?_
      rotate_left 1
      · go_simp <;> with_reducible rfl
      simp only [Act.put, List.setIfInBounds_toArray, List.set_cons_succ, List.set_cons_zero]
      refine flow_quiet (.int .i64 s1.l.length) rfl (by kernel_rfl) (by rfl) (fun W hW => ⟨_, _, by go_simp, (HT6.out.keep hW.1).open_⟩) ?_
      simp only [Act.put, List.setIfInBounds_toArray, List.set_cons_succ, List.set_cons_zero]
      refine flow_val ?_ rfl (by kernel_rfl) (by rfl) (fun W hW => ?_) ?_
      rotate_left 1
      · go_simp <;> with_reducible rfl
      simp only [Act.put, List.setIfInBounds_toArray, List.set_cons_succ, List.set_cons_zero]
      refine flow_val ?_ rfl (by kernel_rfl) (by rfl) (fun W hW => ?_) ?_
      rotate_left 1
      · go_simp <;> with_reducible rfl
      simp only [Act.put, List.setIfInBounds_toArray, List.set_cons_succ, List.set_cons_zero]
      refine flow_val ?_ rfl (by kernel_rfl) (by rfl) (fun W hW => ?_) ?_
      rotate_left 1
      · go_simp <;> with_reducible rfl
      simp only [Act.put, List.setIfInBounds_toArray, List.set_cons_succ, List.set_cons_zero]
      refine flow_val ?_ rfl (by kernel_rfl) (by rfl) (fun W hW => ?_) ?_
      rotate_left 1
      · go_simp <;> with_reducible rfl
      simp only [Act.put, List.setIfInBounds_toArray, List.set_cons_succ, List.set_cons_zero]
      refine flow_quiet (.int .i64 s1.mark) rfl (by kernel_rfl) (by rfl) (fun W hW => ⟨_, _, by go_simp, (lmark_any p' G' s1 W (HE6.out.below hW.1))⟩) ?_
      simp only [Act.put, List.setIfInBounds_toArray, List.set_cons_succ, List.set_cons_zero]
      refine flow_val ?_ rfl (by kernel_rfl) (by rfl) (fun W hW => ?_) ?_
      rotate_left 1
      · go_simp <;> with_reducible rfl
      simp only [Act.put, List.setIfInBounds_toArray, List.set_cons_succ, List.set_cons_zero]
      refine flow_quiet (.int .i64 s1.mark) rfl (by kernel_rfl) (by rfl) (fun W hW => ⟨_, _, by go_simp, (HT6.out.keep hW.1).mark⟩) ?_
      simp only [Act.put, List.setIfInBounds_toArray, List.set_cons_succ, List.set_cons_zero]
      refine flow_val ?_ rfl (by kernel_rfl) (by rfl) (fun W hW => ?_) ?_
      rotate_left 1
      · go_simp <;> with_reducible rfl
      simp only [Act.put, List.setIfInBounds_toArray, List.set_cons_succ, List.set_cons_zero]
      refine flow_val ?_ rfl (by kernel_rfl) (by rfl) (fun W hW => ?_) ?_
      rotate_left 1
      · go_simp <;> with_reducible rfl
      simp only [Act.put, List.setIfInBounds_toArray, List.set_cons_succ, List.set_cons_zero]
      refine flow_val ?_ rfl (by kernel_rfl) (by rfl) (fun W hW => ?_) ?_
      rotate_left 1
      · go_simp <;> with_reducible rfl
      simp only [Act.put, List.setIfInBounds_toArray, List.set_cons_succ, List.set_cons_zero]
      refine flow_val ?_ rfl (by kernel_rfl) (by rfl) (fun W hW => ?_) ?_
      rotate_left 1
      · go_simp <;> with_reducible rfl
      simp only [Act.put, List.setIfInBounds_toArray, List.set_cons_succ, List.set_cons_zero]
      refine flow_quiet (.int .i64 s1.sent) rfl (by kernel_rfl) (by rfl) (fun W hW => ⟨_, _, by go_simp, (lsent_any p' G' s1 W (HE6.out.below hW.1))⟩) ?_
      simp only [Act.put, List.setIfInBounds_toArray, List.set_cons_succ, List.set_cons_zero]
      refine flow_val ?_ rfl (by kernel_rfl) (by rfl) (fun W hW => ?_) ?_
      rotate_left 1
      · go_simp <;> with_reducible rfl
      simp only [Act.put, List.setIfInBounds_toArray, List.set_cons_succ, List.set_cons_zero]
      refine flow_quiet (.int .i64 s1.sent) rfl (by kernel_rfl) (by rfl) (fun W hW => ⟨_, _, by go_simp, (HT6.out.keep hW.1).sent⟩) ?_
      simp only [Act.put, List.setIfInBounds_toArray, List.set_cons_succ, List.set_cons_zero]
      refine flow_val ?_ rfl (by kernel_rfl) (by rfl) (fun W hW => ?_) ?_
      rotate_left 1
      · go_simp <;> with_reducible rfl
      simp only [Act.put, List.setIfInBounds_toArray, List.set_cons_succ, List.set_cons_zero]
      refine flow_val ?_ rfl (by kernel_rfl) (by rfl) (fun W hW => ?_) ?_
      rotate_left 1
      · go_simp <;> with_reducible rfl
      simp only [Act.put, List.setIfInBounds_toArray, List.set_cons_succ, List.set_cons_zero]
      refine flow_done ?_
      intro W hW
      have HT7 : Hid (Two w p' q s1 s1 W) := Lib.hid (by
        obtain ⟨G, H, _, h2, _, h4, _, h6, h7⟩ := HT6.out
        exact ⟨G', H, HE6.out.below hW.1, h2.below hW.1, HLW.out.1, h4, HLW.out.2, h6, h7.trans (hW.1.mono h7.size)⟩)
      clear hW
      go_wp2_with fail
      go_roundw
      case rel => exact ⟨k + 1, s1, p', hlt, rfl, by go_num, HI1.out, HG1.out, HT7.out⟩
      case measure => simp [intOf]; omega
    · rcases (by omega : k = zs.length ∨ k < zs.length ∧ ¬ k < 80) with h | ⟨h, h3⟩
      · subst h
        clear hgo
        go_wp2
        go_ret
        exact ⟨by simp, HT.out.below⟩
      · clear hgo
        go_wp2
        go_ret
        exact ⟨by simp, HT.out.below⟩
end Go.Proofs.Ytnmbblkfaoihfaa
