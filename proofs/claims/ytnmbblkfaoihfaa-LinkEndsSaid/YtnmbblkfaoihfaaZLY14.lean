/- The reference's On: packets that carry a body. -/
import Derived.Test.YtnmbblkfaoihfaaZLY13
namespace Go.Proofs.Ytnmbblkfaoihfaa
open Go.RowKit

set_option maxRecDepth 100000 in
set_option maxHeartbeats 1000000 in
theorem ron_other (p : Nat) (G : Option Nat) (s : LSt) (k : LPk) (A : Option Addr) (c : Nat) (w : World) (h : IsX w p G s) (hl : k.body.length ≤ 2048) (hm : mayL k = true) (hn : s.l.length ≤ 1048576) (hmk : 0 ≤ s.mark ∧ s.mark < 9223372036854775807) (hz : k.seq ≠ 0) (hne : k.seq ≠ s.mark + 1) :
    Calls Try.prog 25 #[.pointer (some ⟨p, 0, none⟩), .agg #[.int .i64 k.seq, .int .i64 k.ack, .slice A k.body.length c]] w
      (RetX p G (fun e w' => ∃ bv v3, e = .returned (.tuple #[bv, .bool false, v3]) ∧ Bs w' bv [] ∧ IsP w' v3 ⟨0, s.mark, []⟩) ⟨onL s k, s.sent, s.mark⟩ w) := by
  have HM : Hid (∀ wx, Calls Try.prog 32 #[.agg #[.int .i64 k.seq, .int .i64 k.ack, .slice A k.body.length c]] wx fun e w' => e = .returned (.bool true) ∧ Below wx.heap.size wx w') := Lib.hid (fun wx => by
    have := rmay_any k A c wx (by omega)
    rw [hm] at this
    exact this)
  obtain ⟨i0, hi0, hz0, hz1, hz2⟩ := info_parts Try.infoRItem
  obtain ⟨v, h1, zs, hzs, h2, hG, h3⟩ := h
  have hzl : zs.length = s.l.length := by rw [← hzs]; simp
  rw [← hzl] at h2 hn
  obtain ⟨Av, cv, rfl, _, _, hrd, _⟩ := own_slice h2
  clear hzl
  have hpl := lt_of_block h1
  have H1 := Lib.hid h1
  have H3 := Lib.hid h3
  have HZS := Lib.hid hzs
  have HRD := Lib.hid hrd
  have HZ0 := Lib.hid hz
  have HNE := Lib.hid hne
  clear hz hne
  clear h1 h2 h3 hm hzs hG hrd
  go_enter Try.func25, Try.ntmps25
  go_wp2_with fail
  refine (HM.out _).mono ?_
  rintro e w1 ⟨rfl, hb1⟩
  have hbA : Below w.heap.size w ((w.alloc (.cells #[.int .i64 k.seq, .int .i64 k.ack, .slice A k.body.length c] 43)).alloc (.cells #[.int .i64 0, .int .i64 0, .slice none 0 0] 43)) := ((Below.refl _ w).alloc (Nat.le_refl _) _).alloc (by simp) _
  have hb : Below w.heap.size w w1 := hbA.trans (hb1.mono hbA.size)
  have b3 := block_alloc (block_new w (.cells #[.int .i64 k.seq, .int .i64 k.ack, .slice A k.body.length c] 43)) (.cells #[.int .i64 0, .int .i64 0, .slice none 0 0] 43)
  have b4 := block_new (w.alloc (.cells #[.int .i64 k.seq, .int .i64 k.ack, .slice A k.body.length c] 43)) (.cells #[.int .i64 0, .int .i64 0, .slice none 0 0] 43)
  simp only [World.size_alloc] at b4
  have n0 := (hb1.block w.heap.size (by simp; omega)).trans b3
  have n1 := (hb1.block (w.heap.size + 1) (by simp)).trans b4
  have N0 := Lib.hid n0
  have N1 := Lib.hid n1
  have HB := Lib.hid hb
  clear hbA b3 b4 n0 n1 hb1 hb
  go_wp2_with fail
  go_loopw [7, 8] (fun lv kv wr => ∃ kk : Nat, kk ≤ zs.length ∧ kv = .int .i64 kk ∧ wr.ownsRow w.heap.size 91 4 lv ((zs.take kk).filter (keepL k.ack)).length (((zs.take kk).filter (keepL k.ack)).flatMap encL) ∧ Fr w.heap.size [91] [] w1 wr) (fun _ kv _ => zs.length - (intOf kv).toNat)
  case atStart => exact ⟨0, Nat.zero_le _, rfl, World.ownsRow_nil _ _ _ _, Fr.refl _⟩
  case round =>
    obtain ⟨kk, hk, rfl, hown, hF⟩ := hrel
    have hsz1 : w.heap.size ≤ w1.heap.size := HB.out.size
    have hbw : Below w.heap.size w wr := HB.out.trans (hF.below hsz1)
    have p1 := (hbw.block p hpl).trans H1.out
    have c0 := cell_at p1 0
    have n0 := hF.keep N0.out (by decide) (by simp)
    have n1 := hF.keep N1.out (by decide) (by simp)
    have d0 := cell_at n0 0
    have d1 := cell_at n0 1
    have d2 := cell_at n0 2
    have HP1 := Lib.hid p1
    have HN0 := Lib.hid n0
    have HN1 := Lib.hid n1
    have HOW := Lib.hid hown
    have HF := Lib.hid hF
    have HBW := Lib.hid hbw
    obtain ⟨Al, cl, rfl, _, _, _, _⟩ := own_slice hown
    clear p1 n0 n1 hown hF hbw
    by_cases hlt : kk < zs.length
    · obtain ⟨g, o, rfl, hg, hcell⟩ := HRD.out.2 (by omega)
      have hat := fun j (hj : j < 4) => flatL_at zs kk j hlt hj
      have hby := (H3.out zs[kk] (List.getElem_mem _)).frame (S := []) (T := []) (Fr.of_below HBW.out) (by simp) (by simp)
      obtain ⟨Ab, nb, cb, hbv⟩ := bv_form hby
      have hft := filter_take (keepL k.ack) zs kk hlt
      have hkl : keepL k.ack zs[kk] = !decide (zs[kk].it.seq ≤ k.ack) := rfl
      have k0 : wr.cell? ⟨g, o + kk * 4, none⟩ = some (.int .i64 zs[kk].it.seq) := (HBW.out.cell (p := ⟨g, o + kk * 4, none⟩) hg).trans (hcell (kk * 4 + 0) _ ((hat 0 (by omega)).trans (by simp only [encL]; rfl)))
      have k1 : wr.cell? ⟨g, o + kk * 4 + 1, none⟩ = some (.slice Ab nb cb) := (HBW.out.cell (p := ⟨g, o + kk * 4 + 1, none⟩) hg).trans (hcell (kk * 4 + 1) _ ((hat 1 (by omega)).trans (by simp only [encL, hbv]; rfl)))
      have k2 : wr.cell? ⟨g, o + kk * 4 + 2, none⟩ = some (.int .i64 zs[kk].it.tries) := (HBW.out.cell (p := ⟨g, o + kk * 4 + 2, none⟩) hg).trans (hcell (kk * 4 + 2) _ ((hat 2 (by omega)).trans (by simp only [encL]; rfl)))
      have k3 : wr.cell? ⟨g, o + kk * 4 + 3, none⟩ = some (.int .i64 zs[kk].it.due) := (HBW.out.cell (p := ⟨g, o + kk * 4 + 3, none⟩) hg).trans (hcell (kk * 4 + 3) _ ((hat 3 (by omega)).trans (by simp only [encL]; rfl)))
      obtain ⟨z, hz⟩ : ∃ z, zs[kk] = z := ⟨_, rfl⟩
      rw [hz] at k0 k2 k3 hft hkl hbv
      have HZ := Lib.hid hz
      have HFT := Lib.hid hft
      have HKL := Lib.hid hkl
      have HBV := Lib.hid hbv
      have HC0 := Lib.hid c0
      have HD1 := Lib.hid d1
      have HK0 := Lib.hid k0
      obtain ⟨m, hm⟩ : ∃ m, ((zs.take kk).filter (keepL k.ack)).length = m := ⟨_, rfl⟩
      have HMM := Lib.hid hm
      have hmk : m ≤ kk := by rw [← hm]; exact Nat.le_trans (List.length_filter_le _ _) (by simp; omega)
      rw [hm]
      clear hat hcell hft hkl hbv hz hby hm
      by_cases hd : k.ack < z.it.seq
      · have hgt : decide (k.ack < z.it.seq) = true := by simpa using hd
        have HOW' : Hid (wr.ownsRow w.heap.size 91 4 (.slice Al m cl) m (((zs.take kk).filter (keepL k.ack)).flatMap encL)) := Lib.hid (HMM.out ▸ HOW.out)
        go_wp2_with fail
        refine wp_region_flow (fun W => W = wr.drew) [0, 1, 2, 3, 4, 5, 6, 7, 8, 9, 10] (by kernel_rfl) (by kernel_rfl) (by kernel_rfl) (rfl) ?_
        refine flow_val ?_ rfl (by kernel_rfl) (by rfl) (fun W hW => ?_) ?_
        rotate_left 1
        · go_simp <;> with_reducible rfl
        simp only [Act.put, List.setIfInBounds_toArray, List.set_cons_succ, List.set_cons_zero]
        refine flow_val ?_ rfl (by kernel_rfl) (by rfl) (fun W hW => ?_) ?_
        rotate_left 1
        · go_simp <;> with_reducible rfl
        simp only [Act.put, List.setIfInBounds_toArray, List.set_cons_succ, List.set_cons_zero]
        refine flow_val ?_ rfl (by kernel_rfl) (by rfl) (fun W hW => ?_) ?_
        rotate_left 1
        · go_simp <;> with_reducible rfl
        simp only [Act.put, List.setIfInBounds_toArray, List.set_cons_succ, List.set_cons_zero]
        refine flow_val ?_ rfl (by kernel_rfl) (by rfl) (fun W hW => ?_) ?_
        rotate_left 1
        · subst hW; have c1 : (wr.drew).cell? ⟨p, 0, none⟩ = some (.slice (some ⟨g, o, none⟩) zs.length cv) := HC0.out; go_simp <;> with_reducible rfl
        simp only [Act.put, List.setIfInBounds_toArray, List.set_cons_succ, List.set_cons_zero]
        refine flow_val ?_ rfl (by kernel_rfl) (by rfl) (fun W hW => ?_) ?_
        rotate_left 1
        · go_simp <;> with_reducible rfl
        simp only [Act.put, List.setIfInBounds_toArray, List.set_cons_succ, List.set_cons_zero]
        refine flow_val ?_ rfl (by kernel_rfl) (by rfl) (fun W hW => ?_) ?_
        rotate_left 1
        · go_simp <;> with_reducible rfl
        simp only [Act.put, List.setIfInBounds_toArray, List.set_cons_succ, List.set_cons_zero]
        refine flow_val ?_ rfl (by kernel_rfl) (by rfl) (fun W hW => ?_) ?_
        rotate_left 1
        · go_simp <;> with_reducible rfl
        simp only [Act.put, List.setIfInBounds_toArray, List.set_cons_succ, List.set_cons_zero]
        refine flow_val ?_ rfl (by kernel_rfl) (by rfl) (fun W hW => ?_) ?_
        rotate_left 1
        · subst hW; have c1 : (wr.drew).cell? ⟨g, o + kk * 4, none⟩ = some (.int .i64 z.it.seq) := HK0.out; go_simp <;> with_reducible rfl
        simp only [Act.put, List.setIfInBounds_toArray, List.set_cons_succ, List.set_cons_zero]
        refine flow_val ?_ rfl (by kernel_rfl) (by rfl) (fun W hW => ?_) ?_
        rotate_left 1
        · go_simp <;> with_reducible rfl
        simp only [Act.put, List.setIfInBounds_toArray, List.set_cons_succ, List.set_cons_zero]
        refine flow_val ?_ rfl (by kernel_rfl) (by rfl) (fun W hW => ?_) ?_
        rotate_left 1
        · subst hW; have c1 : (wr.drew).cell? ⟨w.heap.size, 1, none⟩ = some (.int .i64 k.ack) := HD1.out; go_simp <;> with_reducible rfl
        simp only [Act.put, List.setIfInBounds_toArray, List.set_cons_succ, List.set_cons_zero]
        refine flow_val ?_ rfl (by kernel_rfl) (by rfl) (fun W hW => ?_) ?_
        rotate_left 1
        · go_simp <;> with_reducible rfl
        simp only [Act.put, List.setIfInBounds_toArray, List.set_cons_succ, List.set_cons_zero]
        refine flow_done ?_
        intro W hW
        subst hW
        have HRN : Hid (Rd ((wr.alloc (.cells #[.int .i64 z.it.seq, .slice Ab nb cb, .int .i64 z.it.tries, .int .i64 z.it.due] 91)).drew) 4 (some ⟨wr.heap.size, 0, none⟩) 1 [.int .i64 z.it.seq, .slice Ab nb cb, .int .i64 z.it.tries, .int .i64 z.it.due]) := Lib.hid (rd_new wr rfl)
        have HO3 := Lib.hid ((Fr.of_below (B := 0) (T := []) (S := []) (((Below.refl _ wr).alloc (Nat.le_refl _) (.cells #[.int .i64 z.it.seq, .slice Ab nb cb, .int .i64 z.it.tries, .int .i64 z.it.due] 91)).drew)).own HOW'.out (by simp) (by simp))
        have hwsz : w.heap.size ≤ wr.heap.size := HBW.out.size
        go_wp2_with (first
          | (at_builtin
             refine wpList_append_rd_at _ rfl (.tmp 33) (.tmp 41) 53 rfl w.heap.size 91 i0 (.agg #[.int .i64 0, .slice none 0 0, .int .i64 0, .int .i64 0]) 4 48 Try.underlying53 hi0 hz0 hz1 hz2 rfl (by decide) (.slice Al m cl) _ _ rfl HO3.out (some ⟨wr.heap.size, 0, none⟩) 1 1 [.int .i64 z.it.seq, .slice Ab nb cb, .int .i64 z.it.tries, .int .i64 z.it.due] rfl HRN.out (by simp [Value.oneCell']) (by unfold maxLen; omega) (by omega) (by simp; omega) ?_
             intro v5 w5 hown5 hgrow5 _
             have HO5 := Lib.hid hown5
             have F5 := Lib.hid ((Fr.of_below (B := w.heap.size) (T := [91]) (S := []) ((Below.refl _ wr).alloc (Nat.le_refl _) (.cells #[.int .i64 z.it.seq, .slice Ab nb cb, .int .i64 z.it.tries, .int .i64 z.it.due] 91)).drew).grown hgrow5 (fun j hj => by
               obtain ⟨hbs, cs, hc⟩ := own_block HO3.out hj
               exact ⟨hbs, .inr ⟨cs, _, _, hc, by simp⟩⟩))
             clear hown5 hgrow5))
        go_roundw
        case rel =>
          have hkf : keepL k.ack zs[kk] = true := by rw [HZ.out, HKL.out]; simp; omega
          have hf2 := HFT.out
          rw [← HZ.out, hkf] at hf2
          simp only [if_true] at hf2
          refine ⟨kk + 1, hlt, by go_num, ?_, HF.out.trans F5.out⟩
          rw [hf2, List.flatMap_append, List.length_append, HMM.out, HZ.out]
          have e : [z].flatMap encL = [.int .i64 z.it.seq, .slice Ab nb cb, .int .i64 z.it.tries, .int .i64 z.it.due] := by simp [encL, HBV.out]
          rw [e]
          exact HO5.out
        case measure => simp [intOf]; omega
      · have hgt : decide (k.ack < z.it.seq) = false := by simpa using hd
        go_wp2_with fail
        refine wp_region_flow (fun W => W = wr.drew) [0, 1, 2, 3, 4, 5, 6, 7, 8, 9, 10] (by kernel_rfl) (by kernel_rfl) (by kernel_rfl) (rfl) ?_
        refine flow_val ?_ rfl (by kernel_rfl) (by rfl) (fun W hW => ?_) ?_
        rotate_left 1
        · go_simp <;> with_reducible rfl
        simp only [Act.put, List.setIfInBounds_toArray, List.set_cons_succ, List.set_cons_zero]
        refine flow_val ?_ rfl (by kernel_rfl) (by rfl) (fun W hW => ?_) ?_
        rotate_left 1
        · go_simp <;> with_reducible rfl
        simp only [Act.put, List.setIfInBounds_toArray, List.set_cons_succ, List.set_cons_zero]
        refine flow_val ?_ rfl (by kernel_rfl) (by rfl) (fun W hW => ?_) ?_
        rotate_left 1
        · go_simp <;> with_reducible rfl
        simp only [Act.put, List.setIfInBounds_toArray, List.set_cons_succ, List.set_cons_zero]
        refine flow_val ?_ rfl (by kernel_rfl) (by rfl) (fun W hW => ?_) ?_
        rotate_left 1
        · subst hW; have c1 : (wr.drew).cell? ⟨p, 0, none⟩ = some (.slice (some ⟨g, o, none⟩) zs.length cv) := HC0.out; go_simp <;> with_reducible rfl
        simp only [Act.put, List.setIfInBounds_toArray, List.set_cons_succ, List.set_cons_zero]
        refine flow_val ?_ rfl (by kernel_rfl) (by rfl) (fun W hW => ?_) ?_
        rotate_left 1
        · go_simp <;> with_reducible rfl
        simp only [Act.put, List.setIfInBounds_toArray, List.set_cons_succ, List.set_cons_zero]
        refine flow_val ?_ rfl (by kernel_rfl) (by rfl) (fun W hW => ?_) ?_
        rotate_left 1
        · go_simp <;> with_reducible rfl
        simp only [Act.put, List.setIfInBounds_toArray, List.set_cons_succ, List.set_cons_zero]
        refine flow_val ?_ rfl (by kernel_rfl) (by rfl) (fun W hW => ?_) ?_
        rotate_left 1
        · go_simp <;> with_reducible rfl
        simp only [Act.put, List.setIfInBounds_toArray, List.set_cons_succ, List.set_cons_zero]
        refine flow_val ?_ rfl (by kernel_rfl) (by rfl) (fun W hW => ?_) ?_
        rotate_left 1
        · subst hW; have c1 : (wr.drew).cell? ⟨g, o + kk * 4, none⟩ = some (.int .i64 z.it.seq) := HK0.out; go_simp <;> with_reducible rfl
        simp only [Act.put, List.setIfInBounds_toArray, List.set_cons_succ, List.set_cons_zero]
        refine flow_val ?_ rfl (by kernel_rfl) (by rfl) (fun W hW => ?_) ?_
        rotate_left 1
        · go_simp <;> with_reducible rfl
        simp only [Act.put, List.setIfInBounds_toArray, List.set_cons_succ, List.set_cons_zero]
        refine flow_val ?_ rfl (by kernel_rfl) (by rfl) (fun W hW => ?_) ?_
        rotate_left 1
        · subst hW; have c1 : (wr.drew).cell? ⟨w.heap.size, 1, none⟩ = some (.int .i64 k.ack) := HD1.out; go_simp <;> with_reducible rfl
        simp only [Act.put, List.setIfInBounds_toArray, List.set_cons_succ, List.set_cons_zero]
        refine flow_val ?_ rfl (by kernel_rfl) (by rfl) (fun W hW => ?_) ?_
        rotate_left 1
        · go_simp <;> with_reducible rfl
        simp only [Act.put, List.setIfInBounds_toArray, List.set_cons_succ, List.set_cons_zero]
        refine flow_done ?_
        intro W hW
        subst hW
        go_wp2_with fail
        go_roundw
        case rel =>
          have hkf : keepL k.ack zs[kk] = false := by rw [HZ.out, HKL.out]; simp; omega
          have hf2 := HFT.out
          rw [← HZ.out, hkf] at hf2
          simp only [Bool.false_eq_true, if_false] at hf2
          refine ⟨kk + 1, hlt, by go_num, ?_, HF.out.drew⟩
          rw [hf2, HMM.out]
          exact HMM.out ▸ HOW.out
        case measure => simp [intOf]; omega
    · obtain rfl : kk = zs.length := by omega
      have hfa : zs.take zs.length = zs := List.take_length
      have hmap : (zs.filter (keepL k.ack)).map (·.it) = onL s k := by
        unfold onL
        rw [← HZS.out, List.filter_map]
        rfl
      have HOZ : Hid (wr.ownsRow w.heap.size 91 4 (.slice Al (zs.filter (keepL k.ack)).length cl) (zs.filter (keepL k.ack)).length ((zs.filter (keepL k.ack)).flatMap encL)) := Lib.hid (by have := HOW.out; rw [hfa] at this; exact this)
      rw [hfa]
      have HMAP := Lib.hid hmap
      have HBY : Hid (∀ z ∈ zs, ByO wr z.bv z.it.body) := Lib.hid (fun z hz => (H3.out z hz).frame (S := []) (T := []) (Fr.of_below HBW.out) (by simp) (by simp))
      clear hmap hfa HOW
      have c0 := cell_at HP1.out 0
      have c2 := cell_at HP1.out 2
      have f0 := frozen_at HP1.out 0
      have f2 := frozen_at HP1.out 2
      have s0 := cell_at HN1.out 0
      have s1 := cell_at HN1.out 1
      have s2 := cell_at HN1.out 2
      have z0 := frozen_at HN1.out 0
      have z1 := frozen_at HN1.out 1
      have z2 := frozen_at HN1.out 2
      have hpn0 : p ≠ w.heap.size := by omega
      have hpn1 : p ≠ w.heap.size + 1 := by omega
      obtain ⟨m, hm⟩ : ∃ m, (zs.filter (keepL k.ack)).length = m := ⟨_, rfl⟩
      have HMM := Lib.hid hm
      rw [hm]
      have HO : Hid (wr.ownsRow 0 91 4 (.slice Al m cl) (zs.filter (keepL k.ack)).length ((zs.filter (keepL k.ack)).flatMap encL)) := Lib.hid (hm ▸ own_low HOZ.out (Nat.zero_le _))
      have HGN : Hid (∀ g, (Value.slice Al m cl).ownBlock = some g → w.heap.size ≤ g) := Lib.hid (fun g hg => (own_block HOZ.out (hm.symm ▸ hg)).1)
      clear hm
      have hq : (k.seq == 0) = false := by simp [HZ0.out]
      have hq2 : (k.seq == s.mark + 1) = false := by simp [HNE.out]
      have hnx : IntKind.i64.wrap (s.mark + 1) = s.mark + 1 := IntWalk.i64_in _ (by omega)
      go_wp2_with fail
      have hE := isx_set0 HP1.out HO.out HMAP.out (fun z hz => HBY.out z (List.mem_filter.1 hz).1)
      have fE : Fr 0 [] (p :: G.toList) w (wr.setCell ⟨p, 0, none⟩ (.slice Al m cl)) := (Fr.of_below HBW.out).setCell (p := ⟨p, 0, none⟩) _ (Nat.zero_le _) (.inl (by simp))
      have hk3 := block_far HN1.out (p := ⟨p, 0, none⟩) (by simpa using hpn1.symm) (.slice Al m cl)
      have hn3 := block_far HN0.out (p := ⟨p, 0, none⟩) (by simpa using hpn0.symm) (.slice Al m cl)
      have hp3 := block_set HP1.out 0 (.slice Al m cl)
      obtain ⟨W0, hW0⟩ : ∃ W0, wr.setCell ⟨p, 0, none⟩ (.slice Al m cl) = W0 := ⟨_, rfl⟩
      rw [hW0] at hE fE hk3 hn3 hp3 ⊢
      have hp3 : W0.heap[p]? = some (.cells #[.slice Al m cl, .int .i64 s.sent, .int .i64 s.mark] 55 (0, 0)) := by simpa using hp3
      have hm3 := cell_at hp3 2
      have hb3 := cell_at hn3 0
      have hs3 := lt_of_block hp3
      have hsn := lt_of_block hn3
      have HE := Lib.hid hE
      have FE := Lib.hid fE
      have HK3 := Lib.hid hk3
      have HN3 := Lib.hid hn3
      have HP3 := Lib.hid hp3
      clear hE fE hk3 hp3 hn3 hW0
      refine wp_region_flow (fun W => Below W0.heap.size W0 W) [0, 1, 2, 3, 4, 5, 6, 7] (by kernel_rfl) (by kernel_rfl) (by kernel_rfl) ((Below.refl _ W0).drew) ?_
      refine flow_val ?_ rfl (by kernel_rfl) (by rfl) (fun W hW => ?_) ?_
      rotate_left 1
      · go_simp <;> with_reducible rfl
      simp only [Act.put, List.setIfInBounds_toArray, List.set_cons_succ, List.set_cons_zero]
      refine flow_val ?_ rfl (by kernel_rfl) (by rfl) (fun W hW => ?_) ?_
      rotate_left 1
      · have c1 : W.cell? ⟨w.heap.size, 0, none⟩ = some (.int .i64 k.seq) := (hW.cell (p := ⟨w.heap.size, 0, none⟩) (hsn)).trans (hb3); go_simp <;> with_reducible rfl
      simp only [Act.put, List.setIfInBounds_toArray, List.set_cons_succ, List.set_cons_zero]
      refine flow_val ?_ rfl (by kernel_rfl) (by rfl) (fun W hW => ?_) ?_
      rotate_left 1
      · go_simp <;> with_reducible rfl
      simp only [Act.put, List.setIfInBounds_toArray, List.set_cons_succ, List.set_cons_zero]
      refine flow_val ?_ rfl (by kernel_rfl) (by rfl) (fun W hW => ?_) ?_
      rotate_left 1
      · go_simp <;> with_reducible rfl
      simp only [Act.put, List.setIfInBounds_toArray, List.set_cons_succ, List.set_cons_zero]
      refine flow_val ?_ rfl (by kernel_rfl) (by rfl) (fun W hW => ?_) ?_
      rotate_left 1
      · go_simp <;> with_reducible rfl
      simp only [Act.put, List.setIfInBounds_toArray, List.set_cons_succ, List.set_cons_zero]
      refine flow_val ?_ rfl (by kernel_rfl) (by rfl) (fun W hW => ?_) ?_
      rotate_left 1
      · have c1 : W.cell? ⟨p, 2, none⟩ = some (.int .i64 s.mark) := (hW.cell (p := ⟨p, 2, none⟩) (hs3)).trans (hm3); go_simp <;> with_reducible rfl
      simp only [Act.put, List.setIfInBounds_toArray, List.set_cons_succ, List.set_cons_zero]
      refine flow_val ?_ rfl (by kernel_rfl) (by rfl) (fun W hW => ?_) ?_
      rotate_left 1
      · go_simp <;> with_reducible rfl
      simp only [Act.put, List.setIfInBounds_toArray, List.set_cons_succ, List.set_cons_zero]
      refine flow_val ?_ rfl (by kernel_rfl) (by rfl) (fun W hW => ?_) ?_
      rotate_left 1
      · go_simp <;> with_reducible rfl
      simp only [Act.put, List.setIfInBounds_toArray, List.set_cons_succ, List.set_cons_zero]
      refine flow_done ?_
      intro W6 hW6
      go_wp2_with fail
      refine wp_region_flow (fun W => Below W0.heap.size W0 W) [0, 1, 2, 3, 4, 5, 6, 7] (by kernel_rfl) (by kernel_rfl) (by kernel_rfl) (hW6.drew) ?_
      refine flow_val ?_ rfl (by kernel_rfl) (by rfl) (fun W hW => ?_) ?_
      rotate_left 1
      · go_simp <;> with_reducible rfl
      simp only [Act.put, List.setIfInBounds_toArray, List.set_cons_succ, List.set_cons_zero]
      refine flow_val ?_ rfl (by kernel_rfl) (by rfl) (fun W hW => ?_) ?_
      rotate_left 1
      · go_simp <;> with_reducible rfl
      simp only [Act.put, List.setIfInBounds_toArray, List.set_cons_succ, List.set_cons_zero]
      refine flow_val ?_ rfl (by kernel_rfl) (by rfl) (fun W hW => ?_) ?_
      rotate_left 1
      · go_simp <;> with_reducible rfl
      simp only [Act.put, List.setIfInBounds_toArray, List.set_cons_succ, List.set_cons_zero]
      refine flow_val ?_ rfl (by kernel_rfl) (by rfl) (fun W hW => ?_) ?_
      rotate_left 1
      · have c1 : W.cell? ⟨p, 2, none⟩ = some (.int .i64 s.mark) := (hW.cell (p := ⟨p, 2, none⟩) (hs3)).trans (hm3); go_simp <;> with_reducible rfl
      simp only [Act.put, List.setIfInBounds_toArray, List.set_cons_succ, List.set_cons_zero]
      refine flow_val ?_ rfl (by kernel_rfl) (by rfl) (fun W hW => ?_) ?_
      rotate_left 1
      · go_simp <;> with_reducible rfl
      simp only [Act.put, List.setIfInBounds_toArray, List.set_cons_succ, List.set_cons_zero]
      refine flow_val ?_ rfl (by kernel_rfl) (by rfl) (fun W hW => ?_) ?_
      rotate_left 1
      · go_simp <;> with_reducible rfl
      simp only [Act.put, List.setIfInBounds_toArray, List.set_cons_succ, List.set_cons_zero]
      refine flow_val ?_ rfl (by kernel_rfl) (by rfl) (fun W hW => ?_) ?_
      rotate_left 1
      · go_simp <;> with_reducible rfl
      simp only [Act.put, List.setIfInBounds_toArray, List.set_cons_succ, List.set_cons_zero]
      refine flow_bar (fun W => W.heap[w.heap.size + 1]? = some (.cells #[.int .i64 0, .int .i64 (s.mark), .slice none 0 0] 43 (0, 0)) ∧ IsX W p (Value.slice Al m cl).ownBlock ⟨onL s k, s.sent, s.mark⟩ ∧ Fr 0 [] (p :: G.toList) w W) (fun _ => True) rfl (by kernel_rfl) (by rfl) (by kernel_rfl) (by kernel_rfl) (fun W hW hC => ?_) ?_
      · obtain hW := hW
        have hk4 := (hW.block _ (lt_of_block HK3.out)).trans HK3.out
        have q0 := cell_at hk4 0
        have q1 := cell_at hk4 1
        have q2 := cell_at hk4 2
        have g0 := frozen_at hk4 0
        have g1 := frozen_at hk4 1
        have g2 := frozen_at hk4 2
        have HK4 := Lib.hid hk4
        have HWW := Lib.hid hW
        have HCC := Lib.hid hC
        clear hC
        clear hk4 hW
        refine ⟨_, by go_simp <;> with_reducible rfl, ⟨?_, ?_, ?_⟩, trivial⟩
        · simpa using block_set (block_set (block_set HK4.out 0 (.int .i64 0)) 1 (.int .i64 (s.mark))) 2 (.slice none 0 0)
        · obtain ⟨W5, hW5, _, _, _, f5, _⟩ := pkt_store HK4.out (.int .i64 0) (.int .i64 (s.mark)) (.slice none 0 0)
          rw [hW5]
          exact (HE.out.below HWW.out).far f5 HK4.out (by decide) (by decide) (by decide)
        · obtain ⟨W5, hW5, _, _, _, _, bl5⟩ := pkt_store HK4.out (.int .i64 0) (.int .i64 (s.mark)) (.slice none 0 0)
          rw [hW5]
          exact (FE.out.then HWW.out).thenB (bl5 w.heap.size (by omega))
      refine flow_done2 ?_
      rintro W ⟨⟨r1, r2, r3⟩, _⟩ _
      have y0 := cell_at r1 0
      have y1 := cell_at r1 1
      have y2 := cell_at r1 2
      clear r1
      go_wp2
      refine bodyPost_ret (v := .tuple #[.slice none 0 0, .bool false, .agg #[.int .i64 0, .int .i64 (s.mark), .slice none 0 0]]) (by simp [results, Try.f25, go_sem, y0, y1, y2]) rfl ?_
      exact ⟨_, ⟨_, _, rfl, (byo_nil _).bs, ⟨_, rfl, byo_nil _⟩⟩, r2, r3, fun g hg => .inr (HGN.out g hg)⟩

set_option maxRecDepth 100000 in
set_option maxHeartbeats 1000000 in
theorem ron_next (p : Nat) (G : Option Nat) (s : LSt) (k : LPk) (A : Option Addr) (c : Nat) (w : World) (h : IsX w p G s) (hl : k.body.length ≤ 2048) (hm : mayL k = true) (hn : s.l.length ≤ 1048576) (hmk : 0 ≤ s.mark ∧ s.mark < 9223372036854775807) (hb : ∀ W', Fr 0 [] (p :: G.toList) w W' → Bs W' (.slice A k.body.length c) k.body) (h256 : ∀ b ∈ k.body, b < 256) (hz : k.seq ≠ 0) (hne : k.seq = s.mark + 1) :
    Calls Try.prog 25 #[.pointer (some ⟨p, 0, none⟩), .agg #[.int .i64 k.seq, .int .i64 k.ack, .slice A k.body.length c]] w
      (RetX p G (fun e w' => ∃ bv v3, e = .returned (.tuple #[bv, .bool true, v3]) ∧ Bs w' bv k.body ∧ IsP w' v3 ⟨0, s.mark + 1, []⟩) ⟨onL s k, s.sent, s.mark + 1⟩ w) := by
  have HM : Hid (∀ wx, Calls Try.prog 32 #[.agg #[.int .i64 k.seq, .int .i64 k.ack, .slice A k.body.length c]] wx fun e w' => e = .returned (.bool true) ∧ Below wx.heap.size wx w') := Lib.hid (fun wx => by
    have := rmay_any k A c wx (by omega)
    rw [hm] at this
    exact this)
  obtain ⟨i0, hi0, hz0, hz1, hz2⟩ := info_parts Try.infoRItem
  obtain ⟨i1, hi1, hy0, hy1, hy2⟩ := info_parts Try.infoByte
  obtain ⟨v, h1, zs, hzs, h2, hG, h3⟩ := h
  have hzl : zs.length = s.l.length := by rw [← hzs]; simp
  rw [← hzl] at h2 hn
  obtain ⟨Av, cv, rfl, _, _, hrd, _⟩ := own_slice h2
  clear hzl
  have hpl := lt_of_block h1
  have H1 := Lib.hid h1
  have H3 := Lib.hid h3
  have HZS := Lib.hid hzs
  have HRD := Lib.hid hrd
  have HZ0 := Lib.hid hz
  have HNE := Lib.hid hne
  have HBs := Lib.hid hb
  have H256 := Lib.hid h256
  clear hz hne hb h256
  clear h1 h2 h3 hm hzs hG hrd
  go_enter Try.func25, Try.ntmps25
  go_wp2_with fail
  refine (HM.out _).mono ?_
  rintro e w1 ⟨rfl, hb1⟩
  have hbA : Below w.heap.size w ((w.alloc (.cells #[.int .i64 k.seq, .int .i64 k.ack, .slice A k.body.length c] 43)).alloc (.cells #[.int .i64 0, .int .i64 0, .slice none 0 0] 43)) := ((Below.refl _ w).alloc (Nat.le_refl _) _).alloc (by simp) _
  have hb : Below w.heap.size w w1 := hbA.trans (hb1.mono hbA.size)
  have b3 := block_alloc (block_new w (.cells #[.int .i64 k.seq, .int .i64 k.ack, .slice A k.body.length c] 43)) (.cells #[.int .i64 0, .int .i64 0, .slice none 0 0] 43)
  have b4 := block_new (w.alloc (.cells #[.int .i64 k.seq, .int .i64 k.ack, .slice A k.body.length c] 43)) (.cells #[.int .i64 0, .int .i64 0, .slice none 0 0] 43)
  simp only [World.size_alloc] at b4
  have n0 := (hb1.block w.heap.size (by simp; omega)).trans b3
  have n1 := (hb1.block (w.heap.size + 1) (by simp)).trans b4
  have N0 := Lib.hid n0
  have N1 := Lib.hid n1
  have HB := Lib.hid hb
  clear hbA b3 b4 n0 n1 hb1 hb
  go_wp2_with fail
  go_loopw [7, 8] (fun lv kv wr => ∃ kk : Nat, kk ≤ zs.length ∧ kv = .int .i64 kk ∧ wr.ownsRow w.heap.size 91 4 lv ((zs.take kk).filter (keepL k.ack)).length (((zs.take kk).filter (keepL k.ack)).flatMap encL) ∧ Fr w.heap.size [91] [] w1 wr) (fun _ kv _ => zs.length - (intOf kv).toNat)
  case atStart => exact ⟨0, Nat.zero_le _, rfl, World.ownsRow_nil _ _ _ _, Fr.refl _⟩
  case round =>
    obtain ⟨kk, hk, rfl, hown, hF⟩ := hrel
    have hsz1 : w.heap.size ≤ w1.heap.size := HB.out.size
    have hbw : Below w.heap.size w wr := HB.out.trans (hF.below hsz1)
    have p1 := (hbw.block p hpl).trans H1.out
    have c0 := cell_at p1 0
    have n0 := hF.keep N0.out (by decide) (by simp)
    have n1 := hF.keep N1.out (by decide) (by simp)
    have d0 := cell_at n0 0
    have d1 := cell_at n0 1
    have d2 := cell_at n0 2
    have HP1 := Lib.hid p1
    have HN0 := Lib.hid n0
    have HN1 := Lib.hid n1
    have HOW := Lib.hid hown
    have HF := Lib.hid hF
    have HBW := Lib.hid hbw
    obtain ⟨Al, cl, rfl, _, _, _, _⟩ := own_slice hown
    clear p1 n0 n1 hown hF hbw
    by_cases hlt : kk < zs.length
    · obtain ⟨g, o, rfl, hg, hcell⟩ := HRD.out.2 (by omega)
      have hat := fun j (hj : j < 4) => flatL_at zs kk j hlt hj
      have hby := (H3.out zs[kk] (List.getElem_mem _)).frame (S := []) (T := []) (Fr.of_below HBW.out) (by simp) (by simp)
      obtain ⟨Ab, nb, cb, hbv⟩ := bv_form hby
      have hft := filter_take (keepL k.ack) zs kk hlt
      have hkl : keepL k.ack zs[kk] = !decide (zs[kk].it.seq ≤ k.ack) := rfl
      have k0 : wr.cell? ⟨g, o + kk * 4, none⟩ = some (.int .i64 zs[kk].it.seq) := (HBW.out.cell (p := ⟨g, o + kk * 4, none⟩) hg).trans (hcell (kk * 4 + 0) _ ((hat 0 (by omega)).trans (by simp only [encL]; rfl)))
      have k1 : wr.cell? ⟨g, o + kk * 4 + 1, none⟩ = some (.slice Ab nb cb) := (HBW.out.cell (p := ⟨g, o + kk * 4 + 1, none⟩) hg).trans (hcell (kk * 4 + 1) _ ((hat 1 (by omega)).trans (by simp only [encL, hbv]; rfl)))
      have k2 : wr.cell? ⟨g, o + kk * 4 + 2, none⟩ = some (.int .i64 zs[kk].it.tries) := (HBW.out.cell (p := ⟨g, o + kk * 4 + 2, none⟩) hg).trans (hcell (kk * 4 + 2) _ ((hat 2 (by omega)).trans (by simp only [encL]; rfl)))
      have k3 : wr.cell? ⟨g, o + kk * 4 + 3, none⟩ = some (.int .i64 zs[kk].it.due) := (HBW.out.cell (p := ⟨g, o + kk * 4 + 3, none⟩) hg).trans (hcell (kk * 4 + 3) _ ((hat 3 (by omega)).trans (by simp only [encL]; rfl)))
      obtain ⟨z, hz⟩ : ∃ z, zs[kk] = z := ⟨_, rfl⟩
      rw [hz] at k0 k2 k3 hft hkl hbv
      have HZ := Lib.hid hz
      have HFT := Lib.hid hft
      have HKL := Lib.hid hkl
      have HBV := Lib.hid hbv
      have HC0 := Lib.hid c0
      have HD1 := Lib.hid d1
      have HK0 := Lib.hid k0
      obtain ⟨m, hm⟩ : ∃ m, ((zs.take kk).filter (keepL k.ack)).length = m := ⟨_, rfl⟩
      have HMM := Lib.hid hm
      have hmk : m ≤ kk := by rw [← hm]; exact Nat.le_trans (List.length_filter_le _ _) (by simp; omega)
      rw [hm]
      clear hat hcell hft hkl hbv hz hby hm
      by_cases hd : k.ack < z.it.seq
      · have hgt : decide (k.ack < z.it.seq) = true := by simpa using hd
        have HOW' : Hid (wr.ownsRow w.heap.size 91 4 (.slice Al m cl) m (((zs.take kk).filter (keepL k.ack)).flatMap encL)) := Lib.hid (HMM.out ▸ HOW.out)
        go_wp2_with fail
        refine wp_region_flow (fun W => W = wr.drew) [0, 1, 2, 3, 4, 5, 6, 7, 8, 9, 10] (by kernel_rfl) (by kernel_rfl) (by kernel_rfl) (rfl) ?_
        refine flow_val ?_ rfl (by kernel_rfl) (by rfl) (fun W hW => ?_) ?_
        rotate_left 1
        · go_simp <;> with_reducible rfl
        simp only [Act.put, List.setIfInBounds_toArray, List.set_cons_succ, List.set_cons_zero]
        refine flow_val ?_ rfl (by kernel_rfl) (by rfl) (fun W hW => ?_) ?_
        rotate_left 1
        · go_simp <;> with_reducible rfl
        simp only [Act.put, List.setIfInBounds_toArray, List.set_cons_succ, List.set_cons_zero]
        refine flow_val ?_ rfl (by kernel_rfl) (by rfl) (fun W hW => ?_) ?_
        rotate_left 1
        · go_simp <;> with_reducible rfl
        simp only [Act.put, List.setIfInBounds_toArray, List.set_cons_succ, List.set_cons_zero]
        refine flow_val ?_ rfl (by kernel_rfl) (by rfl) (fun W hW => ?_) ?_
        rotate_left 1
        · subst hW; have c1 : (wr.drew).cell? ⟨p, 0, none⟩ = some (.slice (some ⟨g, o, none⟩) zs.length cv) := HC0.out; go_simp <;> with_reducible rfl
        simp only [Act.put, List.setIfInBounds_toArray, List.set_cons_succ, List.set_cons_zero]
        refine flow_val ?_ rfl (by kernel_rfl) (by rfl) (fun W hW => ?_) ?_
        rotate_left 1
        · go_simp <;> with_reducible rfl
        simp only [Act.put, List.setIfInBounds_toArray, List.set_cons_succ, List.set_cons_zero]
        refine flow_val ?_ rfl (by kernel_rfl) (by rfl) (fun W hW => ?_) ?_
        rotate_left 1
        · go_simp <;> with_reducible rfl
        simp only [Act.put, List.setIfInBounds_toArray, List.set_cons_succ, List.set_cons_zero]
        refine flow_val ?_ rfl (by kernel_rfl) (by rfl) (fun W hW => ?_) ?_
        rotate_left 1
        · go_simp <;> with_reducible rfl
        simp only [Act.put, List.setIfInBounds_toArray, List.set_cons_succ, List.set_cons_zero]
        refine flow_val ?_ rfl (by kernel_rfl) (by rfl) (fun W hW => ?_) ?_
        rotate_left 1
        · subst hW; have c1 : (wr.drew).cell? ⟨g, o + kk * 4, none⟩ = some (.int .i64 z.it.seq) := HK0.out; go_simp <;> with_reducible rfl
        simp only [Act.put, List.setIfInBounds_toArray, List.set_cons_succ, List.set_cons_zero]
        refine flow_val ?_ rfl (by kernel_rfl) (by rfl) (fun W hW => ?_) ?_
        rotate_left 1
        · go_simp <;> with_reducible rfl
        simp only [Act.put, List.setIfInBounds_toArray, List.set_cons_succ, List.set_cons_zero]
        refine flow_val ?_ rfl (by kernel_rfl) (by rfl) (fun W hW => ?_) ?_
        rotate_left 1
        · subst hW; have c1 : (wr.drew).cell? ⟨w.heap.size, 1, none⟩ = some (.int .i64 k.ack) := HD1.out; go_simp <;> with_reducible rfl
        simp only [Act.put, List.setIfInBounds_toArray, List.set_cons_succ, List.set_cons_zero]
        refine flow_val ?_ rfl (by kernel_rfl) (by rfl) (fun W hW => ?_) ?_
        rotate_left 1
        · go_simp <;> with_reducible rfl
        simp only [Act.put, List.setIfInBounds_toArray, List.set_cons_succ, List.set_cons_zero]
        refine flow_done ?_
        intro W hW
        subst hW
        have HRN : Hid (Rd ((wr.alloc (.cells #[.int .i64 z.it.seq, .slice Ab nb cb, .int .i64 z.it.tries, .int .i64 z.it.due] 91)).drew) 4 (some ⟨wr.heap.size, 0, none⟩) 1 [.int .i64 z.it.seq, .slice Ab nb cb, .int .i64 z.it.tries, .int .i64 z.it.due]) := Lib.hid (rd_new wr rfl)
        have HO3 := Lib.hid ((Fr.of_below (B := 0) (T := []) (S := []) (((Below.refl _ wr).alloc (Nat.le_refl _) (.cells #[.int .i64 z.it.seq, .slice Ab nb cb, .int .i64 z.it.tries, .int .i64 z.it.due] 91)).drew)).own HOW'.out (by simp) (by simp))
        have hwsz : w.heap.size ≤ wr.heap.size := HBW.out.size
        go_wp2_with (first
          | (at_builtin
             refine wpList_append_rd_at _ rfl (.tmp 33) (.tmp 41) 53 rfl w.heap.size 91 i0 (.agg #[.int .i64 0, .slice none 0 0, .int .i64 0, .int .i64 0]) 4 48 Try.underlying53 hi0 hz0 hz1 hz2 rfl (by decide) (.slice Al m cl) _ _ rfl HO3.out (some ⟨wr.heap.size, 0, none⟩) 1 1 [.int .i64 z.it.seq, .slice Ab nb cb, .int .i64 z.it.tries, .int .i64 z.it.due] rfl HRN.out (by simp [Value.oneCell']) (by unfold maxLen; omega) (by omega) (by simp; omega) ?_
             intro v5 w5 hown5 hgrow5 _
             have HO5 := Lib.hid hown5
             have F5 := Lib.hid ((Fr.of_below (B := w.heap.size) (T := [91]) (S := []) ((Below.refl _ wr).alloc (Nat.le_refl _) (.cells #[.int .i64 z.it.seq, .slice Ab nb cb, .int .i64 z.it.tries, .int .i64 z.it.due] 91)).drew).grown hgrow5 (fun j hj => by
               obtain ⟨hbs, cs, hc⟩ := own_block HO3.out hj
               exact ⟨hbs, .inr ⟨cs, _, _, hc, by simp⟩⟩))
             clear hown5 hgrow5))
        go_roundw
        case rel =>
          have hkf : keepL k.ack zs[kk] = true := by rw [HZ.out, HKL.out]; simp; omega
          have hf2 := HFT.out
          rw [← HZ.out, hkf] at hf2
          simp only [if_true] at hf2
          refine ⟨kk + 1, hlt, by go_num, ?_, HF.out.trans F5.out⟩
          rw [hf2, List.flatMap_append, List.length_append, HMM.out, HZ.out]
          have e : [z].flatMap encL = [.int .i64 z.it.seq, .slice Ab nb cb, .int .i64 z.it.tries, .int .i64 z.it.due] := by simp [encL, HBV.out]
          rw [e]
          exact HO5.out
        case measure => simp [intOf]; omega
      · have hgt : decide (k.ack < z.it.seq) = false := by simpa using hd
        go_wp2_with fail
        refine wp_region_flow (fun W => W = wr.drew) [0, 1, 2, 3, 4, 5, 6, 7, 8, 9, 10] (by kernel_rfl) (by kernel_rfl) (by kernel_rfl) (rfl) ?_
        refine flow_val ?_ rfl (by kernel_rfl) (by rfl) (fun W hW => ?_) ?_
        rotate_left 1
        · go_simp <;> with_reducible rfl
        simp only [Act.put, List.setIfInBounds_toArray, List.set_cons_succ, List.set_cons_zero]
        refine flow_val ?_ rfl (by kernel_rfl) (by rfl) (fun W hW => ?_) ?_
        rotate_left 1
        · go_simp <;> with_reducible rfl
        simp only [Act.put, List.setIfInBounds_toArray, List.set_cons_succ, List.set_cons_zero]
        refine flow_val ?_ rfl (by kernel_rfl) (by rfl) (fun W hW => ?_) ?_
        rotate_left 1
        · go_simp <;> with_reducible rfl
        simp only [Act.put, List.setIfInBounds_toArray, List.set_cons_succ, List.set_cons_zero]
        refine flow_val ?_ rfl (by kernel_rfl) (by rfl) (fun W hW => ?_) ?_
        rotate_left 1
        · subst hW; have c1 : (wr.drew).cell? ⟨p, 0, none⟩ = some (.slice (some ⟨g, o, none⟩) zs.length cv) := HC0.out; go_simp <;> with_reducible rfl
        simp only [Act.put, List.setIfInBounds_toArray, List.set_cons_succ, List.set_cons_zero]
        refine flow_val ?_ rfl (by kernel_rfl) (by rfl) (fun W hW => ?_) ?_
        rotate_left 1
        · go_simp <;> with_reducible rfl
        simp only [Act.put, List.setIfInBounds_toArray, List.set_cons_succ, List.set_cons_zero]
        refine flow_val ?_ rfl (by kernel_rfl) (by rfl) (fun W hW => ?_) ?_
        rotate_left 1
        · go_simp <;> with_reducible rfl
        simp only [Act.put, List.setIfInBounds_toArray, List.set_cons_succ, List.set_cons_zero]
        refine flow_val ?_ rfl (by kernel_rfl) (by rfl) (fun W hW => ?_) ?_
        rotate_left 1
        · go_simp <;> with_reducible rfl
        simp only [Act.put, List.setIfInBounds_toArray, List.set_cons_succ, List.set_cons_zero]
        refine flow_val ?_ rfl (by kernel_rfl) (by rfl) (fun W hW => ?_) ?_
        rotate_left 1
        · subst hW; have c1 : (wr.drew).cell? ⟨g, o + kk * 4, none⟩ = some (.int .i64 z.it.seq) := HK0.out; go_simp <;> with_reducible rfl
        simp only [Act.put, List.setIfInBounds_toArray, List.set_cons_succ, List.set_cons_zero]
        refine flow_val ?_ rfl (by kernel_rfl) (by rfl) (fun W hW => ?_) ?_
        rotate_left 1
        · go_simp <;> with_reducible rfl
        simp only [Act.put, List.setIfInBounds_toArray, List.set_cons_succ, List.set_cons_zero]
        refine flow_val ?_ rfl (by kernel_rfl) (by rfl) (fun W hW => ?_) ?_
        rotate_left 1
        · subst hW; have c1 : (wr.drew).cell? ⟨w.heap.size, 1, none⟩ = some (.int .i64 k.ack) := HD1.out; go_simp <;> with_reducible rfl
        simp only [Act.put, List.setIfInBounds_toArray, List.set_cons_succ, List.set_cons_zero]
        refine flow_val ?_ rfl (by kernel_rfl) (by rfl) (fun W hW => ?_) ?_
        rotate_left 1
        · go_simp <;> with_reducible rfl
        simp only [Act.put, List.setIfInBounds_toArray, List.set_cons_succ, List.set_cons_zero]
        refine flow_done ?_
        intro W hW
        subst hW
        go_wp2_with fail
        go_roundw
        case rel =>
          have hkf : keepL k.ack zs[kk] = false := by rw [HZ.out, HKL.out]; simp; omega
          have hf2 := HFT.out
          rw [← HZ.out, hkf] at hf2
          simp only [Bool.false_eq_true, if_false] at hf2
          refine ⟨kk + 1, hlt, by go_num, ?_, HF.out.drew⟩
          rw [hf2, HMM.out]
          exact HMM.out ▸ HOW.out
        case measure => simp [intOf]; omega
    · obtain rfl : kk = zs.length := by omega
      have hfa : zs.take zs.length = zs := List.take_length
      have hmap : (zs.filter (keepL k.ack)).map (·.it) = onL s k := by
        unfold onL
        rw [← HZS.out, List.filter_map]
        rfl
      have HOZ : Hid (wr.ownsRow w.heap.size 91 4 (.slice Al (zs.filter (keepL k.ack)).length cl) (zs.filter (keepL k.ack)).length ((zs.filter (keepL k.ack)).flatMap encL)) := Lib.hid (by have := HOW.out; rw [hfa] at this; exact this)
      rw [hfa]
      have HMAP := Lib.hid hmap
      have HBY : Hid (∀ z ∈ zs, ByO wr z.bv z.it.body) := Lib.hid (fun z hz => (H3.out z hz).frame (S := []) (T := []) (Fr.of_below HBW.out) (by simp) (by simp))
      clear hmap hfa HOW
      have c0 := cell_at HP1.out 0
      have c2 := cell_at HP1.out 2
      have f0 := frozen_at HP1.out 0
      have f2 := frozen_at HP1.out 2
      have s0 := cell_at HN1.out 0
      have s1 := cell_at HN1.out 1
      have s2 := cell_at HN1.out 2
      have z0 := frozen_at HN1.out 0
      have z1 := frozen_at HN1.out 1
      have z2 := frozen_at HN1.out 2
      have hpn0 : p ≠ w.heap.size := by omega
      have hpn1 : p ≠ w.heap.size + 1 := by omega
      obtain ⟨m, hm⟩ : ∃ m, (zs.filter (keepL k.ack)).length = m := ⟨_, rfl⟩
      have HMM := Lib.hid hm
      rw [hm]
      have HO : Hid (wr.ownsRow 0 91 4 (.slice Al m cl) (zs.filter (keepL k.ack)).length ((zs.filter (keepL k.ack)).flatMap encL)) := Lib.hid (hm ▸ own_low HOZ.out (Nat.zero_le _))
      have HGN : Hid (∀ g, (Value.slice Al m cl).ownBlock = some g → w.heap.size ≤ g) := Lib.hid (fun g hg => (own_block HOZ.out (hm.symm ▸ hg)).1)
      clear hm
      have hq : (k.seq == 0) = false := by simp [HZ0.out]
      have hq2 : (k.seq == s.mark + 1) = true := by simp [HNE.out]
      have hnx : IntKind.i64.wrap (s.mark + 1) = s.mark + 1 := IntWalk.i64_in _ (by omega)
      go_wp2_with fail
      have hE := isx_set0 HP1.out HO.out HMAP.out (fun z hz => HBY.out z (List.mem_filter.1 hz).1)
      have fE : Fr 0 [] (p :: G.toList) w (wr.setCell ⟨p, 0, none⟩ (.slice Al m cl)) := (Fr.of_below HBW.out).setCell (p := ⟨p, 0, none⟩) _ (Nat.zero_le _) (.inl (by simp))
      have hk3 := block_far HN1.out (p := ⟨p, 0, none⟩) (by simpa using hpn1.symm) (.slice Al m cl)
      have hn3 := block_far HN0.out (p := ⟨p, 0, none⟩) (by simpa using hpn0.symm) (.slice Al m cl)
      have hp3 := block_set HP1.out 0 (.slice Al m cl)
      obtain ⟨W0, hW0⟩ : ∃ W0, wr.setCell ⟨p, 0, none⟩ (.slice Al m cl) = W0 := ⟨_, rfl⟩
      rw [hW0] at hE fE hk3 hn3 hp3 ⊢
      have hp3 : W0.heap[p]? = some (.cells #[.slice Al m cl, .int .i64 s.sent, .int .i64 s.mark] 55 (0, 0)) := by simpa using hp3
      have hm3 := cell_at hp3 2
      have hb3 := cell_at hn3 0
      have hs3 := lt_of_block hp3
      have hsn := lt_of_block hn3
      have HE := Lib.hid hE
      have FE := Lib.hid fE
      have HK3 := Lib.hid hk3
      have HN3 := Lib.hid hn3
      have HP3 := Lib.hid hp3
      clear hE fE hk3 hp3 hn3 hW0
      refine wp_region_flow (fun W => Below W0.heap.size W0 W) [0, 1, 2, 3, 4, 5, 6, 7] (by kernel_rfl) (by kernel_rfl) (by kernel_rfl) ((Below.refl _ W0).drew) ?_
      refine flow_val ?_ rfl (by kernel_rfl) (by rfl) (fun W hW => ?_) ?_
      rotate_left 1
      · go_simp <;> with_reducible rfl
      simp only [Act.put, List.setIfInBounds_toArray, List.set_cons_succ, List.set_cons_zero]
      refine flow_val ?_ rfl (by kernel_rfl) (by rfl) (fun W hW => ?_) ?_
      rotate_left 1
      · have c1 : W.cell? ⟨w.heap.size, 0, none⟩ = some (.int .i64 k.seq) := (hW.cell (p := ⟨w.heap.size, 0, none⟩) (hsn)).trans (hb3); go_simp <;> with_reducible rfl
      simp only [Act.put, List.setIfInBounds_toArray, List.set_cons_succ, List.set_cons_zero]
      refine flow_val ?_ rfl (by kernel_rfl) (by rfl) (fun W hW => ?_) ?_
      rotate_left 1
      · go_simp <;> with_reducible rfl
      simp only [Act.put, List.setIfInBounds_toArray, List.set_cons_succ, List.set_cons_zero]
      refine flow_val ?_ rfl (by kernel_rfl) (by rfl) (fun W hW => ?_) ?_
      rotate_left 1
      · go_simp <;> with_reducible rfl
      simp only [Act.put, List.setIfInBounds_toArray, List.set_cons_succ, List.set_cons_zero]
      refine flow_val ?_ rfl (by kernel_rfl) (by rfl) (fun W hW => ?_) ?_
      rotate_left 1
      · go_simp <;> with_reducible rfl
      simp only [Act.put, List.setIfInBounds_toArray, List.set_cons_succ, List.set_cons_zero]
      refine flow_val ?_ rfl (by kernel_rfl) (by rfl) (fun W hW => ?_) ?_
      rotate_left 1
      · have c1 : W.cell? ⟨p, 2, none⟩ = some (.int .i64 s.mark) := (hW.cell (p := ⟨p, 2, none⟩) (hs3)).trans (hm3); go_simp <;> with_reducible rfl
      simp only [Act.put, List.setIfInBounds_toArray, List.set_cons_succ, List.set_cons_zero]
      refine flow_val ?_ rfl (by kernel_rfl) (by rfl) (fun W hW => ?_) ?_
      rotate_left 1
      · go_simp <;> with_reducible rfl
      simp only [Act.put, List.setIfInBounds_toArray, List.set_cons_succ, List.set_cons_zero]
      refine flow_val ?_ rfl (by kernel_rfl) (by rfl) (fun W hW => ?_) ?_
      rotate_left 1
      · go_simp <;> with_reducible rfl
      simp only [Act.put, List.setIfInBounds_toArray, List.set_cons_succ, List.set_cons_zero]
      refine flow_done ?_
      intro W6 hW6
      have hmx : s.mark + 1 ≤ 9223372036854775807 := by omega
      have hp6 := (hW6.block _ hs3).trans HP3.out
      have hk6 := (hW6.block _ (lt_of_block HK3.out)).trans HK3.out
      have hn6 := (hW6.block _ hsn).trans HN3.out
      have hE6 := HE.out.below hW6
      have fE6 := FE.out.then hW6
      have m6 := cell_at hp6 2
      have z6 := frozen_at hp6 2
      have HP6 := Lib.hid hp6
      have HK6 := Lib.hid hk6
      have HN6 := Lib.hid hn6
      have HE6 := Lib.hid hE6
      have FE6 := Lib.hid fE6
      clear hp6 hk6 hn6 hE6 fE6 hW6 hm3 hb3 hs3 hsn HK3 HE FE HN3 HP3
      go_wp2_with fail
      have hE := isx_mark HE6.out (s.mark + 1)
      have fE : Fr 0 [] (p :: G.toList) w (W6.setCell ⟨p, 2, none⟩ (.int .i64 (s.mark + 1))) := FE6.out.setCell (p := ⟨p, 2, none⟩) _ (Nat.zero_le _) (.inl (by simp))
      have hk3 := block_far HK6.out (p := ⟨p, 2, none⟩) (by simpa using hpn1.symm) (.int .i64 (s.mark + 1))
      have hn3 := block_far HN6.out (p := ⟨p, 2, none⟩) (by simpa using hpn0.symm) (.int .i64 (s.mark + 1))
      have hp3 := block_set HP6.out 2 (.int .i64 (s.mark + 1))
      obtain ⟨W7, hW7⟩ : ∃ W7, W6.setCell ⟨p, 2, none⟩ (.int .i64 (s.mark + 1)) = W7 := ⟨_, rfl⟩
      rw [hW7] at hE fE hk3 hn3 hp3 ⊢
      have hp3 : W7.heap[p]? = some (.cells #[.slice Al m cl, .int .i64 s.sent, .int .i64 (s.mark + 1)] 55 (0, 0)) := by simpa using hp3
      have hm3 := cell_at hp3 2
      have hb3 := cell_at hn3 2
      have hs3 := lt_of_block hp3
      have hsn := lt_of_block hn3
      have HE := Lib.hid hE
      have FE := Lib.hid fE
      have HK3 := Lib.hid hk3
      clear hE fE hk3 hp3 hn3 hW7 m6 z6
      refine wp_region_flow (fun W => Below W7.heap.size W7 W) [1, 2, 4, 5, 6, 7, 8, 0, 3, 9, 10, 11] (by kernel_rfl) (by kernel_rfl) (by kernel_rfl) ((Below.refl _ W7).drew) ?_
      refine flow_val ?_ rfl (by kernel_rfl) (by rfl) (fun W hW => ?_) ?_
      rotate_left 1
      · go_simp <;> with_reducible rfl
      simp only [Act.put, List.setIfInBounds_toArray, List.set_cons_succ, List.set_cons_zero]
      refine flow_val ?_ rfl (by kernel_rfl) (by rfl) (fun W hW => ?_) ?_
      rotate_left 1
      · have c1 : W.cell? ⟨w.heap.size, 2, none⟩ = some (.slice A k.body.length c) := (hW.cell (p := ⟨w.heap.size, 2, none⟩) (hsn)).trans (hb3); go_simp <;> with_reducible rfl
      simp only [Act.put, List.setIfInBounds_toArray, List.set_cons_succ, List.set_cons_zero]
      refine flow_val ?_ rfl (by kernel_rfl) (by rfl) (fun W hW => ?_) ?_
      rotate_left 1
      · go_simp <;> with_reducible rfl
      simp only [Act.put, List.setIfInBounds_toArray, List.set_cons_succ, List.set_cons_zero]
      refine flow_val ?_ rfl (by kernel_rfl) (by rfl) (fun W hW => ?_) ?_
      rotate_left 1
      · go_simp <;> with_reducible rfl
      simp only [Act.put, List.setIfInBounds_toArray, List.set_cons_succ, List.set_cons_zero]
      refine flow_val ?_ rfl (by kernel_rfl) (by rfl) (fun W hW => ?_) ?_
      rotate_left 1
      · go_simp <;> with_reducible rfl
      simp only [Act.put, List.setIfInBounds_toArray, List.set_cons_succ, List.set_cons_zero]
      refine flow_val ?_ rfl (by kernel_rfl) (by rfl) (fun W hW => ?_) ?_
      rotate_left 1
      · have c1 : W.cell? ⟨p, 2, none⟩ = some (.int .i64 (s.mark + 1)) := (hW.cell (p := ⟨p, 2, none⟩) (hs3)).trans (hm3); go_simp <;> with_reducible rfl
      simp only [Act.put, List.setIfInBounds_toArray, List.set_cons_succ, List.set_cons_zero]
      refine flow_val ?_ rfl (by kernel_rfl) (by rfl) (fun W hW => ?_) ?_
      rotate_left 1
      · go_simp <;> with_reducible rfl
      simp only [Act.put, List.setIfInBounds_toArray, List.set_cons_succ, List.set_cons_zero]
      refine flow_gmake (fun v W => ∃ g', v = .slice (some ⟨g', 0, none⟩) 0 0 ∧ W.ownsRow W7.heap.size 5 1 (.slice (some ⟨g', 0, none⟩) 0 0) 0 []) rfl (by kernel_rfl) (by rfl) (by kernel_rfl) (fun W hW hC => ⟨_, _, by go_simp <;> with_reducible rfl, hW.alloc hW.size _, ⟨_, rfl, own_low (own_of_cells W #[] 0 (Nat.zero_le _) rfl) hW.size⟩⟩) ?_
      rintro v66 ⟨_, _, g', rfl, _⟩
      simp only [Act.put, List.setIfInBounds_toArray, List.set_cons_succ, List.set_cons_zero]
      refine flow_gmake (fun v W => ByO W v k.body) rfl (by kernel_rfl) (by rfl) (by kernel_rfl) (fun W hW hC => ?_) ?_
      · obtain ⟨g2, e2, ho2⟩ := hC
        injection e2 with e2 _ _
        injection e2 with e2
        injection e2 with e2 _ _
        subst e2
        refine exec_append_rd (.tmp 66) (.tmp 68) 41 rfl W7.heap.size 5 i1 (.int .u8 0) 1 1 Try.underlying41 hi1 hy0 hy1 hy2 rfl (by decide) (.slice (some ⟨g', 0, none⟩) 0 0) 0 [] rfl ho2 A k.body.length c (k.body.map u8v) rfl (bs_rd (HBs.out W (FE.out.then hW.1))) (u8_one' _) (by unfold maxLen; omega) (by omega) hW.1.size (fun v' w' x2 x3 => ?_)
        have fx : Fr W7.heap.size [5] [] W w' := (Fr.refl W).grown x3 (fun j hj => by
          obtain ⟨hb, cs, hc⟩ := own_block ho2 hj
          exact ⟨hb, .inr ⟨cs, _, _, hc, by simp⟩⟩)
        exact ⟨⟨hW.1.trans (fx.below hW.1.size), trivial⟩, RowU.of (own_low (by simpa using x2) (Nat.zero_le _)), H256.out⟩
      rintro v69 ⟨_, _, hv69⟩
      simp only [Act.put, List.setIfInBounds_toArray, List.set_cons_succ, List.set_cons_zero]
      obtain ⟨A69, c69, rfl, _, _, _, _⟩ := byo_slice hv69
      clear hv69
      refine flow_val ?_ rfl (by kernel_rfl) (by rfl) (fun W hW => ?_) ?_
      rotate_left 1
      · go_simp <;> with_reducible rfl
      simp only [Act.put, List.setIfInBounds_toArray, List.set_cons_succ, List.set_cons_zero]
      refine flow_val ?_ rfl (by kernel_rfl) (by rfl) (fun W hW => ?_) ?_
      rotate_left 1
      · go_simp <;> with_reducible rfl
      simp only [Act.put, List.setIfInBounds_toArray, List.set_cons_succ, List.set_cons_zero]
      refine flow_bar (fun W => W.heap[w.heap.size + 1]? = some (.cells #[.int .i64 0, .int .i64 (s.mark + 1), .slice none 0 0] 43 (0, 0)) ∧ IsX W p (Value.slice Al m cl).ownBlock ⟨onL s k, s.sent, s.mark + 1⟩ ∧ Fr 0 [] (p :: G.toList) w W ∧ ByO W (.slice A69 k.body.length c69) k.body) (fun _ => True) rfl (by kernel_rfl) (by rfl) (by kernel_rfl) (by kernel_rfl) (fun W hW hC => ?_) ?_
      · obtain hW := hW.1.1
        have hk4 := (hW.block _ (lt_of_block HK3.out)).trans HK3.out
        have q0 := cell_at hk4 0
        have q1 := cell_at hk4 1
        have q2 := cell_at hk4 2
        have g0 := frozen_at hk4 0
        have g1 := frozen_at hk4 1
        have g2 := frozen_at hk4 2
        have HK4 := Lib.hid hk4
        have HWW := Lib.hid hW
        have HCC := Lib.hid hC
        clear hC
        clear hk4 hW
        refine ⟨_, by go_simp <;> with_reducible rfl, ⟨?_, ?_, ?_, ?_⟩, trivial⟩
        · simpa using block_set (block_set (block_set HK4.out 0 (.int .i64 0)) 1 (.int .i64 (s.mark + 1))) 2 (.slice none 0 0)
        · obtain ⟨W5, hW5, _, _, _, f5, _⟩ := pkt_store HK4.out (.int .i64 0) (.int .i64 (s.mark + 1)) (.slice none 0 0)
          rw [hW5]
          exact (HE.out.below HWW.out).far f5 HK4.out (by decide) (by decide) (by decide)
        · obtain ⟨W5, hW5, _, _, _, _, bl5⟩ := pkt_store HK4.out (.int .i64 0) (.int .i64 (s.mark + 1)) (.slice none 0 0)
          rw [hW5]
          exact (FE.out.then HWW.out).thenB (bl5 w.heap.size (by omega))
        · obtain ⟨W5, hW5, _, _, _, f5, _⟩ := pkt_store HK4.out (.int .i64 0) (.int .i64 (s.mark + 1)) (.slice none 0 0)
          rw [hW5]
          exact HCC.out.far f5 HK4.out (by decide)
      refine flow_done2 ?_
      rintro W ⟨⟨r1, r2, r3, r4⟩, _⟩ _
      have y0 := cell_at r1 0
      have y1 := cell_at r1 1
      have y2 := cell_at r1 2
      clear r1
      go_wp2
      refine bodyPost_ret (v := .tuple #[.slice A69 k.body.length c69, .bool true, .agg #[.int .i64 0, .int .i64 (s.mark + 1), .slice none 0 0]]) (by simp [results, Try.f25, go_sem, y0, y1, y2]) rfl ?_
      exact ⟨_, ⟨_, _, rfl, r4.bs, ⟨_, rfl, byo_nil _⟩⟩, r2, r3, fun g hg => .inr (HGN.out g hg)⟩

/-- What the reference's On answers, whatever comes. -/
theorem ron_any (p : Nat) (G : Option Nat) (s : LSt) (k : LPk) (A : Option Addr) (c : Nat) (w : World) (h : IsX w p G s) (hl : k.body.length ≤ 9223372036854775807) (hn : s.l.length ≤ 1048576) (hmk : 0 ≤ s.mark ∧ s.mark < 9223372036854775807)
    (hb : ∀ W', Fr 0 [] (p :: G.toList) w W' → Bs W' (.slice A k.body.length c) k.body) (h256 : ∀ b ∈ k.body, b < 256) :
    Calls Try.prog 25 #[.pointer (some ⟨p, 0, none⟩), .agg #[.int .i64 k.seq, .int .i64 k.ack, .slice A k.body.length c]] w
      (RetX p G (fun e w' => ∃ bv v3, e = .returned (.tuple #[bv, .bool (onI s k), v3]) ∧ Bs w' bv (onB s k) ∧ IsP w' v3 (onP s k)) (onS s k) w) := by
  cases hm : mayL k with
  | false =>
    have e1 : onI s k = false := by simp [onI, hm]
    have e2 : onB s k = [] := by simp [onB, hm]
    have e3 : onP s k = ⟨0, 0, []⟩ := by simp [onP, hm]
    have e4 : onS s k = s := by simp [onS, hm]
    rw [e1, e2, e3, e4]
    exact ron_not p G s k A c w h hl hm
  | true =>
    have hbl : k.body.length ≤ 2048 := by
      simp only [mayL, Bool.and_eq_true, decide_eq_true_eq] at hm
      exact hm.1.2
    by_cases hz : k.seq = 0
    · have e1 : onI s k = false := by simp [onI, hz]
      have e2 : onB s k = [] := by simp [onB, hz]
      have e3 : onP s k = ⟨0, 0, []⟩ := by simp [onP, hz]
      have e4 : onS s k = ⟨onL s k, s.sent, s.mark⟩ := by simp [onS, hm, hz]
      rw [e1, e2, e3, e4]
      exact ron_zero p G s k A c w h hbl hm hn hz
    · by_cases hne : k.seq = s.mark + 1
      · have e1 : onI s k = true := by simp [onI, hm, hz, ← hne]
        have e2 : onB s k = k.body := by simp [onB, hm, hz, ← hne]
        have e4 : onS s k = ⟨onL s k, s.sent, s.mark + 1⟩ := by simp [onS, hm, hz, ← hne]
        have e3 : onP s k = ⟨0, s.mark + 1, []⟩ := by unfold onP; rw [if_pos ⟨hm, hz⟩, e4]
        rw [e1, e2, e3, e4]
        exact ron_next p G s k A c w h hbl hm hn hmk hb h256 hz hne
      · have e1 : onI s k = false := by simp [onI, hne]
        have e2 : onB s k = [] := by simp [onB, hne]
        have e4 : onS s k = ⟨onL s k, s.sent, s.mark⟩ := by simp [onS, hm, hne]
        have e3 : onP s k = ⟨0, s.mark, []⟩ := by unfold onP; rw [if_pos ⟨hm, hz⟩, e4]
        rw [e1, e2, e3, e4]
        exact ron_other p G s k A c w h hbl hm hn hmk hz hne
end Go.Proofs.Ytnmbblkfaoihfaa
