/- The reference's On. -/
import Derived.Test.YtnmbblkfaoihfaaZLY12
namespace Go.Proofs.Ytnmbblkfaoihfaa
open Go.RowKit

theorem rd_new (w : World) {l : List Value} {T : TypeId} (h : l.length = 4) : Rd ((w.alloc (.cells l.toArray T)).drew) 4 (some ⟨w.heap.size, 0, none⟩) 1 l :=
  ⟨by omega, fun _ => ⟨_, _, rfl, by simp, fun j u hu => by
    have := cell_at (block_new w (.cells l.toArray T)) j
    simp only [Nat.zero_add]
    exact (show _ = _ from this).trans (by simpa using hu)⟩⟩
set_option maxRecDepth 100000 in
set_option maxHeartbeats 1000000 in
theorem ron_not (p : Nat) (G : Option Nat) (s : LSt) (k : LPk) (A : Option Addr) (c : Nat) (w : World) (h : IsX w p G s) (hl : k.body.length ≤ 9223372036854775807) (hm : mayL k = false) :
    Calls Try.prog 25 #[.pointer (some ⟨p, 0, none⟩), .agg #[.int .i64 k.seq, .int .i64 k.ack, .slice A k.body.length c]] w
      (RetX p G (fun e w' => ∃ bv v3, e = .returned (.tuple #[bv, .bool false, v3]) ∧ Bs w' bv [] ∧ IsP w' v3 ⟨0, 0, []⟩) s w) := by
  have HM := Lib.hid (fun wx => hm ▸ rmay_any k A c wx hl)
  have H := Lib.hid h
  clear h hm
  go_enter Try.func25, Try.ntmps25
  go_wp2_with fail
  refine (HM.out _).mono ?_
  rintro e w1 ⟨rfl, hb1⟩
  have hbA : Below w.heap.size w ((w.alloc (.cells #[.int .i64 k.seq, .int .i64 k.ack, .slice A k.body.length c] 43)).alloc (.cells #[.int .i64 0, .int .i64 0, .slice none 0 0] 43)) := ((Below.refl _ w).alloc (Nat.le_refl _) _).alloc (by simp) _
  have hb : Below w.heap.size w w1 := hbA.trans (hb1.mono hbA.size)
  have b4 := block_new (w.alloc (.cells #[.int .i64 k.seq, .int .i64 k.ack, .slice A k.body.length c] 43)) (.cells #[.int .i64 0, .int .i64 0, .slice none 0 0] 43)
  simp only [World.size_alloc] at b4
  have n1 := (hb1.block (w.heap.size + 1) (by simp)).trans b4
  have s0 := cell_at n1 0
  have s1 := cell_at n1 1
  have s2 := cell_at n1 2
  have z0 := frozen_at n1 0
  have z1 := frozen_at n1 1
  have z2 := frozen_at n1 2
  have N1 := Lib.hid n1
  have HB := Lib.hid hb
  clear hbA b4 n1 hb1 hb
  go_wp2_with fail
  obtain ⟨W3, hW3, y0, y1, y2, f3, bl3⟩ := pkt_store N1.out (.int .i64 0) (.int .i64 0) (.slice none 0 0)
  rw [hW3]
  refine bodyPost_ret (v := .tuple #[.slice none 0 0, .bool false, .agg #[.int .i64 0, .int .i64 0, .slice none 0 0]]) (by simp [results, Try.f25, go_sem, y0, y1, y2]) rfl ?_
  have hbl := HB.out.trans (bl3 w.heap.size (by omega))
  exact ⟨G, ⟨_, _, rfl, (byo_nil _).bs, isp_zero _⟩, H.out.below hbl, Fr.of_below hbl, fun g hg => .inl hg⟩

set_option maxRecDepth 100000 in
set_option maxHeartbeats 1000000 in
theorem ron_zero (p : Nat) (G : Option Nat) (s : LSt) (k : LPk) (A : Option Addr) (c : Nat) (w : World) (h : IsX w p G s) (hl : k.body.length ≤ 2048) (hm : mayL k = true) (hn : s.l.length ≤ 1048576) (hz : k.seq = 0) :
    Calls Try.prog 25 #[.pointer (some ⟨p, 0, none⟩), .agg #[.int .i64 k.seq, .int .i64 k.ack, .slice A k.body.length c]] w
      (RetX p G (fun e w' => ∃ bv v3, e = .returned (.tuple #[bv, .bool false, v3]) ∧ Bs w' bv [] ∧ IsP w' v3 ⟨0, 0, []⟩) ⟨onL s k, s.sent, s.mark⟩ w) := by
  have HM : Hid (∀ wx, Calls Try.prog 32 #[.agg #[.int .i64 k.seq, .int .i64 k.ack, .slice A k.body.length c]] wx fun e w' => e = .returned (.bool true) ∧ Below wx.heap.size wx w') := Lib.hid (fun wx => by
    have := rmay_any k A c wx (by omega)
    rw [hm] at this
    exact this)
  obtain ⟨i0, hi0, hz0, hz1, hz2⟩ := info_parts Try.infoRItem
  obtain ⟨v, h1, zs, hzs, h2, hG, h3⟩ := h
  have hzl : zs.length = s.l.length := by rw [← hzs]; simp
  rw [← hzl] at h2 hn
  obtain ⟨Av, cv, rfl, _, _, hrd, _⟩ := own_slice h2
  clear hzl
  have hpl := lt_of_block h1
  have H1 := Lib.hid h1
  have H3 := Lib.hid h3
  have HZS := Lib.hid hzs
  have HRD := Lib.hid hrd
  have HZ0 := Lib.hid hz
  clear hz
  clear h1 h2 h3 hm hzs hG hrd
  go_enter Try.func25, Try.ntmps25
  go_wp2_with fail
  refine (HM.out _).mono ?_
  rintro e w1 ⟨rfl, hb1⟩
  have hbA : Below w.heap.size w ((w.alloc (.cells #[.int .i64 k.seq, .int .i64 k.ack, .slice A k.body.length c] 43)).alloc (.cells #[.int .i64 0, .int .i64 0, .slice none 0 0] 43)) := ((Below.refl _ w).alloc (Nat.le_refl _) _).alloc (by simp) _
  have hb : Below w.heap.size w w1 := hbA.trans (hb1.mono hbA.size)
  have b3 := block_alloc (block_new w (.cells #[.int .i64 k.seq, .int .i64 k.ack, .slice A k.body.length c] 43)) (.cells #[.int .i64 0, .int .i64 0, .slice none 0 0] 43)
  have b4 := block_new (w.alloc (.cells #[.int .i64 k.seq, .int .i64 k.ack, .slice A k.body.length c] 43)) (.cells #[.int .i64 0, .int .i64 0, .slice none 0 0] 43)
  simp only [World.size_alloc] at b4
  have n0 := (hb1.block w.heap.size (by simp; omega)).trans b3
  have n1 := (hb1.block (w.heap.size + 1) (by simp)).trans b4
  have N0 := Lib.hid n0
  have N1 := Lib.hid n1
  have HB := Lib.hid hb
  clear hbA b3 b4 n0 n1 hb1 hb
  go_wp2_with fail
  go_loopw [7, 8] (fun lv kv wr => ∃ kk : Nat, kk ≤ zs.length ∧ kv = .int .i64 kk ∧ wr.ownsRow w.heap.size 91 4 lv ((zs.take kk).filter (keepL k.ack)).length (((zs.take kk).filter (keepL k.ack)).flatMap encL) ∧ Fr w.heap.size [91] [] w1 wr) (fun _ kv _ => zs.length - (intOf kv).toNat)
  case atStart => exact ⟨0, Nat.zero_le _, rfl, World.ownsRow_nil _ _ _ _, Fr.refl _⟩
  case round =>
    obtain ⟨kk, hk, rfl, hown, hF⟩ := hrel
    have hsz1 : w.heap.size ≤ w1.heap.size := HB.out.size
    have hbw : Below w.heap.size w wr := HB.out.trans (hF.below hsz1)
    have p1 := (hbw.block p hpl).trans H1.out
    have c0 := cell_at p1 0
    have n0 := hF.keep N0.out (by decide) (by simp)
    have n1 := hF.keep N1.out (by decide) (by simp)
    have d0 := cell_at n0 0
    have d1 := cell_at n0 1
    have d2 := cell_at n0 2
    have HP1 := Lib.hid p1
    have HN0 := Lib.hid n0
    have HN1 := Lib.hid n1
    have HOW := Lib.hid hown
    have HF := Lib.hid hF
    have HBW := Lib.hid hbw
    obtain ⟨Al, cl, rfl, _, _, _, _⟩ := own_slice hown
    clear p1 n0 n1 hown hF hbw
    by_cases hlt : kk < zs.length
    · obtain ⟨g, o, rfl, hg, hcell⟩ := HRD.out.2 (by omega)
      have hat := fun j (hj : j < 4) => flatL_at zs kk j hlt hj
      have hby := (H3.out zs[kk] (List.getElem_mem _)).frame (S := []) (T := []) (Fr.of_below HBW.out) (by simp) (by simp)
      obtain ⟨Ab, nb, cb, hbv⟩ := bv_form hby
      have hft := filter_take (keepL k.ack) zs kk hlt
      have hkl : keepL k.ack zs[kk] = !decide (zs[kk].it.seq ≤ k.ack) := rfl
      have k0 : wr.cell? ⟨g, o + kk * 4, none⟩ = some (.int .i64 zs[kk].it.seq) := (HBW.out.cell (p := ⟨g, o + kk * 4, none⟩) hg).trans (hcell (kk * 4 + 0) _ ((hat 0 (by omega)).trans (by simp only [encL]; rfl)))
      have k1 : wr.cell? ⟨g, o + kk * 4 + 1, none⟩ = some (.slice Ab nb cb) := (HBW.out.cell (p := ⟨g, o + kk * 4 + 1, none⟩) hg).trans (hcell (kk * 4 + 1) _ ((hat 1 (by omega)).trans (by simp only [encL, hbv]; rfl)))
      have k2 : wr.cell? ⟨g, o + kk * 4 + 2, none⟩ = some (.int .i64 zs[kk].it.tries) := (HBW.out.cell (p := ⟨g, o + kk * 4 + 2, none⟩) hg).trans (hcell (kk * 4 + 2) _ ((hat 2 (by omega)).trans (by simp only [encL]; rfl)))
      have k3 : wr.cell? ⟨g, o + kk * 4 + 3, none⟩ = some (.int .i64 zs[kk].it.due) := (HBW.out.cell (p := ⟨g, o + kk * 4 + 3, none⟩) hg).trans (hcell (kk * 4 + 3) _ ((hat 3 (by omega)).trans (by simp only [encL]; rfl)))
      obtain ⟨z, hz⟩ : ∃ z, zs[kk] = z := ⟨_, rfl⟩
      rw [hz] at k0 k2 k3 hft hkl hbv
      have HZ := Lib.hid hz
      have HFT := Lib.hid hft
      have HKL := Lib.hid hkl
      have HBV := Lib.hid hbv
      have HC0 := Lib.hid c0
      have HD1 := Lib.hid d1
      have HK0 := Lib.hid k0
      obtain ⟨m, hm⟩ : ∃ m, ((zs.take kk).filter (keepL k.ack)).length = m := ⟨_, rfl⟩
      have HMM := Lib.hid hm
      have hmk : m ≤ kk := by rw [← hm]; exact Nat.le_trans (List.length_filter_le _ _) (by simp; omega)
      rw [hm]
      clear hat hcell hft hkl hbv hz hby hm
      by_cases hd : k.ack < z.it.seq
      · have hgt : decide (k.ack < z.it.seq) = true := by simpa using hd
        have HOW' : Hid (wr.ownsRow w.heap.size 91 4 (.slice Al m cl) m (((zs.take kk).filter (keepL k.ack)).flatMap encL)) := Lib.hid (HMM.out ▸ HOW.out)
        go_wp2_with fail
        refine wp_region_flow (fun W => W = wr.drew) [0, 1, 2, 3, 4, 5, 6, 7, 8, 9, 10] (by kernel_rfl) (by kernel_rfl) (by kernel_rfl) (rfl) ?_
        refine flow_val ?_ rfl (by kernel_rfl) (by rfl) (fun W hW => ?_) ?_
        rotate_left 1
        · go_simp <;> with_reducible rfl
        simp only [Act.put, List.setIfInBounds_toArray, List.set_cons_succ, List.set_cons_zero]
        refine flow_val ?_ rfl (by kernel_rfl) (by rfl) (fun W hW => ?_) ?_
        rotate_left 1
        · go_simp <;> with_reducible rfl
        simp only [Act.put, List.setIfInBounds_toArray, List.set_cons_succ, List.set_cons_zero]
        refine flow_val ?_ rfl (by kernel_rfl) (by rfl) (fun W hW => ?_) ?_
        rotate_left 1
        · go_simp <;> with_reducible rfl
        simp only [Act.put, List.setIfInBounds_toArray, List.set_cons_succ, List.set_cons_zero]
        refine flow_val ?_ rfl (by kernel_rfl) (by rfl) (fun W hW => ?_) ?_
        rotate_left 1
        · subst hW; have c1 : (wr.drew).cell? ⟨p, 0, none⟩ = some (.slice (some ⟨g, o, none⟩) zs.length cv) := HC0.out; go_simp <;> with_reducible rfl
        simp only [Act.put, List.setIfInBounds_toArray, List.set_cons_succ, List.set_cons_zero]
        refine flow_val ?_ rfl (by kernel_rfl) (by rfl) (fun W hW => ?_) ?_
        rotate_left 1
        · go_simp <;> with_reducible rfl
        simp only [Act.put, List.setIfInBounds_toArray, List.set_cons_succ, List.set_cons_zero]
        refine flow_val ?_ rfl (by kernel_rfl) (by rfl) (fun W hW => ?_) ?_
        rotate_left 1
        · go_simp <;> with_reducible rfl
        simp only [Act.put, List.setIfInBounds_toArray, List.set_cons_succ, List.set_cons_zero]
        refine flow_val ?_ rfl (by kernel_rfl) (by rfl) (fun W hW => ?_) ?_
        rotate_left 1
        · go_simp <;> with_reducible rfl
        simp only [Act.put, List.setIfInBounds_toArray, List.set_cons_succ, List.set_cons_zero]
        refine flow_val ?_ rfl (by kernel_rfl) (by rfl) (fun W hW => ?_) ?_
        rotate_left 1
        · subst hW; have c1 : (wr.drew).cell? ⟨g, o + kk * 4, none⟩ = some (.int .i64 z.it.seq) := HK0.out; go_simp <;> with_reducible rfl
        simp only [Act.put, List.setIfInBounds_toArray, List.set_cons_succ, List.set_cons_zero]
        refine flow_val ?_ rfl (by kernel_rfl) (by rfl) (fun W hW => ?_) ?_
        rotate_left 1
        · go_simp <;> with_reducible rfl
        simp only [Act.put, List.setIfInBounds_toArray, List.set_cons_succ, List.set_cons_zero]
        refine flow_val ?_ rfl (by kernel_rfl) (by rfl) (fun W hW => ?_) ?_
        rotate_left 1
        · subst hW; have c1 : (wr.drew).cell? ⟨w.heap.size, 1, none⟩ = some (.int .i64 k.ack) := HD1.out; go_simp <;> with_reducible rfl
        simp only [Act.put, List.setIfInBounds_toArray, List.set_cons_succ, List.set_cons_zero]
        refine flow_val ?_ rfl (by kernel_rfl) (by rfl) (fun W hW => ?_) ?_
        rotate_left 1
        · go_simp <;> with_reducible rfl
        simp only [Act.put, List.setIfInBounds_toArray, List.set_cons_succ, List.set_cons_zero]
        refine flow_done ?_
        intro W hW
        subst hW
        have HRN : Hid (Rd ((wr.alloc (.cells #[.int .i64 z.it.seq, .slice Ab nb cb, .int .i64 z.it.tries, .int .i64 z.it.due] 91)).drew) 4 (some ⟨wr.heap.size, 0, none⟩) 1 [.int .i64 z.it.seq, .slice Ab nb cb, .int .i64 z.it.tries, .int .i64 z.it.due]) := Lib.hid (rd_new wr rfl)
        have HO3 := Lib.hid ((Fr.of_below (B := 0) (T := []) (S := []) (((Below.refl _ wr).alloc (Nat.le_refl _) (.cells #[.int .i64 z.it.seq, .slice Ab nb cb, .int .i64 z.it.tries, .int .i64 z.it.due] 91)).drew)).own HOW'.out (by simp) (by simp))
        have hwsz : w.heap.size ≤ wr.heap.size := HBW.out.size
        go_wp2_with (first
          | (at_builtin
             refine wpList_append_rd_at _ rfl (.tmp 33) (.tmp 41) 53 rfl w.heap.size 91 i0 (.agg #[.int .i64 0, .slice none 0 0, .int .i64 0, .int .i64 0]) 4 48 Try.underlying53 hi0 hz0 hz1 hz2 rfl (by decide) (.slice Al m cl) _ _ rfl HO3.out (some ⟨wr.heap.size, 0, none⟩) 1 1 [.int .i64 z.it.seq, .slice Ab nb cb, .int .i64 z.it.tries, .int .i64 z.it.due] rfl HRN.out (by simp [Value.oneCell']) (by unfold maxLen; omega) (by omega) (by simp; omega) ?_
             intro v5 w5 hown5 hgrow5 _
             have HO5 := Lib.hid hown5
             have F5 := Lib.hid ((Fr.of_below (B := w.heap.size) (T := [91]) (S := []) ((Below.refl _ wr).alloc (Nat.le_refl _) (.cells #[.int .i64 z.it.seq, .slice Ab nb cb, .int .i64 z.it.tries, .int .i64 z.it.due] 91)).drew).grown hgrow5 (fun j hj => by
               obtain ⟨hbs, cs, hc⟩ := own_block HO3.out hj
               exact ⟨hbs, .inr ⟨cs, _, _, hc, by simp⟩⟩))
             clear hown5 hgrow5))
        go_roundw
        case rel =>
          have hkf : keepL k.ack zs[kk] = true := by rw [HZ.out, HKL.out]; simp; omega
          have hf2 := HFT.out
          rw [← HZ.out, hkf] at hf2
          simp only [if_true] at hf2
          refine ⟨kk + 1, hlt, by go_num, ?_, HF.out.trans F5.out⟩
          rw [hf2, List.flatMap_append, List.length_append, HMM.out, HZ.out]
          have e : [z].flatMap encL = [.int .i64 z.it.seq, .slice Ab nb cb, .int .i64 z.it.tries, .int .i64 z.it.due] := by simp [encL, HBV.out]
          rw [e]
          exact HO5.out
        case measure => simp [intOf]; omega
      · have hgt : decide (k.ack < z.it.seq) = false := by simpa using hd
        go_wp2_with fail
        refine wp_region_flow (fun W => W = wr.drew) [0, 1, 2, 3, 4, 5, 6, 7, 8, 9, 10] (by kernel_rfl) (by kernel_rfl) (by kernel_rfl) (rfl) ?_
        refine flow_val ?_ rfl (by kernel_rfl) (by rfl) (fun W hW => ?_) ?_
        rotate_left 1
        · go_simp <;> with_reducible rfl
        simp only [Act.put, List.setIfInBounds_toArray, List.set_cons_succ, List.set_cons_zero]
        refine flow_val ?_ rfl (by kernel_rfl) (by rfl) (fun W hW => ?_) ?_
        rotate_left 1
        · go_simp <;> with_reducible rfl
        simp only [Act.put, List.setIfInBounds_toArray, List.set_cons_succ, List.set_cons_zero]
        refine flow_val ?_ rfl (by kernel_rfl) (by rfl) (fun W hW => ?_) ?_
        rotate_left 1
        · go_simp <;> with_reducible rfl
        simp only [Act.put, List.setIfInBounds_toArray, List.set_cons_succ, List.set_cons_zero]
        refine flow_val ?_ rfl (by kernel_rfl) (by rfl) (fun W hW => ?_) ?_
        rotate_left 1
        · subst hW; have c1 : (wr.drew).cell? ⟨p, 0, none⟩ = some (.slice (some ⟨g, o, none⟩) zs.length cv) := HC0.out; go_simp <;> with_reducible rfl
        simp only [Act.put, List.setIfInBounds_toArray, List.set_cons_succ, List.set_cons_zero]
        refine flow_val ?_ rfl (by kernel_rfl) (by rfl) (fun W hW => ?_) ?_
        rotate_left 1
        · go_simp <;> with_reducible rfl
        simp only [Act.put, List.setIfInBounds_toArray, List.set_cons_succ, List.set_cons_zero]
        refine flow_val ?_ rfl (by kernel_rfl) (by rfl) (fun W hW => ?_) ?_
        rotate_left 1
        · go_simp <;> with_reducible rfl
        simp only [Act.put, List.setIfInBounds_toArray, List.set_cons_succ, List.set_cons_zero]
        refine flow_val ?_ rfl (by kernel_rfl) (by rfl) (fun W hW => ?_) ?_
        rotate_left 1
        · go_simp <;> with_reducible rfl
        simp only [Act.put, List.setIfInBounds_toArray, List.set_cons_succ, List.set_cons_zero]
        refine flow_val ?_ rfl (by kernel_rfl) (by rfl) (fun W hW => ?_) ?_
        rotate_left 1
        · subst hW; have c1 : (wr.drew).cell? ⟨g, o + kk * 4, none⟩ = some (.int .i64 z.it.seq) := HK0.out; go_simp <;> with_reducible rfl
        simp only [Act.put, List.setIfInBounds_toArray, List.set_cons_succ, List.set_cons_zero]
        refine flow_val ?_ rfl (by kernel_rfl) (by rfl) (fun W hW => ?_) ?_
        rotate_left 1
        · go_simp <;> with_reducible rfl
        simp only [Act.put, List.setIfInBounds_toArray, List.set_cons_succ, List.set_cons_zero]
        refine flow_val ?_ rfl (by kernel_rfl) (by rfl) (fun W hW => ?_) ?_
        rotate_left 1
        · subst hW; have c1 : (wr.drew).cell? ⟨w.heap.size, 1, none⟩ = some (.int .i64 k.ack) := HD1.out; go_simp <;> with_reducible rfl
        simp only [Act.put, List.setIfInBounds_toArray, List.set_cons_succ, List.set_cons_zero]
        refine flow_val ?_ rfl (by kernel_rfl) (by rfl) (fun W hW => ?_) ?_
        rotate_left 1
        · go_simp <;> with_reducible rfl
        simp only [Act.put, List.setIfInBounds_toArray, List.set_cons_succ, List.set_cons_zero]
        refine flow_done ?_
        intro W hW
        subst hW
        go_wp2_with fail
        go_roundw
        case rel =>
          have hkf : keepL k.ack zs[kk] = false := by rw [HZ.out, HKL.out]; simp; omega
          have hf2 := HFT.out
          rw [← HZ.out, hkf] at hf2
          simp only [Bool.false_eq_true, if_false] at hf2
          refine ⟨kk + 1, hlt, by go_num, ?_, HF.out.drew⟩
          rw [hf2, HMM.out]
          exact HMM.out ▸ HOW.out
        case measure => simp [intOf]; omega
    · obtain rfl : kk = zs.length := by omega
      have hfa : zs.take zs.length = zs := List.take_length
      have hmap : (zs.filter (keepL k.ack)).map (·.it) = onL s k := by
        unfold onL
        rw [← HZS.out, List.filter_map]
        rfl
      have HOZ : Hid (wr.ownsRow w.heap.size 91 4 (.slice Al (zs.filter (keepL k.ack)).length cl) (zs.filter (keepL k.ack)).length ((zs.filter (keepL k.ack)).flatMap encL)) := Lib.hid (by have := HOW.out; rw [hfa] at this; exact this)
      rw [hfa]
      have HMAP := Lib.hid hmap
      have HBY : Hid (∀ z ∈ zs, ByO wr z.bv z.it.body) := Lib.hid (fun z hz => (H3.out z hz).frame (S := []) (T := []) (Fr.of_below HBW.out) (by simp) (by simp))
      clear hmap hfa HOW
      have c0 := cell_at HP1.out 0
      have c2 := cell_at HP1.out 2
      have f0 := frozen_at HP1.out 0
      have f2 := frozen_at HP1.out 2
      have s0 := cell_at HN1.out 0
      have s1 := cell_at HN1.out 1
      have s2 := cell_at HN1.out 2
      have z0 := frozen_at HN1.out 0
      have z1 := frozen_at HN1.out 1
      have z2 := frozen_at HN1.out 2
      have hpn0 : p ≠ w.heap.size := by omega
      have hpn1 : p ≠ w.heap.size + 1 := by omega
      obtain ⟨m, hm⟩ : ∃ m, (zs.filter (keepL k.ack)).length = m := ⟨_, rfl⟩
      have HMM := Lib.hid hm
      rw [hm]
      have HO : Hid (wr.ownsRow 0 91 4 (.slice Al m cl) (zs.filter (keepL k.ack)).length ((zs.filter (keepL k.ack)).flatMap encL)) := Lib.hid (hm ▸ own_low HOZ.out (Nat.zero_le _))
      have HGN : Hid (∀ g, (Value.slice Al m cl).ownBlock = some g → w.heap.size ≤ g) := Lib.hid (fun g hg => (own_block HOZ.out (hm.symm ▸ hg)).1)
      clear hm
      have hq : (k.seq == 0) = true := by simp [HZ0.out]
      go_wp2_with fail
      have hE := isx_set0 HP1.out HO.out HMAP.out (fun z hz => HBY.out z (List.mem_filter.1 hz).1)
      have fE : Fr 0 [] (p :: G.toList) w (wr.setCell ⟨p, 0, none⟩ (.slice Al m cl)) := (Fr.of_below HBW.out).setCell (p := ⟨p, 0, none⟩) _ (Nat.zero_le _) (.inl (by simp))
      have hk3 := block_far HN1.out (p := ⟨p, 0, none⟩) (by simpa using hpn1.symm) (.slice Al m cl)
      obtain ⟨W3, hW3, y0, y1, y2, f3, bl3⟩ := pkt_store hk3 (.int .i64 0) (.int .i64 0) (.slice none 0 0)
      rw [hW3]
      refine bodyPost_ret (v := .tuple #[.slice none 0 0, .bool false, .agg #[.int .i64 0, .int .i64 0, .slice none 0 0]]) (by simp [results, Try.f25, go_sem, y0, y1, y2]) rfl ?_
      have hE3 := hE.far f3 hk3 (by decide) (by decide) (by decide)
      exact ⟨_, ⟨_, _, rfl, (byo_nil _).bs, isp_zero _⟩, hE3, fE.thenB (bl3 w.heap.size (by omega)), fun g hg => .inr (HGN.out g hg)⟩

end Go.Proofs.Ytnmbblkfaoihfaa
