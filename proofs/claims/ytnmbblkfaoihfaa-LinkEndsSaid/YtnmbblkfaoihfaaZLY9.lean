/- Joined: slices.DeleteFunc of items that are known to have come: the rest, in order. Package link: May, On. -/
import Derived.Test.YtnmbblkfaoihfaaZLY8
namespace Go.Proofs.Ytnmbblkfaoihfaa
open Go.RowKit

theorem filter_take {α : Type} (q : α → Bool) (l : List α) (k : Nat) (h : k < l.length) : (l.take (k + 1)).filter q = if q l[k] then (l.take k).filter q ++ [l[k]] else (l.take k).filter q := by
  rw [List.take_succ_eq_append_getElem h, List.filter_append]
  cases hq : q l[k] <;> simp [hq]
theorem filter_all {α : Type} (q : α → Bool) (l : List α) (k : Nat) (hk : k ≤ l.length) (h : ∀ j (hj : j < l.length), j < k → q l[j] = true) : (l.take k).filter q = l.take k := by
  rw [List.filter_eq_self]
  intro x hx
  obtain ⟨j, hj, rfl⟩ := List.getElem_of_mem hx
  have hj' : j < k ∧ j < l.length := by simp at hj; omega
  rw [List.getElem_take]
  exact h j hj'.2 hj'.1

set_option maxRecDepth 100000 in
set_option maxHeartbeats 4000000 in
theorem del_any (ack : Int) (b : Nat) (csb : Array Value) (fz : Nat × Nat) (zs : List LIm) (A : Option Addr) (c : Nat) (w : World) (ho : w.ownsRow 0 84 4 (.slice A zs.length c) zs.length (zs.flatMap encL)) (hf : ∀ z ∈ zs, ByO w z.bv z.it.body)
    (hbb : w.heap[b]? = some (.cells csb 43 fz)) (hba : csb[1]? = some (.int .i64 ack)) :
    Calls Try.prog 44 #[.slice A zs.length c, .func (.func 45) #[] #[.pointer (some ⟨b, 0, none⟩)]] w fun e w' => ∃ v', e = .returned v' ∧
      w'.ownsRow 0 84 4 v' (zs.filter (keepL ack)).length ((zs.filter (keepL ack)).flatMap encL) ∧ v'.ownBlock = (Value.slice A zs.length c).ownBlock ∧ Fr 0 [] (Value.slice A zs.length c).ownBlock.toList w w' := by
  obtain ⟨A', c', e', hlc, hcm, hrd, _⟩ := own_slice ho
  injection e' with e1 _ e3
  subst e1; subst e3
  have hcm' : c ≤ 9223372036854775807 := by unfold maxLen at hcm; omega
  have hbx : w.cell? ⟨b, 1, none⟩ = some (.int .i64 ack) := (cell_at hbb 1).trans hba
  have HO := Lib.hid ho
  have HF := Lib.hid hf
  have HRD := Lib.hid hrd
  have HBB := Lib.hid hbb
  have HBA := Lib.hid hba
  clear ho hf hrd hbb hba
  go_enter Try.func44, Try.ntmps44
  go_wp2_with fail
  refine (lidx_any ack b zs A c w (by unfold maxLen; omega) HRD.out HF.out hbx).mono ?_
  rintro e w1 ⟨hb1, hres⟩
  rcases hres with ⟨rfl, hall⟩ | ⟨i, rfl, hi, hi1, hi2⟩
  · have hfe : zs.filter (keepL ack) = zs := List.filter_eq_self.2 hall
    have HFE := Lib.hid hfe
    clear hall hfe
    go_wp2
    go_ret
    rw [HFE.out]
    exact ⟨_, rfl, (Fr.of_below (B := 0) (T := []) (S := []) hb1).own HO.out (by simp) (by simp), rfl, Fr.of_below hb1⟩
  · have ho := HO.out
    obtain ⟨g, c0, e0⟩ := own_pos ho (by omega)
    injection e0 with e0 _ e2
    subst e0; subst e2
    have hgb : b ≠ g := by
      obtain ⟨_, cs, h2⟩ := own_block ho (by simp [Value.ownBlock] : (Value.slice (some ⟨g, 0, none⟩) zs.length c).ownBlock = some g)
      exact block_ne HBB.out h2 (by decide)
    have HO1 := Lib.hid ((Fr.of_below (B := 0) (T := []) (S := []) hb1).own ho (by simp) (by simp))
    have HB1 := Lib.hid hb1
    have hfi := filter_take (keepL ack) zs i hi
    rw [hi1, filter_all (keepL ack) zs i (by omega) hi2] at hfi
    have HFI := Lib.hid hfi
    clear ho hb1 hi1 hi2 hfi
    have hne : ((i : Int) == -1) = false := by simp
    go_wp2_with fail
    clear hne
    go_loopw [5, 6, 7] (fun iv jv _ wr => ∃ (I J : Nat) (ms : List LIm), iv = .int .i64 I ∧ jv = .int .i64 J ∧ I < J ∧ J ≤ zs.length ∧ ms.length = J - I ∧ I = ((zs.take J).filter (keepL ack)).length ∧
      wr.ownsRow 0 84 4 (.slice (some ⟨g, 0, none⟩) zs.length c) zs.length (((zs.take J).filter (keepL ack) ++ ms ++ zs.drop J).flatMap encL) ∧ Fr 0 [] [g] w wr) (fun _ jv _ _ => zs.length - (intOf jv).toNat)
    case atStart =>
      refine ⟨i, i + 1, [zs[i]], rfl, by go_num, by omega, by omega, by simp, ?_, ?_, (Fr.of_below HB1.out)⟩
      · have h := HFI.out
        simp only [Bool.false_eq_true, if_false] at h
        rw [h, List.length_take]; omega
      · have h := HFI.out
        simp only [Bool.false_eq_true, if_false] at h
        rw [h]
        have e : zs.take i ++ [zs[i]] ++ zs.drop (i + 1) = zs := by simp
        rw [e]
        exact HO1.out
    case round =>
      obtain ⟨I, J, ms, rfl, rfl, hIJ, hJ, hms, hI, hown, hfr⟩ := hrel
      have HOw := Lib.hid hown
      have HFr := Lib.hid hfr
      have HI := Lib.hid hI
      have HM := Lib.hid hms
      have hbb2 := (hfr.block b (lt_of_block HBB.out) (.inr ⟨fun _ _ _ _ => by simp, by simpa using hgb⟩)).trans HBB.out
      have hbx2 : wr.cell? ⟨b, 1, none⟩ = some (.int .i64 ack) := (cell_at hbb2 1).trans HBA.out
      have HBB2 := Lib.hid hbb2
      by_cases hlt : J < zs.length
      · obtain ⟨zs', hzs'⟩ : ∃ zs', (zs.take J).filter (keepL ack) ++ ms ++ zs.drop J = zs' := ⟨_, rfl⟩
        have hl' : zs'.length = zs.length := by rw [← hzs']; simp; omega
        have hat' : zs'[J]? = some zs[J] := by
          rw [← hzs', List.getElem?_append_right (by simp; omega)]
          have e : J - ((zs.take J).filter (keepL ack) ++ ms).length = 0 := by simp; omega
          rw [e]
          simp [hlt]
        have hJ' : J < zs'.length := by omega
        have hat2 : zs'[J] = zs[J] := by
          rw [List.getElem?_eq_getElem hJ'] at hat'
          simpa using hat'
        rw [hzs'] at hown
        obtain ⟨_, _, e', _, _, hrd', _⟩ := own_slice hown
        injection e' with e1 _ e3
        subst e1; subst e3
        obtain ⟨g2, o2, e2, hg2, hcell⟩ := hrd'.2 (by omega)
        injection e2 with e2
        injection e2 with e2 e4
        subst e2; subst e4
        obtain ⟨Ab, nb, cb, hbv⟩ := bv_form (HF.out zs[J] (List.getElem_mem _))
        have hat := fun j (hj : j < 4) => flatL_at zs' J j hJ' hj
        simp only [hat2, Nat.zero_add] at hat hcell
        have k0 : wr.cell? ⟨g, J * 4, none⟩ = some (.int .i64 zs[J].it.seq) := hcell (J * 4 + 0) _ ((hat 0 (by omega)).trans (by simp only [encL]; rfl))
        have k1 : wr.cell? ⟨g, J * 4 + 1, none⟩ = some (.slice Ab nb cb) := hcell (J * 4 + 1) _ ((hat 1 (by omega)).trans (by simp only [encL, hbv]; rfl))
        have k2 : wr.cell? ⟨g, J * 4 + 2, none⟩ = some (.int .i64 zs[J].it.tries) := hcell (J * 4 + 2) _ ((hat 2 (by omega)).trans (by simp only [encL]; rfl))
        have k3 : wr.cell? ⟨g, J * 4 + 3, none⟩ = some (.int .i64 zs[J].it.due) := hcell (J * 4 + 3) _ ((hat 3 (by omega)).trans (by simp only [encL]; rfl))
        have HZ' := Lib.hid hzs'
        have HBV := Lib.hid hbv
        have hIl : I < zs'.length := by omega
        obtain ⟨y, hy⟩ : ∃ y, zs'[I] = y := ⟨_, rfl⟩
        have hatI := fun j (hj : j < 4) => flatL_at zs' I j hIl hj
        simp only [hy] at hatI
        have y0 : wr.cell? ⟨g, I * 4, none⟩ = some (.int .i64 y.it.seq) := hcell (I * 4 + 0) _ ((hatI 0 (by omega)).trans (by simp only [encL]; rfl))
        have y1 : wr.cell? ⟨g, I * 4 + 1, none⟩ = some y.bv := hcell (I * 4 + 1) _ ((hatI 1 (by omega)).trans (by simp only [encL]; rfl))
        have y2 : wr.cell? ⟨g, I * 4 + 2, none⟩ = some (.int .i64 y.it.tries) := hcell (I * 4 + 2) _ ((hatI 2 (by omega)).trans (by simp only [encL]; rfl))
        have y3 : wr.cell? ⟨g, I * 4 + 3, none⟩ = some (.int .i64 y.it.due) := hcell (I * 4 + 3) _ ((hatI 3 (by omega)).trans (by simp only [encL]; rfl))
        obtain ⟨_, csg, hgr⟩ := own_block hown (by simp [Value.ownBlock] : (Value.slice (some ⟨g, 0, none⟩) zs.length c).ownBlock = some g)
        have HGR := Lib.hid hgr
        have Y0 := Lib.hid y0
        have Y1 := Lib.hid y1
        have Y2 := Lib.hid y2
        have Y3 := Lib.hid y3
        have HY := Lib.hid hy
        have hft := filter_take (keepL ack) zs J hlt
        have HFT := Lib.hid hft
        have hsd : zs.drop J = zs[J] :: zs.drop (J + 1) := List.drop_eq_getElem_cons hlt
        have HSD := Lib.hid hsd
        have hkl : keepL ack zs[J] = !decide (zs[J].it.seq ≤ ack) := rfl
        have HKL := Lib.hid hkl
        obtain ⟨z, hz⟩ : ∃ z, zs[J] = z := ⟨_, rfl⟩
        rw [hz] at k0 k2 k3
        have HZ := Lib.hid hz
        clear hown hfr hI hms hbb2 hrd' hcell hat hat' hbv hatI hgr y0 y1 y2 y3 hft hsd hkl hat2 hy hz
        go_wp2_with fail
        have hbA : Below wr.heap.size wr (wr.alloc (.cells #[.int .i64 z.it.seq, .slice Ab nb cb, .int .i64 z.it.tries, .int .i64 z.it.due] 84)) := (Below.refl _ _).alloc (Nat.le_refl _) _
        refine (on1_any z.it.seq z.it.tries z.it.due ack Ab nb cb b _ ((cell_at (block_alloc HBB2.out _) 1).trans HBA.out)).mono ?_
        rintro e w5 ⟨rfl, hb5⟩
        have hb5' := hbA.trans (hb5.mono hbA.size)
        by_cases hd : decide (z.it.seq ≤ ack) = true
        · have HD := Lib.hid hd
          have HB5 := Lib.hid hb5'
          clear hb5 hb5' hbA k0 k1 k2 k3
          go_wp2_with fail
          go_roundw
          case rel =>
            have hkf : keepL ack zs[J] = false := by rw [HKL.out, HZ.out, HD.out]; rfl
            have hf2 := HFT.out
            rw [hkf] at hf2
            simp only [Bool.false_eq_true, if_false] at hf2
            refine ⟨I, J + 1, ms ++ [zs[J]], rfl, by go_num, by omega, by omega, by have := HM.out; simp; omega, by rw [hf2]; exact HI.out, ?_, HFr.out.then HB5.out⟩
            rw [hf2]
            have e : (zs.take J).filter (keepL ack) ++ (ms ++ [zs[J]]) ++ zs.drop (J + 1) = zs' := by rw [← HZ'.out, HSD.out]; simp
            rw [e, ← HZ'.out]
            exact (Fr.of_below (B := 0) (T := []) (S := []) HB5.out).own HOw.out (by simp) (by simp)
          case measure => simp [intOf]; omega
        · have hd' : decide (z.it.seq ≤ ack) = false := by simpa using hd
          have HD := Lib.hid hd'
          have hbx5 := (hb5.block wr.heap.size (by simp)).trans (block_new wr (.cells #[.int .i64 z.it.seq, .slice Ab nb cb, .int .i64 z.it.tries, .int .i64 z.it.due] 84))
          have x0 := cell_at hbx5 0
          have x1 := cell_at hbx5 1
          have x2 := cell_at hbx5 2
          have x3 := cell_at hbx5 3
          have hg5 := (hb5'.block g (lt_of_block HGR.out)).trans HGR.out
          have y0 := (hb5'.cell (p := ⟨g, I * 4, none⟩) (lt_of_block HGR.out)).trans Y0.out
          have y1 := (hb5'.cell (p := ⟨g, I * 4 + 1, none⟩) (lt_of_block HGR.out)).trans Y1.out
          have y2 := (hb5'.cell (p := ⟨g, I * 4 + 2, none⟩) (lt_of_block HGR.out)).trans Y2.out
          have y3 := (hb5'.cell (p := ⟨g, I * 4 + 3, none⟩) (lt_of_block HGR.out)).trans Y3.out
          have f0 := frozen_at hg5 (I * 4)
          have f1 := frozen_at hg5 (I * 4 + 1)
          have f2 := frozen_at hg5 (I * 4 + 2)
          have f3 := frozen_at hg5 (I * 4 + 3)
          have HB5 := Lib.hid hb5'
          clear hb5 hb5' hbA k0 k1 k2 k3 hbx5 hg5 hd
          go_wp2_with fail
          go_roundw
          case rel =>
            have hkf : keepL ack zs[J] = true := by rw [HKL.out, HZ.out, HD.out]; rfl
            have hf2 := HFT.out
            rw [hkf] at hf2
            simp only [if_true] at hf2
            have hml := HM.out
            have hIk := HI.out
            obtain ⟨m0, ms', rfl⟩ : ∃ m0 ms', ms = m0 :: ms' := by
              cases ms with
              | nil => simp at hml; omega
              | cons a b => exact ⟨a, b, rfl⟩
            have hrow0 := (Fr.of_below (B := 0) (T := []) (S := []) HB5.out).own HOw.out (by simp) (by simp)
            rw [HZ'.out] at hrow0
            have hzb : z.bv = .slice Ab nb cb := by rw [← HZ.out]; exact HBV.out
            have hrow := own_set (own_set (own_set (own_set hrow0 (i := I * 4) (by omega) (.int .i64 z.it.seq)) (i := I * 4 + 1) (by omega) z.bv) (i := I * 4 + 2) (by omega) (.int .i64 z.it.tries)) (i := I * 4 + 3) (by omega) (.int .i64 z.it.due)
            rw [flatL_set4 zs' I hIl z, hzb] at hrow
            refine ⟨I + 1, J + 1, ms' ++ [z], by go_num, by go_num, by omega, by omega, by simp at hml ⊢; omega, by rw [hf2, List.length_append, ← hIk]; rfl, ?_, ?_⟩
            · have e : zs'.set I z = (zs.take (J + 1)).filter (keepL ack) ++ (ms' ++ [z]) ++ zs.drop (J + 1) := by
                rw [← HZ'.out, hf2, HSD.out, HZ.out, List.append_assoc, List.set_append_right _ _ (by omega), ← hIk, Nat.sub_self]
                simp
              rw [← e]
              exact hrow
            · exact (((((HFr.out.then HB5.out).setCell (p := ⟨g, I * 4, none⟩) _ (Nat.zero_le _) (.inl (by simp))).setCell (p := ⟨g, I * 4 + 1, none⟩) _ (Nat.zero_le _) (.inl (by simp))).setCell (p := ⟨g, I * 4 + 2, none⟩) _ (Nat.zero_le _) (.inl (by simp))).setCell (p := ⟨g, I * 4 + 3, none⟩) _ (Nat.zero_le _) (.inl (by simp)))
          case measure => simp [intOf]; omega
      · obtain rfl : J = zs.length := by omega
        obtain ⟨_, csg, hgr⟩ := own_block hown (by simp [Value.ownBlock] : (Value.slice (some ⟨g, 0, none⟩) zs.length c).ownBlock = some g)
        have hsz : zs.length * 4 ≤ csg.size := by
          obtain ⟨_, h | ⟨g', cap, cur, hv', _, hg', hnc, _, hcs, _⟩⟩ := hown
          · cases h.1
          · cases hv'
            rw [hgr] at hg'
            injection hg' with e
            injection e with e _ _
            subst e
            rw [hcs]; omega
        obtain ⟨vs, hvl, hcl⟩ := run_clear_many (P := Try.prog) wr 78 84 (.agg #[.int .i64 0, .slice none 0 0, .int .i64 0, .int .i64 0]) Try.underlying78 zeroItem (by decide) g (I * 4) (zs.length - I) (c - I) (by omega)
          (fun t ht => by rw [cell_at hgr]; simp [Value.cells] at ht ⊢; omega) (fun t _ => frozen_at hgr _)
        have hcne : ¬ c = I := by omega
        have hIc : I ≤ c := by omega
        have HVL := Lib.hid hvl
        clear hgr hsz hown hfr hI hms hbb2 hvl hbx2
        go_wp2
        go_ret
        have hI := HI.out
        have hcut := own_cut HOw.out (m := I) (ys := (zs.filter (keepL ack)).flatMap encL) (vs := vs) (by omega) (by
          rw [List.take_length] at hI ⊢
          rw [List.append_assoc, List.flatMap_append, List.take_append_of_le_length (by rw [flatL_len]; omega), List.take_of_length_le (by rw [flatL_len]; omega)]) (by have := HVL.out; simp [Value.cells] at this; omega)
        rw [List.take_length] at hI
        rw [← hI]
        exact ⟨_, rfl, hcut, by simp [Value.ownBlock], by simpa [Value.ownBlock] using Fr.setCells (Nat.zero_le _) vs _ _ HFr.out (.inl (by simp))⟩
end Go.Proofs.Ytnmbblkfaoihfaa

namespace Go.Proofs.Ytnmbblkfaoihfaa
open Go.RowKit

set_option maxRecDepth 100000 in
set_option maxHeartbeats 2000000 in
theorem lmay_any (k : LPk) (A : Option Addr) (c : Nat) (w : World) (hm : k.body.length ≤ 9223372036854775807) :
    Calls Try.prog 31 #[.agg #[.int .i64 k.seq, .int .i64 k.ack, .slice A k.body.length c]] w fun e w' => e = .returned (.bool (mayL k)) ∧ Below w.heap.size w w' := by
  obtain ⟨seq, ack, body⟩ := k
  simp only at hm ⊢
  obtain ⟨n, hn⟩ : ∃ n, body.length = n := ⟨_, rfl⟩
  have hv : mayL ⟨seq, ack, body⟩ = (decide (0 ≤ seq) && decide (seq ≤ 1099511627776) && decide (0 ≤ ack) && decide (ack ≤ 1099511627776) && decide (n ≤ 2048) && (decide (0 < seq) || decide (n = 0))) := by simp only [mayL, hn]
  rw [hv]
  rw [hn] at hm ⊢
  clear hv hn
  go_enter Try.func31, Try.ntmps31
  obtain ⟨r, hr⟩ : ∃ r, (decide (0 ≤ seq) && decide (seq ≤ 1099511627776) && decide (0 ≤ ack) && decide (ack ≤ 1099511627776) && decide (n ≤ 2048) && (decide (0 < seq) || decide (n = 0))) = r := ⟨_, rfl⟩
  rw [hr]
  by_cases a1 : 0 ≤ seq
  rotate_left 1
  · have hv : r = false := by rw [← hr]; simp; omega
    subst hv
    clear hr
    go_wp2
    go_ret
    exact ⟨rfl, (Below.refl _ _).alloc (Nat.le_refl _) _⟩
  by_cases a2 : seq ≤ 1099511627776
  rotate_left 1
  · have hv : r = false := by rw [← hr]; simp; omega
    subst hv
    clear hr
    go_wp2
    go_ret
    exact ⟨rfl, (Below.refl _ _).alloc (Nat.le_refl _) _⟩
  by_cases a3 : 0 ≤ ack
  rotate_left 1
  · have hv : r = false := by rw [← hr]; simp; omega
    subst hv
    clear hr
    go_wp2
    go_ret
    exact ⟨rfl, (Below.refl _ _).alloc (Nat.le_refl _) _⟩
  by_cases a4 : ack ≤ 1099511627776
  rotate_left 1
  · have hv : r = false := by rw [← hr]; simp; omega
    subst hv
    clear hr
    go_wp2
    go_ret
    exact ⟨rfl, (Below.refl _ _).alloc (Nat.le_refl _) _⟩
  by_cases a5 : n ≤ 2048
  rotate_left 1
  · have hv : r = false := by rw [← hr]; simp; omega
    subst hv
    clear hr
    go_wp2
    go_ret
    exact ⟨rfl, (Below.refl _ _).alloc (Nat.le_refl _) _⟩
  by_cases a6 : 0 < seq
  · have hv : r = true := by rw [← hr]; simp; omega
    subst hv
    clear hr
    go_wp2
    go_ret
    exact ⟨rfl, (Below.refl _ _).alloc (Nat.le_refl _) _⟩
  · by_cases a7 : n = 0
    · subst a7
      have hv : r = true := by rw [← hr]; simp; omega
      subst hv
      clear hr
      go_wp2
      go_ret
      exact ⟨rfl, (Below.refl _ _).alloc (Nat.le_refl _) _⟩
    · have a8 : ((n : Int) == 0) = false := by simp; omega
      have hv : r = false := by rw [← hr]; simp; omega
      subst hv
      clear hr
      go_wp2
      go_ret
      exact ⟨rfl, (Below.refl _ _).alloc (Nat.le_refl _) _⟩

set_option maxRecDepth 100000 in
set_option maxHeartbeats 2000000 in
theorem rmay_any (k : LPk) (A : Option Addr) (c : Nat) (w : World) (hm : k.body.length ≤ 9223372036854775807) :
    Calls Try.prog 32 #[.agg #[.int .i64 k.seq, .int .i64 k.ack, .slice A k.body.length c]] w fun e w' => e = .returned (.bool (mayL k)) ∧ Below w.heap.size w w' := by
  obtain ⟨seq, ack, body⟩ := k
  simp only at hm ⊢
  obtain ⟨n, hn⟩ : ∃ n, body.length = n := ⟨_, rfl⟩
  have hv : mayL ⟨seq, ack, body⟩ = (decide (0 ≤ seq) && decide (seq ≤ 1099511627776) && decide (0 ≤ ack) && decide (ack ≤ 1099511627776) && decide (n ≤ 2048) && (decide (0 < seq) || decide (n = 0))) := by simp only [mayL, hn]
  rw [hv]
  rw [hn] at hm ⊢
  clear hv hn
  go_enter Try.func32, Try.ntmps32
  obtain ⟨r, hr⟩ : ∃ r, (decide (0 ≤ seq) && decide (seq ≤ 1099511627776) && decide (0 ≤ ack) && decide (ack ≤ 1099511627776) && decide (n ≤ 2048) && (decide (0 < seq) || decide (n = 0))) = r := ⟨_, rfl⟩
  rw [hr]
  by_cases a1 : 0 ≤ seq
  rotate_left 1
  · have hv : r = false := by rw [← hr]; simp; omega
    subst hv
    clear hr
    go_wp2
    go_ret
    exact ⟨rfl, (Below.refl _ _).alloc (Nat.le_refl _) _⟩
  by_cases a2 : seq ≤ 1099511627776
  rotate_left 1
  · have hv : r = false := by rw [← hr]; simp; omega
    subst hv
    clear hr
    go_wp2
    go_ret
    exact ⟨rfl, (Below.refl _ _).alloc (Nat.le_refl _) _⟩
  by_cases a3 : 0 ≤ ack
  rotate_left 1
  · have hv : r = false := by rw [← hr]; simp; omega
    subst hv
    clear hr
    go_wp2
    go_ret
    exact ⟨rfl, (Below.refl _ _).alloc (Nat.le_refl _) _⟩
  by_cases a4 : ack ≤ 1099511627776
  rotate_left 1
  · have hv : r = false := by rw [← hr]; simp; omega
    subst hv
    clear hr
    go_wp2
    go_ret
    exact ⟨rfl, (Below.refl _ _).alloc (Nat.le_refl _) _⟩
  by_cases a5 : n ≤ 2048
  rotate_left 1
  · have hv : r = false := by rw [← hr]; simp; omega
    subst hv
    clear hr
    go_wp2
    go_ret
    exact ⟨rfl, (Below.refl _ _).alloc (Nat.le_refl _) _⟩
  by_cases a6 : 0 < seq
  · have hv : r = true := by rw [← hr]; simp; omega
    subst hv
    clear hr
    go_wp2
    go_ret
    exact ⟨rfl, (Below.refl _ _).alloc (Nat.le_refl _) _⟩
  · by_cases a7 : n = 0
    · subst a7
      have hv : r = true := by rw [← hr]; simp; omega
      subst hv
      clear hr
      go_wp2
      go_ret
      exact ⟨rfl, (Below.refl _ _).alloc (Nat.le_refl _) _⟩
    · have a8 : ((n : Int) == 0) = false := by simp; omega
      have hv : r = false := by rw [← hr]; simp; omega
      subst hv
      clear hr
      go_wp2
      go_ret
      exact ⟨rfl, (Below.refl _ _).alloc (Nat.le_refl _) _⟩

end Go.Proofs.Ytnmbblkfaoihfaa
