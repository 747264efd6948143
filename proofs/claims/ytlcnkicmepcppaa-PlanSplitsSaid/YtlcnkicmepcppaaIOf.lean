/- items.Of and the reference's. -/
import Derived.Test.YtlcnkicmepcppaaIXMay
namespace Go.Proofs.Ytlcnkicmepcppaa
open Go.RowKit Go.Shelf
attribute [local go_sem] Oper.semAt_some

/-- The sum as the code reckons it. -/
def stepW (g : ByteArray) (s : Int) (x : It) : Int := if x.good.toList == g.toList then wrap64 (s + x.n) else s
def ofW (l : List It) (g : ByteArray) : Int := l.foldl (stepW g) 0
theorem ofW_snoc (l : List It) (x : It) (g : ByteArray) : ofW (l ++ [x]) g = stepW g (ofW l g) x := by
  unfold ofW
  rw [List.foldl_append]
  rfl
theorem ofI_take {l : List It} {k : Nat} (hk : k < l.length) (g : ByteArray) : ofI (l.take (k + 1)) g = if l[k].good.toList == g.toList then ofI (l.take k) g + l[k].n else ofI (l.take k) g := by
  rw [List.take_succ_eq_append_getElem hk, ofI_snoc]
theorem ofW_eq {l : List It} (g : ByteArray) (h : ∀ x ∈ l, 1 ≤ x.n ∧ x.n ≤ 1099511627776) (hm : l.length ≤ 1000) : ofW l g = ofI l g := by
  have key : ∀ k, k ≤ l.length → ofW (l.take k) g = ofI (l.take k) g := fun k => by
    induction k with
    | zero => intro _; rfl
    | succ k ih =>
      intro hk
      rw [ofI_take (by omega), List.take_succ_eq_append_getElem (by omega), ofW_snoc, ih (by omega)]
      unfold stepW
      have h1 := ofI_bd (l := l.take k) g (fun x hx => h x (List.mem_of_mem_take hx))
      have h2 := h _ (List.getElem_mem (show k < l.length by omega))
      have h3 : (l.take k).length ≤ 1000 := by rw [List.length_take]; omega
      split
      · exact IntWalk.wrap64_in _ (by omega)
      · rfl
  have := key l.length (Nat.le_refl _)
  rwa [List.take_length] at this
/-- Between two rounds. -/
def OfJ (w : World) (g : ByteArray) (pre : List BIt) (W : World) : Prop :=
  (W.heap[w.heap.size]? = some (.cells #[.string g] 9 (0, 0)) ∧ W.heap[w.heap.size + 1]? = some (.cells #[.int .i64 (ofW (pre.map (·.1)) g)] 3 (0, 0))) ∧ Below w.heap.size w W
theorem ofJ_own {w : World} {g : ByteArray} {B : Nat} (hB : w.heap.size ≤ B) : OwnFrom B (OfJ w g) := by
  rintro pre W W' row ⟨⟨h2, h3⟩, hb⟩ hg hr
  have hr' : ∀ r, row = some r → ∃ o : Obj, W.heap[r]? = some o ∧ o.isCells = false := fun r e => (hr r e).2
  exact ⟨⟨block_own h2 hg hr', block_own h3 hg hr'⟩, hb.grown hg hb.size (fun k e => Nat.le_trans hB (hr k e).1)⟩

set_option maxRecDepth 100000 in
set_option maxHeartbeats 2000000 in
theorem ofW_any (A : Option Addr) (c : Nat) (rs : List It) (g : ByteArray) (w : World) (hr : Rd w 2 A rs.length (rs.flatMap encI)) (hb : ∀ z ∈ rs, BdIt z) (hm : rs.length ≤ 4611686018427387903) :
    Calls Try.prog 49 #[.slice A rs.length c, .string g] w fun e w' => e = .returned (.int .i64 (ofW rs g)) ∧ Below w.heap.size w w' := by
  obtain ⟨qs, hq⟩ := bits_of hb
  refine (callsIn_wide (n := 9)).1 ?_
  refine callsIn_of_wp_marks Try.func49 rfl trivial ?_ rfl
  simp only [Try.ntmps49, List.size_toArray, List.length_cons, List.length_nil, Nat.reduceAdd, Nat.reduceSub, Array.replicate_succ, Array.replicate_zero, List.push_toArray, List.append_toArray, List.nil_append, List.cons_append]
  refine wpIn_wide.2 ?_
  have HQ := Lib.hid hq
  clear hq
  go_wp2_with fail
  refine (all_any _ _ _ _).mono ?_
  rintro e w1 ⟨rfl, hw1⟩
  have b0 := block_alloc (block_alloc (block_new w (.cells #[.string g] 9)) (.cells #[.int .i64 0] 3)) (.cells #[.slice A rs.length c] 26)
  have b1 := block_alloc (block_new (w.alloc (.cells #[.string g] 9)) (.cells #[.int .i64 0] 3)) (.cells #[.slice A rs.length c] 26)
  have b2 := block_new ((w.alloc (.cells #[.string g] 9)).alloc (.cells #[.int .i64 0] 3)) (.cells #[.slice A rs.length c] 26)
  have hB1 := (((Below.refl _ w).alloc (Nat.le_refl _) (.cells #[.string g] 9)).alloc (by simp) (.cells #[.int .i64 0] 3)).alloc (by simp; omega) (.cells #[.slice A rs.length c] 26)
  rw [show ((w.alloc (.cells #[.string g] 9)).alloc (.cells #[.int .i64 0] 3)).alloc (.cells #[.slice A rs.length c] 26) = w1 from hw1] at b0 b1 b2 hB1
  simp only [World.size_alloc] at b1 b2
  have hsz1 : w.heap.size ≤ w1.heap.size := hB1.size
  have HRD := Lib.hid (hr.below hB1)
  have hA : ∀ a, A = some a → 0 < rs.length → a.block < w.heap.size := fun a ha hp => by
    obtain ⟨g, o', e, hg, _⟩ := hr.2 hp
    rw [e] at ha
    cases ha
    exact hg
  clear hw1 hr
  go_wp2_with fail
  refine (wpIn_wide (n := 9)).1 ?_
  refine wpIn_rangeFunc_ownF rfl (by omega) (gf := 51) (lb := #[.pointer (some ⟨w.heap.size + 1 + 1, 0, none⟩)]) rfl trivial (enters_of Try.func51 (by kernel_rfl) rfl)
    (all_iter _ w.heap.size (w.heap.size + 1 + 1) A c rs qs HQ.out w1 (by rw [cell_at b2]; rfl) HRD.out hm (by omega) hA) belowK_t (belowK_b hsz1) (Below.refl _ _) (fun _ => rfl)
    (OfJ w g) (fun _ _ _ => False) (ofJ_own hsz1) (fun _ _ _ _ _ hs _ _ => hs)
    ⟨⟨b0, b1⟩, hB1⟩
    (fun x => { tmps := #[.slice A rs.length c, .string g, undef, .pointer (some ⟨w.heap.size, 0, none⟩), .int .i64 0, .pointer (some ⟨w.heap.size + 1, 0, none⟩), .string x.1.good, .int .i64 x.1.n, .slice A rs.length c, .func (.func 51) #[] #[.pointer (some ⟨w.heap.size + 1 + 1, 0, none⟩)], .string x.1.good, .int .i64 x.1.n, undef, undef, undef, undef, undef, undef, undef], defers := [] }) ?assign ?body ?done ?stop
  case assign =>
    intro l x W K hK
    dsimp only [encRowI]
    gi_wp2
    exact hK
  case stop =>
    rintro D c pre W3 hD hpre hf _
    exact hf.elim
  case done =>
    rintro D xs W3 hD rfl ⟨⟨h0, h1⟩, hB⟩ hK
    rw [HQ.out] at h1
    have q1 := cell_at h1 0
    have HB := Lib.hid hB
    clear h0 h1 hB b0 b1 b2 hB1
    go_wp2
    refine ⟨by simp, .inl ⟨_, _, rfl, run_takeDeferred hK, ?_⟩⟩
    refine ⟨.int .i64 (ofW rs g), by simp [results, Try.f49, go_sem], rfl, HB.out.trans (belowK_b (w := w) (Nat.le_refl _) W3 D _ _ (by omega) hK rfl rfl)⟩
  case body =>
    rintro l pre x W hJ hlt
    have HJ := Lib.hid hJ
    obtain ⟨⟨h2, h3⟩, hB⟩ := hJ
    obtain ⟨s, hs⟩ : ∃ s, ofW (pre.map (·.1)) g = s := ⟨_, rfl⟩
    rw [hs] at h3
    have HS := Lib.hid hs
    have k2 : W.cell? ⟨w.heap.size, 0, none⟩ = some (.string g) := by rw [cell_at h2]; rfl
    have k4 : W.cell? ⟨w.heap.size + 1, 0, none⟩ = some (.int .i64 s) := by rw [cell_at h3]; rfl
    have k5 := frozen_at h3 0
    have hsn : ofW ((pre ++ [x]).map (·.1)) g = stepW g s x.1 := by rw [List.map_append, List.map_cons, List.map_nil, ofW_snoc, hs]
    have HSN := Lib.hid hsn
    have H2 := Lib.hid h2
    have H3 := Lib.hid h3
    obtain ⟨T, hT⟩ : ∃ T, (x.1.good.toList == g.toList) = T := ⟨_, rfl⟩
    have HT := Lib.hid hT
    clear hs hB hlt b0 b1 b2 hB1 hsn h2 h3
    cases T
    · gi_wp2_with fail
      refine ⟨KeepsOthers.refl _, Below.refl _ _, ⟨H2.out, ?_⟩, HJ.out.2⟩
      rw [HSN.out, show stepW g s x.1 = s by unfold stepW; rw [HT.out]; rfl]
      exact H3.out
    · gi_wp2_with fail
      refine ⟨KeepsOthers.setCell _ _ _, (Below.refl _ _).setCell (p := ⟨w.heap.size + 1, 0, none⟩) (by simp) _, ⟨block_far H2.out (by simp) _, ?_⟩, HJ.out.2.setCell (p := ⟨w.heap.size + 1, 0, none⟩) (by simp) _⟩
      rw [HSN.out, show stepW g s x.1 = wrap64 (s + x.1.n) by unfold stepW; rw [HT.out]; rfl]
      simpa using block_set H3.out 0 (.int .i64 (wrap64 (s + x.1.n)))
theorem of_any (A : Option Addr) (c : Nat) (rs : List It) (g : ByteArray) (w : World) (hr : Rd w 2 A rs.length (rs.flatMap encI)) (hb : ∀ z ∈ rs, BdIt z) (hn : ∀ x ∈ rs, 1 ≤ x.n ∧ x.n ≤ 1099511627776) (hm : rs.length ≤ 1000) :
    Calls Try.prog 49 #[.slice A rs.length c, .string g] w fun e w' => e = .returned (.int .i64 (ofI rs g)) ∧ Below w.heap.size w w' :=
  ofW_eq g hn hm ▸ ofW_any A c rs g w hr hb (by omega)

set_option maxRecDepth 100000 in
set_option maxHeartbeats 1000000 in
theorem xof_any (A : Option Addr) (c : Nat) (l : List It) (gd : ByteArray) (w : World) (hr : Rd w 2 A l.length (l.flatMap encI)) (hn : ∀ x ∈ l, 1 ≤ x.n ∧ x.n ≤ 1099511627776) (hm : l.length ≤ 1000) :
    Calls Try.prog 41 #[.slice A l.length c, .string gd] w fun e w' => e = .returned (.int .i64 (ofI l gd)) ∧ w = w' := by
  obtain ⟨m, hm2⟩ : ∃ m, l.length = m := ⟨_, rfl⟩
  have HM := Lib.hid hm2
  have HRD := Lib.hid hr
  have HN := Lib.hid hn
  rw [hm2] at hm ⊢
  clear hr hn hm2
  go_enter Try.func41, Try.ntmps41
  go_wp2_with fail
  go_loop [5, 6] (fun sv iv => ∃ k : Nat, k ≤ m ∧ iv = .int .i64 k ∧ sv = .int .i64 (ofI (l.take k) gd)) (fun _ iv => m - (intOf iv).toNat)
  case atStart => exact ⟨0, Nat.zero_le _, rfl, rfl⟩
  case round =>
    obtain ⟨k, hk, rfl, rfl⟩ := hrel
    by_cases hlt : k < m
    · have hkl : k < l.length := by have := HM.out; omega
      obtain ⟨g, o, rfl, hg, c0, c1⟩ := rdi_at HRD.out hkl
      have hnx := HN.out _ (List.getElem_mem hkl)
      have htk := ofI_take hkl gd
      have hbd := ofI_bd (l := l.take k) gd (fun x hx => HN.out x (List.mem_of_mem_take hx))
      have hlk : (l.take k).length ≤ 1000 := by rw [List.length_take]; omega
      obtain ⟨s, hs⟩ : ∃ s, ofI (l.take k) gd = s := ⟨_, rfl⟩
      obtain ⟨z, hz⟩ : ∃ z, l[k] = z := ⟨_, rfl⟩
      rw [hz] at c0 c1 htk hnx
      rw [hs] at hbd htk ⊢
      obtain ⟨T, hT⟩ : ∃ T, (z.good.toList == gd.toList) = T := ⟨_, rfl⟩
      rw [hT] at htk
      have HTK := Lib.hid htk
      have hs2 : -10000000000000000 ≤ s ∧ s ≤ 10000000000000000 := by
        have : 1099511627776 * ((l.take k).length : Int) ≤ 1099511627776 * 1000 := by omega
        omega
      clear htk hs hz hbd hlk
      cases T
      · go_wp2_with fail
        go_round
        case rel => exact ⟨k + 1, by omega, by go_num, by rw [HTK.out]; rfl⟩
        case measure => simp [intOf]; omega
      · go_wp2_with fail
        go_round
        case rel => exact ⟨k + 1, by omega, by go_num, by rw [HTK.out]; rfl⟩
        case measure => simp [intOf]; omega
    · have hall : ofI (l.take k) gd = ofI l gd := by rw [List.take_of_length_le (by have := HM.out; omega)]
      have HALL := Lib.hid hall
      clear hall
      go_wp2
      go_ret
      exact ⟨ret_int HALL.out, rfl⟩
end Go.Proofs.Ytlcnkicmepcppaa
