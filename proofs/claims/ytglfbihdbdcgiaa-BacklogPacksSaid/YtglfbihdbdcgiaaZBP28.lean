/- Joined: The reference's Unpack. -/
import Derived.Test.YtglfbihdbdcgiaaZBP26
import Derived.Test.YtglfbihdbdcgiaaZBP25
import Derived.Test.YtglfbihdbdcgiaaZBP27
namespace Go.Proofs.Ytglfbihdbdcgiaa
open Go.RowKit

theorem IsBy.lt {w : World} {A : Option Addr} {c : Nat} {bs : List Nat} (h : IsBy w A c bs) : 0 < bs.length → ∀ a, A = some a → a.block < w.heap.size := fun hn a ha => by
  obtain ⟨g, o, e, hg, _⟩ := h.2.2.1.2 (by simpa using hn)
  rw [e] at ha
  cases ha
  exact hg
/-- The reference's taker of bytes that came in. -/
theorem ist_of_by {w W : World} {A : Option Addr} {c p : Nat} {bs : List Nat} {T : TypeId} (h : IsBy w A c bs) (hb : Below w.heap.size w W) (hp : W.heap[p]? = some (.cells #[.slice A bs.length c, .bool false] T (0, 0))) :
    ∃ D : Option Nat, IsT W T p D (bs, false) ∧ ∀ d, D = some d → d < w.heap.size := by
  refine ⟨if 0 < bs.length then A.map (·.block) else none, ⟨A, c, hp, h.1, by have := h.2.1; unfold maxLen; omega, h.2.2.1.below hb, fun hn a ha => ?_, h.2.2.2.1, h.2.2.2.2⟩, fun d hd => ?_⟩
  · simp only at hn
    rw [if_pos hn, ha]; rfl
  · split at hd
    · rename_i hn
      cases hA : A with
      | none => rw [hA] at hd; simp at hd
      | some a => rw [hA] at hd; simp at hd; rw [← hd]; exact h.lt hn a hA
    · cases hd
/-- A backlog that a call has made. -/
theorem own_zero2 {w : World} {B B' e size n : Nat} {v : Value} {xs : List Value} (h : w.ownsRow B e size v n xs) (hB : B' ≤ B) : w.ownsRow B' e size v n xs := by
  refine ⟨h.1, ?_⟩
  rcases h.2 with h | ⟨g, cap, cur, h1, h2, h3⟩
  · exact .inl h
  · exact .inr ⟨g, cap, cur, h1, by omega, h3⟩
/-- What Unpack answers. -/
def RetUn (IsO : World → Nat → Nat → List (Int × Bool) → Int → Prop) (ok no : Value) (r : Option (List (Int × Bool) × Int)) (w : World) (e : Ending) (w' : World) : Prop :=
  (match r with
    | none => e = .returned (.tuple #[.pointer none, no])
    | some (rs, out) => ∃ q, e = .returned (.tuple #[.pointer (some ⟨q, 0, none⟩), ok]) ∧ IsO w' w.heap.size q rs out) ∧ Below w.heap.size w w'
theorem retUn_none {IsO : World → Nat → Nat → List (Int × Bool) → Int → Prop} {ok no : Value} {r : Option (List (Int × Bool) × Int)} {w w' : World} (h : r = none) (hb : Below w.heap.size w w') : RetUn IsO ok no r w (.returned (.tuple #[.pointer none, no])) w' := by
  subst h; exact ⟨rfl, hb⟩
theorem retUn_some {IsO : World → Nat → Nat → List (Int × Bool) → Int → Prop} {ok no : Value} {r : Option (List (Int × Bool) × Int)} {w w' : World} {rs : List (Int × Bool)} {out : Int} {q : Nat} (h : r = some (rs, out)) (hi : IsO w' w.heap.size q rs out) (hb : Below w.heap.size w w') : RetUn IsO ok no r w (.returned (.tuple #[.pointer (some ⟨q, 0, none⟩), ok])) w' := by
  subst h; exact ⟨⟨q, rfl, hi⟩, hb⟩
theorem numT_nat (s : List Nat × Bool) (b : Int) (hb : 0 ≤ b) : ∃ n : Nat, (numT s 0 b).1 = n ∧ (n : Int) ≤ b := by
  rcases numT_range s 0 b with h | h
  · exact ⟨0, by rw [h]; rfl, hb⟩
  · exact ⟨(numT s 0 b).1.toNat, by omega, by omega⟩
theorem xubOf {w W : World} {TT : TypeId} {pt pb : Nat} {D : Option Nat} {s : List Nat × Bool} {v : Value} {rs : List (Int × Bool)} {out : Int} (h : UB w TT 43 66 pt pb D s v rs out W) : IsX W pb pb rs out := ⟨Nat.le_refl _, v, h.b, h.r⟩
theorem xubLow {w W : World} {TT : TypeId} {pt pb : Nat} {D : Option Nat} {s : List Nat × Bool} {v : Value} {rs : List (Int × Bool)} {out : Int} (h : UB w TT 43 66 pt pb D s v rs out W) : IsX W w.heap.size pb rs out := by
  have h1 := h.low
  have h2 := h.lt
  exact ⟨by omega, v, h.b, own_zero2 h.r (by omega)⟩

set_option maxRecDepth 100000 in
set_option maxHeartbeats 2000000 in
theorem xunpack_any (A : Option Addr) (c : Nat) (bs : List Nat) (w : World) (hby : IsBy w A c bs) :
    Calls Try.prog 29 #[.slice A bs.length c] w (RetUn IsX (.bool true) (.bool false) (unB bs) w) := by
  obtain ⟨i0, hi0, hz0, hz1, hz2⟩ := info_parts Try.infoX
  have hun : unB bs = endB (numT (bs, false) 0 9223372036854775807).1 (okR (unX (numT (numT (bs, false) 0 9223372036854775807).2 0 256).1.toNat [] (numT (numT (bs, false) 0 9223372036854775807).2 0 256).2)) := by rw [okR_eq]; rfl
  obtain ⟨o1, s1, e1⟩ : ∃ n s, numT (bs, false) 0 9223372036854775807 = (n, s) := ⟨_, _, rfl⟩
  obtain ⟨o2, s2, e2⟩ : ∃ n s, numT s1 0 256 = (n, s) := ⟨_, _, rfl⟩
  obtain ⟨n, hn, hn2⟩ := numT_nat s1 256 (by omega)
  rw [e1] at hun
  simp only [e2] at hun hn
  subst hn
  simp only [Int.toNat_natCast] at hun
  have hn2 : n ≤ 256 := by omega
  obtain ⟨wa, hwa⟩ : ∃ wa, w.alloc (.cells #[.slice A bs.length c, .bool false] 74) = wa := ⟨_, rfl⟩
  have hba : Below w.heap.size w wa := by rw [← hwa]; exact (Below.refl _ w).alloc (Nat.le_refl _) _
  have hp0 : wa.heap[w.heap.size]? = some (.cells #[.slice A bs.length c, .bool false] 74 (0, 0)) := by rw [← hwa]; exact block_new _ _
  obtain ⟨D, hT, hD⟩ := ist_of_by hby hba hp0
  have HUN := Lib.hid hun
  have E1 := Lib.hid e1
  have E2 := Lib.hid e2
  have HWA := Lib.hid hwa
  have HBA := Lib.hid hba
  have HT := Lib.hid hT
  have HD := Lib.hid hD
  clear hun e1 e2 hwa hba hp0 hT hD hby
  go_enter Try.func29, Try.ntmps29
  obtain ⟨pt, hpt⟩ : ∃ pt, w.heap.size = pt := ⟨_, rfl⟩
  have HPT := Lib.hid hpt
  rw [hpt] at HT HD HBA
  go_wp2_with fail
  rw [HWA.out]
  clear hpt
  refine (rtnum_any pt D _ 0 9223372036854775807 wa HT.out (fun e => by have := HD.out _ e; omega)).mono ?_
  rintro e w2 ⟨rfl, hT2, hf2⟩
  rw [E1.out] at hT2 ⊢
  have HT2 := Lib.hid hT2
  have HB2 : Hid (Below w.heap.size w w2) := Lib.hid ((HPT.out ▸ HBA.out : Below w.heap.size w wa).trans (hf2.belowT (by rw [HPT.out]; exact Nat.le_refl _) (HPT.out ▸ (HPT.out ▸ HBA.out : Below w.heap.size w wa).size)))
  clear hT2 hf2
  go_wp2_with fail
  obtain ⟨w3, hw3⟩ : ∃ w3, w2.alloc (.cells #[.slice none 0 0, .int .i64 o1] 43) = w3 := ⟨_, rfl⟩
  obtain ⟨pb, hpb⟩ : ∃ pb, w2.heap.size = pb := ⟨_, rfl⟩
  have h3 : UB w 74 43 66 pt pb D s1 (.slice none 0 0) [] o1 w3 := by
    have hb : Below w2.heap.size w2 w3 := by rw [← hw3]; exact (Below.refl _ w2).alloc (Nat.le_refl _) _
    have hlt := HT2.out.lt
    exact ⟨HT2.out.below hb, by omega, fun d hd => by have := HD.out d hd; omega, by rw [HPT.out]; exact Nat.le_refl _, by rw [← hw3, ← hpb]; exact block_new _ _, World.ownsRow_nil _ _ _ _, HB2.out.trans (hb.mono HB2.out.size)⟩
  have H3 := Lib.hid h3
  rw [hw3, hpb]
  clear h3 hw3 hpb HT2 HT HB2 HBA HWA
  refine (rtnum_any pt D _ 0 256 w3 H3.out.t H3.out.dp).mono ?_
  intro e w4 hr
  obtain ⟨rfl, h4⟩ := H3.out.turn hr
  rw [E2.out] at h4 ⊢
  have H4 := Lib.hid h4
  clear hr h4 H3
  go_wp2_with fail
  go_loopw [7] (fun iv wr => ∃ (k : Nat) (s : List Nat × Bool) (v : Value) (rs : List (Int × Bool)), k ≤ n ∧ rs.length = k ∧ iv = .int .i64 k ∧ UB w 74 43 66 pt pb D s v rs o1 wr ∧ okR (unX (n - k) rs s) = okR (unX n [] s2)) (fun iv _ => n - (intOf iv).toNat)
  case atStart => exact ⟨0, s2, _, [], Nat.zero_le _, rfl, rfl, H4.out, by simp⟩
  case round =>
    obtain ⟨k, s, v, rs, hk, hrs, rfl, hu, hok⟩ := hrel
    have HU := Lib.hid hu
    have HOK := Lib.hid hok
    have HRS := Lib.hid hrs
    obtain ⟨At, ct, kt, _⟩ := id hu.t
    have t1 : wr.cell? ⟨pt, 1, none⟩ = some (.bool s.2) := cell_at kt 1
    clear hu hok hrs kt H4
    by_cases hlt : k < n ∧ s.2 = false
    · obtain ⟨hlt, hs⟩ := hlt
      rw [hs] at t1
      have HS := Lib.hid hs
      clear hs
      have hdk : decide (k < n) = true := decide_eq_true hlt
      go_wp2_with fail
      refine (rtnum_any pt D _ 1 9223372036854775807 wr HU.out.t HU.out.dp).mono ?_
      intro e w5 hr
      obtain ⟨rfl, h5⟩ := HU.out.turn hr
      obtain ⟨x, hx⟩ : ∃ x, numT s 1 9223372036854775807 = x := ⟨_, rfl⟩
      rw [hx] at h5 ⊢
      have HX := Lib.hid hx
      have H5 := Lib.hid h5
      clear hr h5 hx t1
      go_wp2_with fail
      obtain ⟨px, hpx⟩ : ∃ px, w5.heap.size = px := ⟨_, rfl⟩
      have hb6 : Below w5.heap.size w5 (w5.alloc (.cells #[.int .i64 x.1, .bool false] 66)) := (Below.refl _ w5).alloc (Nat.le_refl _) _
      have h6 := H5.out.below hb6
      have hq6 : (w5.alloc (.cells #[.int .i64 x.1, .bool false] 66)).heap[px]? = some (.cells #[.int .i64 x.1, .bool false] 66 (0, 0)) := by rw [← hpx]; exact block_new _ _
      have hpbx : pb < px := by have := lt_of_block H5.out.b; omega
      have hgx : ∀ g, v.ownBlock = some g → g ≠ px := fun g hg => by have := H5.out.own_lt g hg; omega
      have hptx : pt < pb := H5.out.lt
      rw [hpx]
      obtain ⟨w6, hw6⟩ : ∃ w6, w5.alloc (.cells #[.int .i64 x.1, .bool false] 66) = w6 := ⟨_, rfl⟩
      rw [hw6] at h6 hq6 ⊢
      have H6 := Lib.hid h6
      have HQ6 := Lib.hid hq6
      have HGX := Lib.hid hgx
      clear hb6 h6 hq6 hw6 hpx hgx H5
      refine (rtflag_any pt D _ w6 H6.out.t H6.out.dp).mono ?_
      intro e w7 hr
      have hf7 := hr.2.2
      obtain ⟨rfl, h7⟩ := H6.out.turn hr
      obtain ⟨y, hy⟩ : ∃ y, flagT x.2 = y := ⟨_, rfl⟩
      rw [hy] at h7 ⊢
      have HY := Lib.hid hy
      have hq7 := hf7.keep0 HQ6.out (by simp; omega)
      have h8 := h7.set hpbx HGX.out 1 (.bool y.1)
      have hq8 := block_set hq7 1 (.bool y.1)
      obtain ⟨A8, c8, k8, _⟩ := id h8.t
      have b8 : (w7.setCell ⟨px, 1, none⟩ (.bool y.1)).cell? ⟨pt, 1, none⟩ = some (.bool y.2.2) := cell_at k8 1
      have x8 : (w7.setCell ⟨px, 1, none⟩ (.bool y.1)).cell? ⟨px, 0, none⟩ = some (.int .i64 x.1) := cell_at hq8 0
      have y7 : w7.cell? ⟨px, 1, none⟩ = some (.bool false) := cell_at hq7 1
      have z7 := frozen_at hq7 1
      have H8 := Lib.hid h8
      have HQ8 := Lib.hid hq8
      obtain ⟨m, hm⟩ : ∃ m, n - k = m + 1 := ⟨n - k - 1, by omega⟩
      have HM := Lib.hid hm
      have hstep : unX (n - k) rs s = if y.2.2 = true ∨ at_ rs x.1 ≠ -1 then none else unX m (rs ++ [(x.1, y.1)]) y.2 := by
        rw [hm, unX, if_neg (by rw [HS.out]; simp), HX.out, hy]
      have HST := Lib.hid hstep
      clear hr hf7 h7 hy hq7 h8 hq8 k8 hm hstep
      obtain ⟨bad, hbd⟩ : ∃ b, y.2.2 = b := ⟨_, rfl⟩
      rw [hbd] at b8
      have HBD := Lib.hid hbd
      clear hbd
      cases bad
      · go_wp2_with fail
        obtain ⟨w8, hw8⟩ : ∃ w8, w7.setCell ⟨px, 1, none⟩ (.bool y.1) = w8 := ⟨_, rfl⟩
        rw [hw8] at H8 HQ8 ⊢
        clear b8 x8 y7 z7 hw8
        refine (xplace x.1 pb pb rs o1 w8 (xubOf H8.out) (by rw [HRS.out]; omega)).mono ?_
        rintro e w9 ⟨rfl, hb9⟩
        have H9 := Lib.hid (H8.out.below hb9)
        have HQ9 := Lib.hid ((hb9.block _ (lt_of_block HQ8.out)).trans HQ8.out)
        obtain ⟨i, hi⟩ : ∃ i, idx (fun r => r.1 == x.1) rs = i := ⟨_, rfl⟩
        have hi1 := (idx_ge (fun r => r.1 == x.1) rs).1
        rw [hi] at hi1 ⊢
        have HI : Hid (at_ rs x.1 = i) := Lib.hid hi
        clear hb9 hi
        by_cases hm1 : i = -1
        · subst hm1
          have hok' : okR (unX m (rs ++ [(x.1, y.1)]) y.2) = okR (unX n [] s2) := by
            rw [← HOK.out, HST.out, if_neg (by rw [HBD.out, HI.out]; simp)]
          have HOK' := Lib.hid hok'
          obtain ⟨Av, cv, rfl, kv1, kv2, _⟩ := own_slice H9.out.r
          rw [HRS.out] at kv1
          obtain ⟨o, ho⟩ : ∃ o, x.1 = o := ⟨_, rfl⟩
          obtain ⟨f, hf⟩ : ∃ f, y.1 = f := ⟨_, rfl⟩
          rw [ho, hf] at HQ9 HOK'
          have hpx9 := lt_of_block HQ9.out
          have hpb9 := lt_of_block H9.out.b
          have HC9 : Hid (UB w 74 43 66 pt pb D y.2 (.slice Av rs.length cv) rs o1 w9.drew) := Lib.hid (H9.out.below (Below.refl _ w9).drew)
          simp only [ho] at *
          clear hok' ho hf hi1 kv2
          go_wp2_with fail
          refine wp_region_flow2 (fun W => Fr 0 [66] [] w9 W ∧ W.heap[px]? = some (.cells #[.int .i64 o, .bool f] 66 (0, 0))) (fun W => UB w 74 43 66 pt pb D y.2 (.slice Av rs.length cv) rs o1 W) [0, 1, 2, 3, 4, 5, 6, 7, 8, 9, 10] (by kernel_rfl) (by kernel_rfl) (by kernel_rfl) (⟨(Fr.refl w9).drew, HQ9.out⟩) (HC9.out) ?_
          refine flow_val ?_ rfl (by kernel_rfl) (by rfl) (fun W hW => ?_) ?_
          rotate_left 1
          · go_simp <;> with_reducible rfl
          simp only [Act.put, List.setIfInBounds_toArray, List.set_cons_succ, List.set_cons_zero]
          refine flow_val ?_ rfl (by kernel_rfl) (by rfl) (fun W hW => ?_) ?_
          rotate_left 1
          · go_simp <;> with_reducible rfl
          simp only [Act.put, List.setIfInBounds_toArray, List.set_cons_succ, List.set_cons_zero]
          refine flow_val ?_ rfl (by kernel_rfl) (by rfl) (fun W hW => ?_) ?_
          rotate_left 1
          · go_simp <;> with_reducible rfl
          simp only [Act.put, List.setIfInBounds_toArray, List.set_cons_succ, List.set_cons_zero]
          refine flow_val ?_ rfl (by kernel_rfl) (by rfl) (fun W hW => ?_) ?_
          rotate_left 1
          · go_simp <;> with_reducible rfl
          simp only [Act.put, List.setIfInBounds_toArray, List.set_cons_succ, List.set_cons_zero]
          refine flow_val ?_ rfl (by kernel_rfl) (by rfl) (fun W hW => ?_) ?_
          rotate_left 1
          · have c1 : W.cell? ⟨pb, 0, none⟩ = some (.slice Av rs.length cv) := cell_at (hW.1.keep H9.out.b (by decide) (by simp)) 0; go_simp <;> with_reducible rfl
          simp only [Act.put, List.setIfInBounds_toArray, List.set_cons_succ, List.set_cons_zero]
          refine flow_val ?_ rfl (by kernel_rfl) (by rfl) (fun W hW => ?_) ?_
          rotate_left 1
          · have c1 : W.cell? ⟨px, 0, none⟩ = some (.int .i64 o) := cell_at hW.2 0; have c2 : W.cell? ⟨px, 1, none⟩ = some (.bool f) := cell_at hW.2 1; go_simp <;> with_reducible rfl
          simp only [Act.put, List.setIfInBounds_toArray, List.set_cons_succ, List.set_cons_zero]
          refine flow_gmake (fun v W => ∃ g', v = .slice (some ⟨g', 0, none⟩) 1 1 ∧ W.heap[g']? = some (.cells #[.int .i64 o, .bool f] 66 (0, 0)) ∧ UB w 74 43 66 pt pb D y.2 (.slice Av rs.length cv) rs o1 W) rfl (by kernel_rfl) (by rfl) (by kernel_rfl) (fun W hW hC => ?_) ?_
          · have hb : Below W.heap.size W (W.alloc (.cells #[.int .i64 o, .bool f] 66)) := (Below.refl _ W).alloc (Nat.le_refl _) _
            exact ⟨_, _, by go_simp <;> with_reducible rfl, ⟨hW.1.then hb, (hb.block _ (lt_of_block hW.2)).trans hW.2⟩, ⟨_, rfl, block_new _ _, hC.below hb⟩⟩
          rintro v54 ⟨_, _, g54, rfl, _, _⟩
          simp only [Act.put, List.setIfInBounds_toArray, List.set_cons_succ, List.set_cons_zero]
          refine flow_gmake (fun v W => UA w 74 43 66 pt pb D y.2 (.slice Av rs.length cv) v (rs ++ [(o, f)]) o1 W) rfl (by kernel_rfl) (by rfl) (by kernel_rfl) (fun W hW hC => ?_) ?_
          · obtain ⟨g2, e2, hg2, hC2⟩ := hC
            injection e2 with e2 _ _
            injection e2 with e2
            injection e2 with e2 _ _
            subst e2
            refine exec_append_rd (.tmp 52) (.tmp 54) 41 rfl pb 66 i0 (.agg #[.int .i64 0, .bool false]) 2 16 Try.underlying41 hi0 hz0 hz1 hz2 rfl (by decide) (.slice Av rs.length cv) rs.length (flat rs) rfl hC2.r (some ⟨g54, 0, none⟩) 1 1 [.int .i64 o, .bool f] rfl ⟨rfl, fun _ => ⟨_, _, rfl, lt_of_block hg2, fun j u hu => ?_⟩⟩ (two_one _ _) (by rw [HRS.out]; unfold maxLen; omega) (by rw [HRS.out]; omega) (by have := lt_of_block hC2.b; omega) (fun v' w' x2 x3 => ?_)
            · match j, hu with
              | 0, hu => simp at hu; subst hu; rw [cell_at hg2]; rfl
              | 1, hu => simp at hu; subst hu; rw [cell_at hg2]; rfl
              | j + 2, hu => simp at hu
            · refine ⟨⟨⟨hW.1.1.trans (hC2.fr x3 0 (Nat.zero_le _)), ?_⟩, trivial⟩, hC2.app (by decide) x2 x3⟩
              rw [x3.block px (lt_of_block hW.1.2) (fun e => HGX.out px e.symm rfl)]
              exact hW.1.2
          rintro v55 ⟨_, _, hv55⟩
          simp only [Act.put, List.setIfInBounds_toArray, List.set_cons_succ, List.set_cons_zero]
          obtain ⟨A55, c55, e55, _, _, _, _⟩ := own_slice hv55.r
          rw [List.length_append, HRS.out] at e55
          subst e55
          clear hv55
          refine flow_val ?_ rfl (by kernel_rfl) (by rfl) (fun W hW => ?_) ?_
          rotate_left 1
          · go_simp <;> with_reducible rfl
          simp only [Act.put, List.setIfInBounds_toArray, List.set_cons_succ, List.set_cons_zero]
          refine flow_val ?_ rfl (by kernel_rfl) (by rfl) (fun W hW => ?_) ?_
          rotate_left 1
          · go_simp <;> with_reducible rfl
          simp only [Act.put, List.setIfInBounds_toArray, List.set_cons_succ, List.set_cons_zero]
          refine flow_bar (fun W => UB w 74 43 66 pt pb D y.2 (.slice A55 (k + [(o, f)].length) c55) (rs ++ [(o, f)]) o1 W) (fun _ => True) rfl (by kernel_rfl) (by rfl) (by kernel_rfl) (by kernel_rfl) (fun W hW hC => ?_) ?_
          · have q1 := cell_at hC.b 0
            have q2 := frozen_at hC.b 0
            have HC := Lib.hid hC
            clear hC hW
            refine ⟨_, by go_simp <;> with_reducible rfl, ?_, trivial⟩
            exact HC.out.store
          simp only [Act.put]
          refine flow_done2 ?_
          intro W hW _
          have H10 := Lib.hid hW
          clear hW
          go_wp2_with fail
          go_roundw
          case rel => exact ⟨k + 1, _, _, rs ++ [(o, f)], hlt, by rw [List.length_append, HRS.out]; rfl, by go_num, H10.out.1, by have := HM.out; rw [show n - (k + 1) = m by omega]; exact HOK'.out⟩
          case measure => simp [intOf]; omega
        · have hi0 : (0 : Int) ≤ i := by omega
          have HR : Hid (unB bs = none) := Lib.hid (by rw [HUN.out, ← HOK.out, HST.out, if_pos (.inr (by rw [HI.out]; exact hm1))]; rfl)
          clear hm1
          go_wp2_with fail
          refine bodyPost_ret (results_tmp2 rfl _ _ _) rfl ?_
          exact retUn_none HR.out H9.out.bel
      · have HR : Hid (unB bs = none) := Lib.hid (by rw [HUN.out, ← HOK.out, HST.out, if_pos (.inl HBD.out)]; rfl)
        go_wp2_with fail
        refine bodyPost_ret (results_tmp2 rfl _ _ _) rfl ?_
        exact retUn_none HR.out H8.out.bel
    · by_cases hbad : s.2 = true
      · have HR : Hid (unB bs = none) := Lib.hid (by rw [HUN.out, ← HOK.out, okR_eq, unR_bad _ _ _ hbad]; rfl)
        rw [hbad] at t1
        clear hlt hbad
        rcases (by omega : k < n ∨ k = n) with hk' | hk'
        · have hdk : decide (k < n) = true := decide_eq_true hk'
          go_wp2_with fail
          refine bodyPost_ret (results_tmp2 rfl _ _ _) rfl ?_
          exact retUn_none HR.out HU.out.bel
        · subst hk'
          go_wp2_with fail
          refine bodyPost_ret (results_tmp2 rfl _ _ _) rfl ?_
          exact retUn_none HR.out HU.out.bel
      · have hs : s.2 = false := by simpa using hbad
        rw [hs] at t1
        obtain rfl : k = n := by
          rcases (by omega : k < n ∨ k = n) with h | h
          · exact absurd ⟨h, hs⟩ hlt
          · exact h
        have hfin : unB bs = endB o1 (okR (some (rs, s))) := by
          rw [HUN.out, ← HOK.out, Nat.sub_self]; rfl
        obtain ⟨At, ct, kt, kt2, kt3, _⟩ := id HU.out.t
        have t0 : wr.cell? ⟨pt, 0, none⟩ = some (.slice At s.1.length ct) := cell_at kt 0
        have HFIN := Lib.hid hfin
        have HS := Lib.hid hs
        obtain ⟨l, hl⟩ : ∃ l, s.1.length = l := ⟨_, rfl⟩
        rw [hl] at t0 kt2
        have HL := Lib.hid hl
        clear hlt hbad hs hfin kt hl kt3
        by_cases hl0 : 0 < l
        · have HR : Hid (unB bs = none) := Lib.hid (by
            rw [HFIN.out]
            have : doneT s = 10 := by unfold doneT; rw [if_pos (.inr (by rw [HL.out]; exact hl0))]
            simp [okR, this, endB])
          go_wp2_with fail
          refine bodyPost_ret (results_tmp2 rfl _ _ _) rfl ?_
          exact retUn_none HR.out HU.out.bel
        · obtain rfl : l = 0 := by omega
          have HE : Hid (unB bs = if outBad rs o1 then none else some (rs, o1)) := Lib.hid (by
            rw [HFIN.out]
            have : doneT s = 0 := by unfold doneT; rw [if_neg (by rw [HS.out, HL.out]; simp)]
            simp [okR, this, endB])
          have b1 := cell_at HU.out.b 1
          have b0 := cell_at HU.out.b 0
          have HLO := Lib.hid (xubLow HU.out)
          clear hl0 HFIN
          by_cases ho : o1 = 0
          · subst ho
            have HR : Hid (unB bs = some (rs, 0)) := Lib.hid (by rw [HE.out, if_neg (by simp [outBad])])
            go_wp2_with fail
            refine bodyPost_ret (results_tmp2 rfl _ _ _) rfl ?_
            exact retUn_some HR.out HLO.out HU.out.bel
          · have ho' : (o1 == 0) = false := by simpa using ho
            have HO := Lib.hid ho
            clear ho
            go_wp2_with fail
            refine (xplace o1 pb pb rs o1 wr (xubOf HU.out) (by rw [HRS.out]; omega)).mono ?_
            rintro e w9 ⟨rfl, hb9⟩
            have h9 := HU.out.below hb9
            obtain ⟨i, hi⟩ : ∃ i, idx (fun r => r.1 == o1) rs = i := ⟨_, rfl⟩
            have hi1 := idx_ge (fun r => r.1 == o1) rs
            rw [hi] at hi1 ⊢
            have HI : Hid (at_ rs o1 = i) := Lib.hid hi
            have H9 := Lib.hid h9
            clear hi hb9 h9 b0 b1 t0 t1 HLO
            by_cases hm1 : i = -1
            · subst hm1
              have HR : Hid (unB bs = none) := Lib.hid (by rw [HE.out, if_pos ⟨HO.out, .inl HI.out⟩])
              go_wp2_with fail
              refine bodyPost_ret (results_tmp2 rfl _ _ _) rfl ?_
              exact retUn_none HR.out H9.out.bel
            · obtain ⟨j, rfl⟩ : ∃ j : Nat, i = j := ⟨i.toNat, by omega⟩
              have hj : j < rs.length := by omega
              have hr9 := H9.out.r
              obtain ⟨g, cv, rfl⟩ := own_pos hr9 (by omega)
              have b0 := cell_at H9.out.b 0
              obtain ⟨r0, r1⟩ := xrow_cells hr9 hj
              obtain ⟨rd, hrd⟩ : ∃ rd, rs[j].2 = rd := ⟨_, rfl⟩
              rw [hrd] at r1
              have HRD : Hid ((rs.getD (at_ rs o1).toNat (0, false)).2 = rd) := Lib.hid (by rw [HI.out]; simp [hj, hrd])
              have HH := Lib.hid hj
              have hjk : j < k := by rw [← HRS.out]; exact hj
              rw [HRS.out] at b0
              have HLO := Lib.hid (xubLow H9.out)
              clear hr9 r0 hi1 hm1 hrd hj
              cases rd
              · have HR : Hid (unB bs = some (rs, o1)) := Lib.hid (by
                  rw [HE.out, if_neg]
                  rintro ⟨_, h | h⟩
                  · rw [HI.out] at h; omega
                  · rw [HRD.out] at h; cases h)
                go_wp2_with fail
                refine bodyPost_ret (results_tmp2 rfl _ _ _) rfl ?_
                exact retUn_some HR.out HLO.out H9.out.bel
              · have HR : Hid (unB bs = none) := Lib.hid (by rw [HE.out, if_pos ⟨HO.out, .inr HRD.out⟩])
                go_wp2_with fail
                refine bodyPost_ret (results_tmp2 rfl _ _ _) rfl ?_
                exact retUn_none HR.out H9.out.bel

end Go.Proofs.Ytglfbihdbdcgiaa
