/- Joined: The reference's maker, whose bytes are the call's own: what each call makes of it, where there is room. The reference's Put of a list; its Body and Encode of a request. -/
import Derived.Test.YtpccbobomppdbaaZM18
import Derived.Test.YtpccbobomppdbaaZM19
import Derived.Test.YtpccbobomppdbaaZM7
namespace Go.Proofs.Ytpccbobomppdbaa
open Go.RowKit

/-- The reference's maker at q, that has come since w. -/
def Mr (w : World) (q : Nat) (bs : List Nat) (W : World) : Prop := ∃ v, W.heap[q]? = some (.cells #[v, .bool false] 75 (0, 0)) ∧ W.ownsRow w.heap.size 5 1 v bs.length (bs.map u8v) ∧ w.heap.size ≤ q ∧ Below w.heap.size w W
theorem Mr.below {w W : World} {q : Nat} {bs : List Nat} (h : Mr w q bs W) : Below w.heap.size w W := by obtain ⟨_, _, _, _, h⟩ := h; exact h
theorem Mr.keep {w W W' : World} {q : Nat} {bs : List Nat} (h : Mr w q bs W) (hb : Below W.heap.size W W') : Mr w q bs W' := by
  obtain ⟨v, h1, h2, h3, h4⟩ := h
  exact ⟨v, (hb.block _ (lt_of_block h1)).trans h1, (Fr.of_below (B := 0) (T := []) (S := []) hb).own h2 (by simp) (by simp), h3, h4.trans (hb.mono h4.size)⟩
theorem Mr.new {w W : World} (hb : Below w.heap.size w W) : Mr w W.heap.size [] (W.alloc (.cells #[.slice none 0 0, .bool false] 75)) :=
  ⟨_, block_new _ _, World.ownsRow_nil _ _ _ _, hb.size, hb.alloc hb.size _⟩
set_option maxRecDepth 100000 in
set_option maxHeartbeats 2000000 in
theorem mr_put {w0 w : World} {q : Nat} {rs : List Nat} (h : Mr w0 q rs w) (v : Value) (bs : List Nat) (hv : Bs w v bs) (hl : rs.length + bs.length ≤ 262144) :
    Calls Try.prog 73 #[.pointer (some ⟨q, 0, none⟩), v] w fun e W => e = .returned (.tuple #[]) ∧ Mr w0 q (rs ++ bs) W := by
  obtain ⟨i0, hi0, hz0, hz1, hz2⟩ := info_parts Try.infoByte
  obtain ⟨vm, h1, ho, hq0, hbw⟩ := h
  obtain ⟨A, c, rfl, h2, h3, h4, _⟩ := own_slice ho
  have c0 : w.cell? ⟨q, 0, none⟩ = some (.slice A rs.length c) := cell_at h1 0
  have c1 : w.cell? ⟨q, 1, none⟩ = some (.bool false) := cell_at h1 1
  have HV := Lib.hid hv
  obtain ⟨Av, cv, rfl, k1, k2, _⟩ := hv
  have hdec : decide (262144 - (rs.length : Int) < (bs.length : Int)) = false := by simp; omega
  have hsum : rs.length + bs.length ≤ 262144 := hl
  have H1 := Lib.hid h1
  have H4 := Lib.hid h4
  have HQ0 := Lib.hid hq0
  have HBW := Lib.hid hbw
  have HOwn := Lib.hid (own_of_cells w #[] 0 (Nat.zero_le _) rfl)
  have hq := lt_of_block h1
  have b0 : Below w.heap.size w (w.alloc (.cells #[] 5)) := (Below.refl _ _).alloc (Nat.le_refl _) _
  have HB0 := Lib.hid b0
  have e1 := cell_at ((b0.block q hq).trans h1) 0
  clear h1 h3 h4 k2 b0 hl ho hq0 hbw
  go_enter Try.func73, Try.ntmps73
  go_wp2_with (first
    | (at_builtin
       refine wpList_append_rd _ rfl (.tmp 23) (.tmp 27) 31 rfl w.heap.size 5 i0 (.int .u8 0) 1 1 Try.underlying31 hi0 hz0 hz1 hz2 rfl (by decide) (.slice (some ⟨w.heap.size, 0, none⟩) 0 0) 0 [] rfl HOwn.out A rs.length c (rs.map u8v) rfl (H4.out.below HB0.out) (u8_one' _) (by unfold maxLen; omega) (by omega) (by simp) ?_
       intro v2 w2 hown2 hgrow2 _
       have HO2 := Lib.hid hown2
       have hG2 := Fr.grown (B := w.heap.size) (T := [5]) (S := []) ((Fr.refl w).alloc (.cells #[] 5)) hgrow2 (fun j hj => by
         simp [Value.ownBlock] at hj
         subst hj
         exact ⟨Nat.le_refl _, .inr ⟨_, _, _, block_new _ _, by simp⟩⟩)
       have HB2 := Lib.hid (hG2.below (Nat.le_refl _))
       have hs2 : w.heap.size ≤ w2.heap.size := hG2.size
       clear hown2 hgrow2 hG2)
    | (at_builtin
       refine wpList_append_rd _ rfl (.tmp 28) (.tmp 29) 31 rfl w.heap.size 5 i0 (.int .u8 0) 1 1 Try.underlying31 hi0 hz0 hz1 hz2 rfl (by decide) _ _ _ rfl HO2.out Av bs.length cv (bs.map u8v) rfl (HV.out.rd'.below HB2.out) (u8_one' _) (by unfold maxLen; omega) (by omega) hs2 ?_
       intro v3 w3 hown3 hgrow3 _
       obtain ⟨A3, c3, rfl, g1, g2, g3, g4⟩ := own_slice hown3
       have f3 : Fr w.heap.size [5] [] w2 w3 := (Fr.refl w2).grown hgrow3 (fun j hj => by
         obtain ⟨hb, cs, hc⟩ := own_block HO2.out hj
         exact ⟨hb, .inr ⟨cs, _, _, hc, by simp⟩⟩)
       have HB3 := Lib.hid (HB2.out.trans (f3.below hs2) : Below w.heap.size w w3)
       have hq3 := (HB3.out.block q hq).trans H1.out
       have d0 : w3.cell? ⟨q, 0, none⟩ = some (.slice A rs.length c) := cell_at hq3 0
       have d2 := frozen_at hq3 0
       have HQ3 := Lib.hid hq3
       have HO3 := Lib.hid hown3
       have HG := Lib.hid (And.intro g2 (And.intro g3 g4))
       clear hown3 hgrow3 g2 g3 g4 f3 hq3))
  go_end0
  refine ⟨rfl, .slice A3 (0 + rs.length + bs.length) c3, ?_, ?_, HQ0.out, (HBW.out.trans (HB3.out.mono HBW.out.size)).setCell (p := ⟨q, 0, none⟩) HQ0.out _⟩
  · rw [show rs.length + bs.length = 0 + rs.length + bs.length by omega, block_set HQ3.out]
    rfl
  · have fs : Fr 0 [] [q] w3 (w3.setCell ⟨q, 0, none⟩ (.slice A3 (rs.length + bs.length) c3)) := (Fr.refl w3).setCell (p := ⟨q, 0, none⟩) _ (Nat.zero_le _) (.inl (by simp))
    have hh := fs.own HO3.out (by simp) (fun k hk hm => by
      obtain ⟨hb, cs, hc⟩ := own_block HO3.out hk
      simp at hm
      omega)
    have e : (rs ++ bs).length = 0 + rs.length + bs.length := by simp
    rw [e, List.map_append]
    have h9 := hh
    simp only [List.nil_append] at h9
    refine ⟨h9.1, ?_⟩
    rcases h9.2 with h | ⟨g, cap, cur, h1, h2, h3⟩
    · exact .inl h
    · exact .inr ⟨g, cap, cur, h1, Nat.le_trans HBW.out.size h2, h3⟩
theorem mr_num {w0 w : World} {q : Nat} {rs : List Nat} (h : Mr w0 q rs w) (n : Int) (hn : I64 n) (hl : rs.length ≤ 262000) :
    Calls Try.prog 44 #[.pointer (some ⟨q, 0, none⟩), .int .i64 n] w fun e W => e = .returned (.tuple #[]) ∧ Mr w0 q (rs ++ numB n) W := by
  have H := Lib.hid h
  have h9 := (numB_length n).2
  clear h
  go_enter Try.func44, Try.ntmps44
  go_wp2_with fail
  refine (rnum_any n _ hn).mono ?_
  rintro e w1 ⟨v, rfl, hv, hb⟩
  have HV := Lib.hid hv
  have HB := Lib.hid hb
  clear hv hb
  go_wp2_with fail
  refine (mr_put (H.out.keep HB.out) v (numB n) HV.out (by omega)).mono ?_
  rintro e w2 ⟨rfl, hM⟩
  have HM := Lib.hid hM
  clear hM
  go_wp2
  go_end0
  exact ⟨rfl, HM.out⟩
set_option maxRecDepth 100000 in
set_option maxHeartbeats 1000000 in
theorem mr_text {w0 w : World} {q : Nat} {rs : List Nat} (h : Mr w0 q rs w) (t : ByteArray) (ht : t.size ≤ 200000) (hl : rs.length ≤ 50000) :
    Calls Try.prog 46 #[.pointer (some ⟨q, 0, none⟩), .string t] w fun e W => e = .returned (.tuple #[]) ∧ Mr w0 q (rs ++ textB (natsOf t)) W := by
  obtain ⟨i0, hi0, hz0, hz1, hz2⟩ := info_parts Try.infoByte
  have H := Lib.hid h
  clear h
  go_enter Try.func46, Try.ntmps46
  go_wp2_with fail
  refine (rnum_own _ _ ⟨by omega, by omega⟩).mono ?_
  rintro e w1 ⟨v, rfl, ho, hb⟩
  have HO := Lib.hid ho
  have HB := Lib.hid hb
  have hl9 := (numB_length t.size).2
  obtain ⟨A, c, rfl, _, _, _, _⟩ := own_slice ho
  have hs1 : w.heap.size ≤ w1.heap.size := hb.size
  clear ho hb
  go_wp2_with (at_builtin
               refine Lib.wpList_append_own_string _ rfl (.tmp 7) (.tmp 8) 31 9 rfl w.heap.size 5 i0 Try.underlying31 Try.underlying9 hi0 hz0 hz1 hz2 _ _ _ rfl HO.out t rfl (by unfold maxLen; omega) (by omega) hs1 ?_
               intro v2 w2 hown2 hgrow2 _
               have f2 : Fr w.heap.size [5] [] w1 w2 := (Fr.refl w1).grown hgrow2 (fun j hj => by
                 obtain ⟨hb, cs, hc⟩ := own_block HO.out hj
                 exact ⟨hb, .inr ⟨cs, _, _, hc, by simp⟩⟩)
               have HB2 := Lib.hid (HB.out.trans (f2.below hs1) : Below w.heap.size w w2)
               have HO2 := Lib.hid hown2
               clear hown2 hgrow2 f2)
  have hbs : Bs w2 v2 (textB (natsOf t)) := by
    have h := HO2.out
    have e : (numB t.size).map u8v ++ Lib.strCells t = (textB (natsOf t)).map u8v := by
      unfold textB
      rw [List.map_append, natsOf_length]
      congr 1
      simp [Lib.strCells, natsOf]
      exact fun _ _ => rfl
    rw [e] at h
    exact Bs.own_n h
  have htb : (textB (natsOf t)).length ≤ 9 + t.size := by
    unfold textB
    rw [List.length_append, natsOf_length]
    have := (numB_length (t.size : Int)).2
    omega
  refine (mr_put (H.out.keep HB2.out) v2 (textB (natsOf t)) hbs (by omega)).mono ?_
  rintro e w3 ⟨rfl, hM⟩
  have HM := Lib.hid hM
  clear hM
  go_wp2
  go_end0
  exact ⟨rfl, HM.out⟩
end Go.Proofs.Ytpccbobomppdbaa

namespace Go.Proofs.Ytpccbobomppdbaa
open Go.RowKit

set_option maxRecDepth 100000 in
set_option maxHeartbeats 1000000 in
theorem xiput_any (l : List It) (A : Option Addr) (c : Nat) (w0 W0 : World) (q : Nat) (s : List Nat) (hM : Mr w0 q s W0) (hr : Rd w0 2 A l.length (l.flatMap encI)) (hl : ∀ z ∈ l, z.good.size ≤ 16 ∧ -9223372036854775808 ≤ z.n ∧ z.n ≤ 9223372036854775807) (h16 : l.length ≤ 16) (hs : s.length ≤ 1000) :
    Calls Try.prog 45 #[.pointer (some ⟨q, 0, none⟩), .slice A l.length c] W0 fun e W => e = .returned (.tuple #[]) ∧ Mr w0 q (s ++ (numB l.length ++ itemsB l)) W := by
  have hI : I64 l.length := by unfold I64; omega
  have HN0 := Lib.hid (mr_num hM l.length hI (by omega))
  have HL := Lib.hid hl
  have HR := Lib.hid hr
  obtain ⟨m, hm2⟩ : ∃ m, l.length = m := ⟨_, rfl⟩
  have HMM := Lib.hid hm2
  rw [hm2] at HN0 HR h16 ⊢
  clear hM hl hr hI hm2
  go_enter Try.func45, Try.ntmps45
  go_wp2_with fail
  refine HN0.out.mono ?_
  rintro e w1 ⟨rfl, hM⟩
  have HM1 := Lib.hid hM
  obtain ⟨s1, hs1⟩ : ∃ s1, s ++ numB (m : Int) = s1 := ⟨_, rfl⟩
  have hs1l : s1.length ≤ 1009 := by rw [← hs1, List.length_append]; have := numB_le9 (m : Int); omega
  have HS1 := Lib.hid hs1
  rw [hs1] at HM1
  clear hM hs1 HN0 hs
  go_wp2_with fail
  go_loopw [4] (fun iv wr => ∃ k : Nat, k ≤ m ∧ iv = .int .i64 k ∧ Mr w0 q (s1 ++ itemsB (l.take k)) wr) (fun iv => fun _ => m - (intOf iv).toNat)
  case atStart => exact ⟨0, Nat.zero_le _, rfl, by simpa [itemsB] using HM1.out⟩
  case round =>
    obtain ⟨k, hk, rfl, hM⟩ := hrel
    have HM := Lib.hid hM
    clear hM
    by_cases hlt : k < m
    · have hkl : k < l.length := by have := HMM.out; omega
      obtain ⟨g, o, rfl, hg, c0, c1⟩ := rdi_at (HMM.out.symm ▸ HR.out : Rd w0 2 A l.length (l.flatMap encI)) hkl
      obtain ⟨z1, z2, z3⟩ := HL.out _ (List.getElem_mem hkl)
      have hsn : itemsB (l.take (k + 1)) = itemsB (l.take k) ++ itemB l[k] := by rw [List.take_succ_eq_append_getElem hkl, itemsB_snoc]
      have hlen := itemsB_le (l := l.take k) (fun x hx => (HL.out x (List.mem_of_mem_take hx)).1)
      have hlk : (l.take k).length ≤ 16 := by rw [List.length_take]; omega
      obtain ⟨z, hz⟩ : ∃ z, l[k] = z := ⟨_, rfl⟩
      rw [hz] at c0 c1 z1 z2 z3 hsn
      obtain ⟨gd, n⟩ := z
      simp only at c0 c1 z1 z2 z3
      have d0 : wr.cell? ⟨g, o + k * 2, none⟩ = some (.string gd) := (HM.out.below.cell (p := ⟨g, o + k * 2, none⟩) hg).trans c0
      have HC1 : Hid (∀ W, Below w0.heap.size w0 W → W.cell? ⟨g, o + k * 2 + 1, none⟩ = some (.int .i64 n)) := Lib.hid (fun W hW => (hW.cell (p := ⟨g, o + k * 2 + 1, none⟩) hg).trans c1)
      have hkI : decide ((k : Int) < (m : Int)) = true := by simp; omega
      have hkJ : (k : Int) < (m : Int) := by omega
      have htb := textB_le (natsOf gd)
      rw [natsOf_length] at htb
      have HT := Lib.hid (mr_text HM.out gd (by omega) (by rw [List.length_append]; omega))
      have HNN : Hid (∀ W, Mr w0 q (s1 ++ itemsB (l.take k) ++ textB (natsOf gd)) W → Calls Try.prog 44 #[.pointer (some ⟨q, 0, none⟩), .int .i64 n] W fun e W' => e = .returned (.tuple #[]) ∧ Mr w0 q (s1 ++ itemsB (l.take k) ++ textB (natsOf gd) ++ numB n) W') := Lib.hid (fun W hW => mr_num hW n ⟨by omega, by omega⟩ (by simp only [List.length_append]; omega))
      have HSN := Lib.hid hsn
      clear c0 c1 z1 z2 z3 hsn hlen hlk hz htb hg
      go_wp2_with fail
      refine HT.out.mono ?_
      rintro e w2 ⟨rfl, hM⟩
      have HM2 := Lib.hid hM
      have d1 := HC1.out w2 HM2.out.below
      clear hM d0
      go_wp2_with fail
      refine (HNN.out w2 HM2.out).mono ?_
      rintro e w3 ⟨rfl, hM⟩
      have HM3 := Lib.hid hM
      clear hM d1
      go_wp2_with fail
      go_roundw
      case rel => exact ⟨k + 1, hlt, by go_num, by rw [HSN.out]; simpa [itemB, List.append_assoc] using HM3.out⟩
      case measure => simp [intOf]; omega
    · have ekm : k = m := by omega
      have hkI : decide ((k : Int) < (m : Int)) = false := by simp; omega
      have h9 : s1 ++ itemsB (l.take k) = s ++ (numB (m : Int) ++ itemsB l) := by rw [← HS1.out, List.take_of_length_le (by have := HMM.out; omega), List.append_assoc]
      have H9 := Lib.hid h9
      clear h9
      subst ekm
      go_wp2
      go_end0
      exact ⟨rfl, by rw [← H9.out]; exact HM.out⟩
/-- What the reference's Body leaves. -/
def RetOw (w : World) (bs : List Nat) (e : Ending) (W : World) : Prop := ∃ v, e = .returned v ∧ W.ownsRow w.heap.size 5 1 v bs.length (bs.map u8v) ∧ Below w.heap.size w W
theorem ownI_lowA {w : World} {B B' e size n : Nat} {v : Value} {xs : List Value} (h : w.ownsRow B e size v n xs) (hB : B' ≤ B) : w.ownsRow B' e size v n xs := by
  refine ⟨h.1, ?_⟩
  rcases h.2 with h | ⟨g, cap, cur, h1, h2, h3⟩
  · exact .inl h
  · exact .inr ⟨g, cap, cur, h1, Nat.le_trans hB h2, h3⟩
set_option maxRecDepth 100000 in
set_option maxHeartbeats 1000000 in
theorem xabody_any (a : Ak) (A : Option Addr) (c : Nat) (w : World) (hr : Rd w 2 A a.items.length (a.items.flatMap encI)) (hl : LimA a) :
    Calls Try.prog 75 #[akV a (.slice A a.items.length c)] w (RetOw w (bodyA a)) := by
  have h16 := (mayI_at hl.c9).1
  have HEB : Hid (bodyA a = numB a.kind ++ numB a.order ++ numB a.region ++ numB a.to ++ numB a.n ++ textB (natsOf a.good) ++ (numB a.items.length ++ itemsB a.items)) := Lib.hid (by unfold bodyA tailA; simp only [numsB, List.append_assoc, List.append_nil])
  have HPI := Lib.hid hl.pit
  obtain ⟨l1, l2, l3, l4, l5, l6, l7, l8, _⟩ := hl
  have HI : Hid (I64 a.client ∧ I64 a.number ∧ I64 a.kind ∧ I64 a.order ∧ I64 a.region ∧ I64 a.to ∧ I64 a.n) := Lib.hid (by unfold I64; omega)
  have HTX : Hid (a.good.size ≤ 16) := Lib.hid l8
  obtain ⟨BO, hBO⟩ : ∃ BO, bodyA a = BO := ⟨_, rfl⟩
  rw [hBO] at HEB ⊢
  obtain ⟨client, number, kind, order, region, to, n, good, items⟩ := a
  simp only at *
  have k0 := block_new w (.cells #[.int .i64 client, .int .i64 number, .int .i64 kind, .int .i64 order, .int .i64 region, .int .i64 to, .int .i64 n, .string good, .slice A items.length c] 24)
  have kb := (Below.refl _ w).alloc (Nat.le_refl _) (.cells #[.int .i64 client, .int .i64 number, .int .i64 kind, .int .i64 order, .int .i64 region, .int .i64 to, .int .i64 n, .string good, .slice A items.length c] 24)
  obtain ⟨m, hm2⟩ : ∃ m, items.length = m := ⟨_, rfl⟩
  rw [hm2] at k0 kb hr h16 HEB ⊢
  obtain ⟨W1, hW1⟩ : ∃ W1, w.alloc (.cells #[.int .i64 client, .int .i64 number, .int .i64 kind, .int .i64 order, .int .i64 region, .int .i64 to, .int .i64 n, .string good, .slice A m c] 24) = W1 := ⟨_, rfl⟩
  rw [hW1] at k0 kb
  have HLM := Lib.hid hm2
  have HKB := Lib.hid kb
  have HR := Lib.hid (hr.below kb)
  have HCA : Hid (∀ W, Below W1.heap.size W1 W → W.heap[w.heap.size]? = some (.cells #[.int .i64 client, .int .i64 number, .int .i64 kind, .int .i64 order, .int .i64 region, .int .i64 to, .int .i64 n, .string good, .slice A m c] 24 (0, 0))) := Lib.hid (fun W hW => (hW.block _ (lt_of_block k0)).trans k0)
  have hsz : W1.heap.size = w.heap.size + 1 := by rw [← hW1]; simp
  have h0 := Mr.new (w := W1) (Below.refl _ W1)
  rw [hsz] at h0
  obtain ⟨W2, hW2⟩ : ∃ W2, W1.alloc (.cells #[.slice none 0 0, .bool false] 75) = W2 := ⟨_, rfl⟩
  rw [hW2] at h0
  have HM0 := Lib.hid h0
  have HWW : Hid ((w.alloc (.cells #[.int .i64 client, .int .i64 number, .int .i64 kind, .int .i64 order, .int .i64 region, .int .i64 to, .int .i64 n, .string good, .slice A m c] 24)).alloc (.cells #[.slice none 0 0, .bool false] 75) = W2) := Lib.hid (by rw [hW1, hW2])
  clear k0 kb hW1 hW2 h0 hsz hr l1 l2 l3 l4 l5 l6 l7 l8 hBO hm2
  go_enter Try.func75, Try.ntmps75
  have L0 : ([] : List Nat).length ≤ 0 := by simp
  have c2 := cell_at (HCA.out W2 HM0.out.below) 2
  go_wp2_with fail
  rw [HWW.out]
  refine (mr_num HM0.out kind HI.out.2.2.1 (by omega)).mono ?_
  rintro e w3 ⟨rfl, hM⟩
  obtain ⟨r1, hr1⟩ : ∃ r, ([] : List Nat) ++ numB kind = r := ⟨_, rfl⟩
  rw [hr1] at hM
  have L1 : r1.length ≤ 9 := by rw [← hr1, List.length_append]; have := numB_le9 kind; omega
  have HM1 := Lib.hid hM
  have HR1 := Lib.hid hr1
  clear hM hr1 c2
  have c3 := cell_at (HCA.out w3 HM1.out.below) 3
  go_wp2_with fail
  refine (mr_num HM1.out order HI.out.2.2.2.1 (by omega)).mono ?_
  rintro e w4 ⟨rfl, hM⟩
  obtain ⟨r2, hr2⟩ : ∃ r, r1 ++ numB order = r := ⟨_, rfl⟩
  rw [hr2] at hM
  have L2 : r2.length ≤ 18 := by rw [← hr2, List.length_append]; have := numB_le9 order; omega
  have HM2 := Lib.hid hM
  have HR2 := Lib.hid hr2
  clear hM hr2 c3
  have c4 := cell_at (HCA.out w4 HM2.out.below) 4
  go_wp2_with fail
  refine (mr_num HM2.out region HI.out.2.2.2.2.1 (by omega)).mono ?_
  rintro e w5 ⟨rfl, hM⟩
  obtain ⟨r3, hr3⟩ : ∃ r, r2 ++ numB region = r := ⟨_, rfl⟩
  rw [hr3] at hM
  have L3 : r3.length ≤ 27 := by rw [← hr3, List.length_append]; have := numB_le9 region; omega
  have HM3 := Lib.hid hM
  have HR3 := Lib.hid hr3
  clear hM hr3 c4
  have c5 := cell_at (HCA.out w5 HM3.out.below) 5
  go_wp2_with fail
  refine (mr_num HM3.out to HI.out.2.2.2.2.2.1 (by omega)).mono ?_
  rintro e w6 ⟨rfl, hM⟩
  obtain ⟨r4, hr4⟩ : ∃ r, r3 ++ numB to = r := ⟨_, rfl⟩
  rw [hr4] at hM
  have L4 : r4.length ≤ 36 := by rw [← hr4, List.length_append]; have := numB_le9 to; omega
  have HM4 := Lib.hid hM
  have HR4 := Lib.hid hr4
  clear hM hr4 c5
  have c6 := cell_at (HCA.out w6 HM4.out.below) 6
  go_wp2_with fail
  refine (mr_num HM4.out n HI.out.2.2.2.2.2.2 (by omega)).mono ?_
  rintro e w7 ⟨rfl, hM⟩
  obtain ⟨r5, hr5⟩ : ∃ r, r4 ++ numB n = r := ⟨_, rfl⟩
  rw [hr5] at hM
  have L5 : r5.length ≤ 45 := by rw [← hr5, List.length_append]; have := numB_le9 n; omega
  have HM5 := Lib.hid hM
  have HR5 := Lib.hid hr5
  clear hM hr5 c6
  have c7 := cell_at (HCA.out w7 HM5.out.below) 7
  go_wp2_with fail
  have htb := textB_le (natsOf good)
  rw [natsOf_length] at htb
  have ht16 := HTX.out
  refine (mr_text HM5.out good (by omega) (by omega)).mono ?_
  rintro e w8 ⟨rfl, hM⟩
  obtain ⟨r6, hr6⟩ : ∃ r, r5 ++ textB (natsOf good) = r := ⟨_, rfl⟩
  rw [hr6] at hM
  have L6 : r6.length ≤ 70 := by rw [← hr6, List.length_append]; omega
  have HM6 := Lib.hid hM
  have HR6 := Lib.hid hr6
  clear hM hr6 c7 htb ht16
  have c8 := cell_at (HCA.out w8 HM6.out.below) 8
  have HPUT := Lib.hid (xiput_any items A c W1 w8 (w.heap.size + 1) r6 HM6.out (by rw [HLM.out]; exact HR.out) HPI.out (by rw [HLM.out]; exact h16) (by omega))
  rw [HLM.out] at HPUT
  go_wp2_with fail
  refine HPUT.out.mono ?_
  rintro e w20 ⟨rfl, hM⟩
  have HEQ : Hid (r6 ++ (numB (m : Int) ++ itemsB items) = BO) := Lib.hid (by rw [HEB.out, ← HR6.out, ← HR5.out, ← HR4.out, ← HR3.out, ← HR2.out, ← HR1.out, List.nil_append])
  rw [HEQ.out] at hM
  obtain ⟨v, hq, ho, _, hb⟩ := hM
  obtain ⟨Av, cv, rfl, _, _, _, _⟩ := own_slice ho
  have d0 := cell_at hq 0
  have HO := Lib.hid ho
  have HB := Lib.hid hb
  obtain ⟨nb, hnb⟩ : ∃ nb, BO.length = nb := ⟨_, rfl⟩
  have HNB := Lib.hid hnb
  rw [hnb] at HO d0
  clear hq ho hb c8 hnb
  go_wp2
  go_ret
  exact ⟨_, rfl, by rw [HNB.out]; exact ownI_lowA HO.out HKB.out.size, HKB.out.trans (HB.out.mono HKB.out.size)⟩
set_option maxRecDepth 100000 in
set_option maxHeartbeats 1000000 in
theorem xaenc_any (a : Ak) (A : Option Addr) (c : Nat) (w : World) (hr : Rd w 2 A a.items.length (a.items.flatMap encI)) (hl : LimA a) :
    Calls Try.prog 47 #[akV a (.slice A a.items.length c)] w (RetOw w (encA a)) := by
  have h16 := (mayI_at hl.c9).1
  have HXB := Lib.hid (fun W (hW : Below w.heap.size w W) => xabody_any a A c W (hr.below hW) hl)
  have HBL : Hid ((bodyA a).length ≤ 700) := Lib.hid (by have h1 := encA_le hl; rw [encA_body] at h1; simp only [List.length_append] at h1; omega)
  obtain ⟨i0, hi0, hz0, hz1, hz2⟩ := info_parts Try.infoByte
  have HEB : Hid (encA a = numB a.client ++ numB a.number ++ bodyA a) := Lib.hid (by rw [encA_body, List.append_assoc])
  have HPI := Lib.hid hl.pit
  obtain ⟨l1, l2, l3, l4, l5, l6, l7, l8, _⟩ := hl
  have HI : Hid (I64 a.client ∧ I64 a.number ∧ I64 a.kind ∧ I64 a.order ∧ I64 a.region ∧ I64 a.to ∧ I64 a.n) := Lib.hid (by unfold I64; omega)
  have HTX : Hid (a.good.size ≤ 16) := Lib.hid l8
  obtain ⟨BD, hBD⟩ : ∃ BD, bodyA a = BD := ⟨_, rfl⟩
  rw [hBD] at HEB HXB HBL
  obtain ⟨BO, hBO⟩ : ∃ BO, encA a = BO := ⟨_, rfl⟩
  rw [hBO] at HEB ⊢
  obtain ⟨client, number, kind, order, region, to, n, good, items⟩ := a
  simp only at *
  have k0 := block_new w (.cells #[.int .i64 client, .int .i64 number, .int .i64 kind, .int .i64 order, .int .i64 region, .int .i64 to, .int .i64 n, .string good, .slice A items.length c] 24)
  have kb := (Below.refl _ w).alloc (Nat.le_refl _) (.cells #[.int .i64 client, .int .i64 number, .int .i64 kind, .int .i64 order, .int .i64 region, .int .i64 to, .int .i64 n, .string good, .slice A items.length c] 24)
  obtain ⟨m, hm2⟩ : ∃ m, items.length = m := ⟨_, rfl⟩
  rw [hm2] at k0 kb hr h16 HXB ⊢
  obtain ⟨W1, hW1⟩ : ∃ W1, w.alloc (.cells #[.int .i64 client, .int .i64 number, .int .i64 kind, .int .i64 order, .int .i64 region, .int .i64 to, .int .i64 n, .string good, .slice A m c] 24) = W1 := ⟨_, rfl⟩
  rw [hW1] at k0 kb
  have HLM := Lib.hid hm2
  have HKB := Lib.hid kb
  have HR := Lib.hid (hr.below kb)
  have HCA : Hid (∀ W, Below W1.heap.size W1 W → W.heap[w.heap.size]? = some (.cells #[.int .i64 client, .int .i64 number, .int .i64 kind, .int .i64 order, .int .i64 region, .int .i64 to, .int .i64 n, .string good, .slice A m c] 24 (0, 0))) := Lib.hid (fun W hW => (hW.block _ (lt_of_block k0)).trans k0)
  have hsz : W1.heap.size = w.heap.size + 1 := by rw [← hW1]; simp
  have h0 := Mr.new (w := W1) (Below.refl _ W1)
  rw [hsz] at h0
  obtain ⟨W2, hW2⟩ : ∃ W2, W1.alloc (.cells #[.slice none 0 0, .bool false] 75) = W2 := ⟨_, rfl⟩
  rw [hW2] at h0
  have HM0 := Lib.hid h0
  have HWW : Hid ((w.alloc (.cells #[.int .i64 client, .int .i64 number, .int .i64 kind, .int .i64 order, .int .i64 region, .int .i64 to, .int .i64 n, .string good, .slice A m c] 24)).alloc (.cells #[.slice none 0 0, .bool false] 75) = W2) := Lib.hid (by rw [hW1, hW2])
  clear hBD k0 kb hW1 hW2 h0 hsz hr l1 l2 l3 l4 l5 l6 l7 l8 hBO hm2
  go_enter Try.func47, Try.ntmps47
  have L0 : ([] : List Nat).length ≤ 0 := by simp
  have c0 := cell_at (HCA.out W2 HM0.out.below) 0
  go_wp2_with fail
  rw [HWW.out]
  refine (mr_num HM0.out client HI.out.1 (by omega)).mono ?_
  rintro e w3 ⟨rfl, hM⟩
  obtain ⟨r1, hr1⟩ : ∃ r, ([] : List Nat) ++ numB client = r := ⟨_, rfl⟩
  rw [hr1] at hM
  have L1 : r1.length ≤ 9 := by rw [← hr1, List.length_append]; have := numB_le9 client; omega
  have HM1 := Lib.hid hM
  have HR1 := Lib.hid hr1
  clear hM hr1 c0
  have c1 := cell_at (HCA.out w3 HM1.out.below) 1
  go_wp2_with fail
  refine (mr_num HM1.out number HI.out.2.1 (by omega)).mono ?_
  rintro e w4 ⟨rfl, hM⟩
  obtain ⟨r2, hr2⟩ : ∃ r, r1 ++ numB number = r := ⟨_, rfl⟩
  rw [hr2] at hM
  have L2 : r2.length ≤ 18 := by rw [← hr2, List.length_append]; have := numB_le9 number; omega
  have HM2 := Lib.hid hM
  have HR2 := Lib.hid hr2
  clear hM hr2 c1
  obtain ⟨v, hq, ho, hqs, hb⟩ := HM2.out
  obtain ⟨Av, cv, rfl, _, _, _, _⟩ := own_slice ho
  obtain ⟨nr, hnr⟩ : ∃ nr, r2.length = nr := ⟨_, rfl⟩
  have HNR := Lib.hid hnr
  obtain ⟨nd, hnd⟩ : ∃ nd, BD.length = nd := ⟨_, rfl⟩
  have HND := Lib.hid hnd
  rw [hnr] at hq ho L2
  have hnd2 : nd ≤ 700 := by rw [← hnd]; exact HBL.out
  have HQ := Lib.hid hq
  have HO := Lib.hid ho
  have HB := Lib.hid hb
  clear hq ho hqs hb hnr hnd
  go_wp2_with fail
  refine wp_region_flow (fun W => (W.heap[w.heap.size + 1]? = some (.cells #[.slice Av nr cv, .bool false] 75 (0, 0)) ∧ W.ownsRow W1.heap.size 5 1 (.slice Av nr cv) nr (r2.map u8v)) ∧ Below W1.heap.size W1 W) [0, 1, 2, 3, 4, 5, 6, 7] (by kernel_rfl) (by kernel_rfl) (by kernel_rfl) (⟨⟨HQ.out, (Fr.of_below (B := 0) (T := []) (S := []) ((Below.refl _ w4).drew)).own HO.out (by simp) (by simp)⟩, HB.out.drew⟩) ?_
  refine flow_val ?_ rfl (by kernel_rfl) (by rfl) (fun W hW => ?_) ?_
  rotate_left 1
  · go_simp <;> with_reducible rfl
  simp only [Act.put, List.setIfInBounds_toArray, List.set_cons_succ, List.set_cons_zero]
  refine flow_val ?_ rfl (by kernel_rfl) (by rfl) (fun W hW => ?_) ?_
  rotate_left 1
  · go_simp <;> with_reducible rfl
  simp only [Act.put, List.setIfInBounds_toArray, List.set_cons_succ, List.set_cons_zero]
  refine flow_val ?_ rfl (by kernel_rfl) (by rfl) (fun W hW => ?_) ?_
  rotate_left 1
  · go_simp <;> with_reducible rfl
  simp only [Act.put, List.setIfInBounds_toArray, List.set_cons_succ, List.set_cons_zero]
  refine flow_val ?_ rfl (by kernel_rfl) (by rfl) (fun W hW => ?_) ?_
  rotate_left 1
  · have d0 := cell_at hW.1.1 0; go_simp <;> with_reducible rfl
  simp only [Act.put, List.setIfInBounds_toArray, List.set_cons_succ, List.set_cons_zero]
  refine flow_val ?_ rfl (by kernel_rfl) (by rfl) (fun W hW => ?_) ?_
  rotate_left 1
  · have c0 := cell_at (HCA.out W hW.2) 0; have c1 := cell_at (HCA.out W hW.2) 1; have c2 := cell_at (HCA.out W hW.2) 2; have c3 := cell_at (HCA.out W hW.2) 3; have c4 := cell_at (HCA.out W hW.2) 4; have c5 := cell_at (HCA.out W hW.2) 5; have c6 := cell_at (HCA.out W hW.2) 6; have c7 := cell_at (HCA.out W hW.2) 7; have c8 := cell_at (HCA.out W hW.2) 8; go_simp <;> with_reducible rfl
  simp only [Act.put, List.setIfInBounds_toArray, List.set_cons_succ, List.set_cons_zero]
  refine flow_gcall (fun v W => ∃ A5 c5, v = .slice A5 nd c5 ∧ Rd W 1 A5 nd (BD.map u8v)) rfl (by kernel_rfl) (by rfl) (by kernel_rfl) (fun W hW hC => ⟨_, _, _, by go_simp, (HXB.out W (HKB.out.trans (hW.2.mono HKB.out.size))).mono fun e w1 hh => ?_⟩) ?_
  · obtain ⟨v, he, hov, hbv⟩ := hh
    refine ⟨v, he, ⟨⟨(hbv.block _ (lt_of_block hW.1.1)).trans hW.1.1, (Fr.of_below (B := 0) (T := []) (S := []) hbv).own hW.1.2 (by simp) (by simp)⟩, hW.2.trans (hbv.mono hW.2.size)⟩, ?_⟩
    obtain ⟨A', c', e', _, _, hrd, _⟩ := own_slice hov
    rw [HND.out] at e' hrd
    exact ⟨A', c', e', hrd⟩
  rintro v5 ⟨_, _, A5, c5, rfl, _⟩
  simp only [Act.put, List.setIfInBounds_toArray, List.set_cons_succ, List.set_cons_zero]
  refine flow_bmake (fun W => Below W1.heap.size W1 W) (fun v W => W.ownsRow W1.heap.size 5 1 v (nr + nd) (r2.map u8v ++ BD.map u8v)) rfl (by kernel_rfl) (by rfl) (by kernel_rfl) (by kernel_rfl) (fun W hW hC => ?_) ?_
  · obtain ⟨⟨⟨hq9, ho9⟩, hb9⟩, _⟩ := hW
    obtain ⟨A', c', e', hrd⟩ := hC
    cases e'
    refine exec_append_rd (.tmp 17) (.tmp 19) 31 rfl W1.heap.size 5 i0 (.int .u8 0) 1 1 Try.underlying31 hi0 hz0 hz1 hz2 rfl (by decide) _ nr _ rfl ho9 A5 nd c5 (BD.map u8v) rfl hrd (u8_one' _) (by unfold maxLen; omega) (by omega) hb9.size (fun v' w' x2 x3 => ?_)
    have fx : Fr W1.heap.size [5] [] W w' := (Fr.refl W).grown x3 (fun j hj => by
      obtain ⟨hb, cs, hc⟩ := own_block ho9 hj
      exact ⟨hb, .inr ⟨cs, _, _, hc, by simp⟩⟩)
    exact ⟨hb9.trans (fx.below hb9.size), x2⟩
  rintro v6 ⟨_, _, _⟩
  simp only [Act.put, List.setIfInBounds_toArray, List.set_cons_succ, List.set_cons_zero]
  refine flow_val ?_ rfl (by kernel_rfl) (by rfl) (fun W hW => ?_) ?_
  rotate_left 1
  · go_simp <;> with_reducible rfl
  simp only [Act.put, List.setIfInBounds_toArray, List.set_cons_succ, List.set_cons_zero]
  refine flow_done2 ?_
  intro W hW hC
  have HC := Lib.hid hC
  have HWB := Lib.hid hW.1
  clear hC hW
  go_wp2
  go_ret
  have e1 : BO.length = nr + nd := by rw [HEB.out, ← HNR.out, ← HND.out, ← HR2.out, ← HR1.out]; simp only [List.length_append, List.nil_append]
  have e2 : BO.map u8v = r2.map u8v ++ BD.map u8v := by rw [HEB.out, ← HR2.out, ← HR1.out]; simp
  exact ⟨_, rfl, by rw [e1, e2]; exact ownI_lowA HC.out HKB.out.size, HKB.out.trans (HWB.out.mono HKB.out.size)⟩
end Go.Proofs.Ytpccbobomppdbaa
