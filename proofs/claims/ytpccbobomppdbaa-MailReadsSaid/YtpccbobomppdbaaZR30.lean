/- Joined: The contract of the reference's Taker's Text. The reference's Read of a list of items. -/
import Derived.Test.YtpccbobomppdbaaZR29
import Derived.Test.YtpccbobomppdbaaZR17
import Derived.Test.YtpccbobomppdbaaZR20
import Derived.Test.YtpccbobomppdbaaZR8
namespace Go.Proofs.Ytpccbobomppdbaa
open Go.RowKit

/-- The bound that the reference's Text hands on. -/
def rmost (l : Nat) (most : Int) : Int := if (l : Int) < most then l else most
theorem rtextT_of (s : List Nat × Bool) (most : Int) {n : Int} {bs : List Nat} {bad : Bool} (h : numT s 0 (rmost s.1.length most) = (n, (bs, bad))) :
    rtextT s most = if bad = true ∨ (bs.length : Int) < n then ([], (bs, true)) else (bs.take n.toNat, (bs.drop n.toNat, false)) := by
  unfold rtextT
  unfold rmost at h
  rw [h]

set_option maxRecDepth 100000 in
set_option maxHeartbeats 2000000 in
theorem rttext_bad (p : Nat) (D : Option Nat) (s : List Nat × Bool) (b n : Int) (bs : List Nat) (bad : Bool) (w : World) (hT : IsT w 82 p D s) (hp : D ≠ some p) (hr : numT s 0 (rmost s.1.length b) = (n, (bs, bad))) (hn : bad = true ∨ (bs.length : Int) < n) :
    Calls Try.prog 50 #[.pointer (some ⟨p, 0, none⟩), .int .i64 b] w (RetT 82 p D (.string (strOf [])) (bs, true) w) := by
  have HT := Lib.hid hT
  have HD := Lib.hid hp
  have HR := Lib.hid hr
  obtain ⟨A0, c0, z1, _⟩ := hT
  have x0 : w.cell? ⟨p, 0, none⟩ = some (.slice A0 s.1.length c0) := cell_at z1 0
  clear hp hr z1
  by_cases hb : (s.1.length : Int) < b
  all_goals
    have HM : Hid (rmost s.1.length b = _) := Lib.hid (by unfold rmost; first | exact if_pos hb | exact if_neg hb)
    go_enter Try.func50, Try.ntmps50
    go_wp2_with fail
    refine (rtnum_any p D s 0 _ w HT.out HD.out).mono ?_
    rintro e w1 ⟨rfl, h1, hf⟩
    rw [← HM.out, HR.out] at h1 ⊢
    have H1 := Lib.hid h1
    obtain ⟨A, c, k1, k2, k3, k4, k5, k6, k7⟩ := h1
    simp only at k1 k2 k3 k4 k5 k6 k7
    have y0 : w1.cell? ⟨p, 0, none⟩ = some (.slice A bs.length c) := cell_at k1 0
    have y1 : w1.cell? ⟨p, 1, none⟩ = some (.bool bad) := cell_at k1 1
    have y2 := frozen_at k1 1
    have hm : c ≤ 9223372036854775807 := by unfold maxLen at k3; omega
    have HF := Lib.hid hf
    have HS := Lib.hid (IsT.of_set1 k1 k2 k3 k4 k5 HD.out k6 k7 true)
    clear k1 k3 k4 k5 k6 k7 hf x0
    cases bad
    · have hn' : (bs.length : Int) < n := by simpa using hn
      clear hn
      go_wp2_with fail
      go_ret
      exact ⟨rfl, HS.out.1, HF.out.trans HS.out.2⟩
    · clear hn
      go_wp2_with fail
      go_ret
      exact ⟨rfl, HS.out.1, HF.out.trans HS.out.2⟩

set_option maxRecDepth 100000 in
set_option maxHeartbeats 2000000 in
theorem rttext_in (p : Nat) (D : Option Nat) (s : List Nat × Bool) (b : Int) (n : Nat) (bs : List Nat) (w : World) (hT : IsT w 82 p D s) (hp : D ≠ some p) (hr : numT s 0 (rmost s.1.length b) = ((n : Int), (bs, false))) (hn : n ≤ bs.length) :
    Calls Try.prog 50 #[.pointer (some ⟨p, 0, none⟩), .int .i64 b] w (RetT 82 p D (.string (strOf (bs.take n))) (bs.drop n, false) w) := by
  have HT := Lib.hid hT
  have HD := Lib.hid hp
  have HR := Lib.hid hr
  obtain ⟨A0, c0, z1, _⟩ := hT
  have x0 : w.cell? ⟨p, 0, none⟩ = some (.slice A0 s.1.length c0) := cell_at z1 0
  have hdl : (bs.drop n).length = bs.length - n := by simp
  have HDL := Lib.hid hdl
  have hmd : (bs.drop n).map u8v = (bs.map u8v).drop (n * 1) := by simp
  have HMD := Lib.hid hmd
  have hmt : (bs.take n).map u8v = (bs.map u8v).take (n * 1) := by simp
  have HMT := Lib.hid hmt
  clear hp hr z1 hdl hmd hmt
  by_cases hb : (s.1.length : Int) < b
  all_goals
    have HM : Hid (rmost s.1.length b = _) := Lib.hid (by unfold rmost; first | exact if_pos hb | exact if_neg hb)
    go_enter Try.func50, Try.ntmps50
    go_wp2_with fail
    refine (rtnum_any p D s 0 _ w HT.out HD.out).mono ?_
    rintro e w1 ⟨rfl, h1, hf⟩
    rw [← HM.out, HR.out] at h1 ⊢
    obtain ⟨A, c, k1, k2, k3, k4, k5, k6, k7⟩ := h1
    simp only at k1 k2 k3 k4 k5 k6 k7
    have y0 : w1.cell? ⟨p, 0, none⟩ = some (.slice A bs.length c) := cell_at k1 0
    have y1 : w1.cell? ⟨p, 1, none⟩ = some (.bool false) := cell_at k1 1
    have y2 := frozen_at k1 0
    have hm : c ≤ 9223372036854775807 := by unfold maxLen at k3; omega
    have hs0 := run_str w1 A n c (bs.take n) (by rw [HMT.out]; exact k4.take hn) (fun x hx => k6 x (List.mem_of_mem_take hx))
    have HF := Lib.hid hf
    have K1 := Lib.hid k1
    have K4 := Lib.hid k4
    have K5 := Lib.hid k5
    have K3 := Lib.hid k3
    have HB6 := Lib.hid (fun x hx => k6 x (List.mem_of_mem_drop (i := n) hx))
    clear k1 k3 k4 k5 k6 hf x0
    rcases k7 with rfl | ⟨g, o, rfl⟩
    · obtain rfl : n = 0 := by omega
      have hb0 : bs.length ≤ 0 := k2
      have hn : (bs.drop 0).length = 0 := by rw [HDL.out]; omega
      have hfin := IsT.of_set0 (D := D) (bs := bs.drop 0) (A := A) (c := 0) K1.out (by omega) (Nat.zero_le _) (by rw [List.eq_nil_of_length_eq_zero hn]; exact Rd.nil) (by omega) HD.out HB6.out (.inl rfl)
      rw [hn] at hfin
      have HFin := Lib.hid hfin
      clear hfin hn
      cases A
      all_goals
        go_wp2_with fail
        go_ret
        exact ⟨rfl, HFin.out.1, HF.out.trans HFin.out.2⟩
    · by_cases hnc : c = n
      · subst hnc
        go_wp2_with fail
        go_ret
        have hn : (bs.drop c).length = 0 := by rw [HDL.out]; omega
        have e : bs.length - c = 0 := by omega
        have := IsT.of_set0 (D := D) (bs := bs.drop c) (A := some ⟨g, o, none⟩) (c := 0) K1.out (by omega) (Nat.zero_le _) (by rw [List.eq_nil_of_length_eq_zero hn]; exact Rd.nil) (by omega) HD.out HB6.out (.inr ⟨_, _, rfl⟩)
        rw [hn] at this
        try rw [e]
        exact ⟨rfl, this.1, HF.out.trans this.2⟩
      · have hck : n < c := by omega
        clear hnc
        go_wp2_with fail
        go_ret
        have := IsT.of_set0 (D := D) (bs := bs.drop n) (A := some ⟨g, o + n, none⟩) (c := c - n) K1.out (by rw [HDL.out]; omega) (by have := K3.out; omega) (by rw [HMD.out, HDL.out]; exact K4.out.drop hn (fun _ => by simp)) (fun hn a ha => by
          cases ha
          rw [HDL.out] at hn
          exact K5.out (by omega) ⟨g, o, none⟩ rfl) HD.out HB6.out (.inr ⟨_, _, rfl⟩)
        rw [HDL.out] at this
        exact ⟨rfl, this.1, HF.out.trans this.2⟩

theorem rttext_any (p : Nat) (D : Option Nat) (s : List Nat × Bool) (b : Int) (w : World) (hT : IsT w 82 p D s) (hp : D ≠ some p) :
    Calls Try.prog 50 #[.pointer (some ⟨p, 0, none⟩), .int .i64 b] w (RetT 82 p D (.string (strOf (rtextT s b).1)) (rtextT s b).2 w) := by
  obtain ⟨n, bs, bad, hr⟩ : ∃ n bs bad, numT s 0 (rmost s.1.length b) = (n, (bs, bad)) := ⟨_, _, _, rfl⟩
  rw [rtextT_of s b hr]
  by_cases hn : bad = true ∨ (bs.length : Int) < n
  · rw [if_pos hn]
    exact rttext_bad p D s b n bs bad w hT hp hr hn
  · rw [if_neg hn]
    have hbad : bad = false := by
      cases bad with
      | false => rfl
      | true => exact absurd (.inl rfl) hn
    subst hbad
    have h6 : ∀ x ∈ s.1, x < 256 := by
      obtain ⟨A, c, h1, h2, h3, h4, h5, h6, h7⟩ := hT
      exact h6
    have hg := numT_good h6 (a := 0) (b := rmost s.1.length b) (by rw [hr])
    rw [hr] at hg
    obtain ⟨_, k, _, h0, _⟩ := hg
    obtain ⟨m, rfl⟩ : ∃ m : Nat, n = m := ⟨n.toNat, by simp only at h0; omega⟩
    rw [show (m : Int).toNat = m from by omega]
    exact rttext_in p D s b m bs w hT hp hr (by have := fun h => hn (.inr h); omega)
end Go.Proofs.Ytpccbobomppdbaa

namespace Go.Proofs.Ytpccbobomppdbaa
open Go.RowKit

/-- The reference's taker, and what was there at W0. -/
def XSt (W0 W : World) (q : Nat) (D : Option Nat) (s : St) : Prop := IsT W 82 q D s ∧ Fr 0 [] [q] W0 W
theorem XSt.turn {W0 W W' : World} {q : Nat} {D : Option Nat} {s s' : St} (h : XSt W0 W q D s) (hT : IsT W' 82 q D s') (hf : Fr 0 [] [q] W W') : XSt W0 W' q D s' := ⟨hT, h.2.trans hf⟩
theorem ist_keepB {W W' : World} {T : TypeId} {p b : Nat} {D : Option Nat} {s : St} (h : IsT W T p D s) (hb : Below b W W') (h1 : p < b) (h2 : ∀ d, D = some d → d < b) : IsT W' T p D s := by
  obtain ⟨A, c, k1, k2, k3, k4, k5, k6, k7⟩ := h
  refine ⟨A, c, (hb.block _ h1).trans k1, k2, k3, ⟨k4.1, fun hn => ?_⟩, k5, k6, k7⟩
  obtain ⟨g, o, e, hg, hc⟩ := k4.2 hn
  have hgb : g < b := h2 g (by have := k5 hn _ e; simpa using this)
  exact ⟨g, o, e, Nat.lt_of_lt_of_le hg hb.size, fun j u hu => (World.cell?_of_block (a := ⟨g, o + j, none⟩) (hb.block g hgb)).trans (hc j u hu)⟩
theorem XSt.keep {W0 W W' : World} {q : Nat} {D : Option Nat} {s : St} (h : XSt W0 W q D s) (hb : Below W0.heap.size W W') (h1 : q < W0.heap.size) (h2 : ∀ d, D = some d → d < W0.heap.size) : XSt W0 W' q D s :=
  ⟨ist_keepB h.1 hb h1 h2, ⟨hb.os.trans h.2.os, hb.tape.trans h.2.tape, hb.output.trans h.2.output, Nat.le_trans h.2.size hb.size, fun k hk hc => (hb.block k hk).trans (h.2.block k hk hc)⟩⟩
theorem rtextT_16 {s : St} : (rtextT s 16).1.length ≤ 16 := by
  have h := numT_range s 0 (if (s.1.length : Int) < 16 then s.1.length else 16)
  have h2 : (if (s.1.length : Int) < 16 then (s.1.length : Int) else 16) ≤ 16 := by split <;> omega
  unfold rtextT
  generalize numT s 0 (if (s.1.length : Int) < 16 then s.1.length else 16) = r at h
  simp only
  split
  · simp
  · simp only [List.length_take]
    omega
def OkP (x : It) : Prop := x.good.size ≤ 16 ∧ -9223372036854775808 ≤ x.n ∧ x.n ≤ 9223372036854775807
theorem okP_x (s : St) : OkP ⟨strOf (rtextT s 16).1, (numT (rtextT s 16).2 1 1099511627776).1⟩ := by
  refine ⟨?_, ?_⟩
  · have := rtextT_16 (s := s)
    simp only [strOf_size']
    omega
  · rcases numT_range (rtextT s 16).2 1 1099511627776 with h | h
    · simp only [h]; omega
    · simp only; omega
theorem own_rd {w : World} {base : Nat} {e : TypeId} {size n c : Nat} {A : Option Addr} {xs : List Value} (h : w.ownsRow base e size (.slice A n c) n xs) : Rd w size A n xs := by
  obtain ⟨A', c', e', _, _, hr, _⟩ := own_slice h
  cases e'
  exact hr
set_option maxRecDepth 100000 in
set_option maxHeartbeats 4000000 in
theorem xiread_any (q : Nat) (D : Option Nat) (s s1 s2 : St) (N : Nat) (L : List It) (W0 : World) (hT : IsT W0 82 q D s) (hD : D ≠ some q) (hDl : ∀ d, D = some d → d < W0.heap.size) (h1 : numT s 0 16 = ((N : Int), s1)) (h2 : itX N [] s1 = (L, s2)) (hN : N ≤ 16) :
    Calls Try.prog 49 #[.pointer (some ⟨q, 0, none⟩)] W0 fun e W => ∃ v, e = .returned (.tuple #[v, .bool (!s2.2 && mayI L)]) ∧ W.ownsRow W0.heap.size 46 2 v L.length (L.flatMap encI) ∧ L.length ≤ 16 ∧ (∀ x ∈ L, OkP x) ∧ XSt W0 W q D s2 := by
  obtain ⟨i1, hi1, hy0, hy1, hy2⟩ := info_parts Try.infoItemA
  have HQ := Lib.hid hT.lt
  have HD := Lib.hid hD
  have HDL := Lib.hid hDl
  have HN0 := Lib.hid (rtnum_any q D s 0 16 W0 hT hD)
  rw [h1] at HN0
  have HX0 : Hid (XSt W0 W0 q D s) := Lib.hid ⟨hT, Fr.refl _⟩
  have H2 := Lib.hid h2
  have HNUM : Hid (∀ (W : World) (s s' : St) (a b n : Int), numT s a b = (n, s') → XSt W0 W q D s → Calls Try.prog 48 #[.pointer (some ⟨q, 0, none⟩), .int .i64 a, .int .i64 b] W fun e W' => e = .returned (.int .i64 n) ∧ XSt W0 W' q D s' ∧ Fr 0 [] [q] W W') := Lib.hid (fun W s s' a b n h hx => by
    have h9 := rtnum_any q D s a b W hx.1 hD
    rw [h] at h9
    exact h9.mono fun e W' ⟨he, hT, hf⟩ => ⟨he, hx.turn hT hf, hf⟩)
  have HTXT : Hid (∀ (W : World) (s s' : St) (g : List Nat), rtextT s 16 = (g, s') → XSt W0 W q D s → Calls Try.prog 50 #[.pointer (some ⟨q, 0, none⟩), .int .i64 16] W fun e W' => e = .returned (.string (strOf g)) ∧ XSt W0 W' q D s' ∧ Fr 0 [] [q] W W') := Lib.hid (fun W s s' g h hx => by
    have h9 := rttext_any q D s 16 W hx.1 hD
    rw [h] at h9
    exact h9.mono fun e W' ⟨he, hT, hf⟩ => ⟨he, hx.turn hT hf, hf⟩)
  clear hT hD hDl h1 h2
  go_enter Try.func49, Try.ntmps49
  go_wp2_with fail
  refine HN0.out.mono ?_
  rintro e w1 ⟨rfl, hT, hf⟩
  have HX1 := Lib.hid (HX0.out.turn hT hf)
  clear hT hf HN0
  go_wp2_with fail
  go_loopw [5, 6] (fun ov iv wr => ∃ k : Nat, k ≤ N ∧ iv = .int .i64 k ∧ ∃ (Lk : List It) (sk : St), itX (N - k) Lk sk = (L, s2) ∧ Lk.length ≤ k ∧ (∀ x ∈ Lk, OkP x) ∧ XSt W0 wr q D sk ∧ wr.ownsRow W0.heap.size 46 2 ov Lk.length (Lk.flatMap encI)) (fun _ iv => fun _ => N - (intOf iv).toNat)
  case atStart => exact ⟨0, Nat.zero_le _, rfl, [], s1, H2.out, Nat.le_refl _, by simp, HX1.out, World.ownsRow_nil _ _ _ _⟩
  case round =>
    obtain ⟨k, hk, rfl, Lk, sk, hit, hlk, hok, hx, ho⟩ := hrel
    have HX := Lib.hid hx
    have HOK := Lib.hid hok
    obtain ⟨n0, hn0⟩ : ∃ n0, Lk.length = n0 := ⟨_, rfl⟩
    rw [hn0] at hlk ho
    have HL0 := Lib.hid hn0
    have HO := Lib.hid ho
    obtain ⟨Ao, co, rfl, _, _, _, _⟩ := own_slice ho
    obtain ⟨⟨At, ct, ht1, _⟩, _⟩ := hx
    have hqb := cell_at ht1 1
    have hq9 : wr.cell? ⟨q, 1, none⟩ = some (.bool sk.2) := hqb
    have hqd : (q : Nat) < W0.heap.size := HQ.out
    obtain ⟨bk, bad⟩ := sk
    simp only at hq9
    have HIT := Lib.hid hit
    clear hok ho hn0 ht1 hqb hit
    by_cases hlt : k < N
    · have hkI : decide ((k : Int) < (N : Int)) = true := by simp; omega
      have hkJ : (k : Int) < (N : Int) := by omega
      obtain ⟨j, hj⟩ : ∃ j, N - k = j + 1 := ⟨N - k - 1, by omega⟩
      cases bad
      · obtain ⟨⟨g, sa⟩, hga⟩ : ∃ x, rtextT (bk, false) 16 = x := ⟨_, rfl⟩
        obtain ⟨⟨n, sb⟩, hnb⟩ : ∃ x, numT sa 1 1099511627776 = x := ⟨_, rfl⟩
        have hit2 := HIT.out
        have hop := okP_x (bk, false)
        rw [hj, itX, if_neg (by simp), hga] at hit2
        rw [hga] at hop
        simp only at hit2 hop
        rw [hnb] at hit2 hop
        simp only at hit2 hop
        obtain ⟨gs, hgs⟩ : ∃ gs, strOf g = gs := ⟨_, rfl⟩
        rw [hgs] at hit2 hop
        have HIT2 := Lib.hid hit2
        have HJ := Lib.hid hj
        have HOP := Lib.hid hop
        have HGA := Lib.hid hga
        have HNB := Lib.hid hnb
        have HGS := Lib.hid hgs
        have hba := (Below.refl wr.heap.size wr).alloc (Nat.le_refl _) (.cells #[.string { data := #[] }, .int .i64 0] 46)
        have hpx := block_new wr (.cells #[.string { data := #[] }, .int .i64 0] 46)
        obtain ⟨px, hpxe⟩ : ∃ px, wr.heap.size = px := ⟨_, rfl⟩
        obtain ⟨W1, hW1⟩ : ∃ W1, wr.alloc (.cells #[.string { data := #[] }, .int .i64 0] 46) = W1 := ⟨_, rfl⟩
        rw [hW1] at hba hpx
        rw [hpxe] at hpx
        have hwz := HX.out.2.size
        have HX1 := Lib.hid (HX.out.keep (hba.mono hwz) HQ.out HDL.out)
        have HO1 := Lib.hid ((Fr.of_below (B := 0) (T := []) (S := []) hba).own HO.out (by simp) (by simp))
        have HPX := Lib.hid hpx
        have HPE := Lib.hid hpxe
        have HW1 := Lib.hid hW1
        have HWZ : Hid (W0.heap.size ≤ px ∧ q < px ∧ ∀ j, (Value.slice Ao n0 co).ownBlock = some j → j < px) := Lib.hid ⟨by rw [← hpxe]; exact hwz, by rw [← hpxe]; omega, fun j hj => by obtain ⟨_, cs, hc⟩ := own_block HO.out hj; rw [← hpxe]; exact lt_of_block hc⟩
        clear hga hnb hit2 hop hgs hj hba hpx hpxe hW1 hwz
        go_wp2_with fail
        rw [HW1.out, HPE.out]
        refine (HTXT.out W1 _ sa g HGA.out HX1.out).mono ?_
        rintro e w2 ⟨rfl, hx, hf⟩
        rw [HGS.out]
        have HX2 := Lib.hid hx
        have HPX2 := Lib.hid (hf.keep0 HPX.out (by have := HWZ.out.2.1; simp; omega))
        have HO2 := Lib.hid (hf.own HO1.out (by simp) (fun j hj => by obtain ⟨h1, _⟩ := own_block HO1.out hj; have := HQ.out; simp; omega))
        have y0 := cell_at HPX2.out 0
        have f0 := frozen_at HPX2.out 0
        have HX3 := Lib.hid (HX2.out.keep ((Below.refl W0.heap.size w2).setCell (p := ⟨px, 0, none⟩) HWZ.out.1 (.string gs)) HQ.out HDL.out)
        have HPX3 : Hid ((w2.setCell ⟨px, 0, none⟩ (.string gs)).heap[px]? = some (.cells #[.string gs, .int .i64 0] 46 (0, 0))) := Lib.hid (by rw [block_set HPX2.out]; rfl)
        have HO3 := Lib.hid (((Fr.refl w2).setCell (B := 0) (T := []) (S := [px]) (p := ⟨px, 0, none⟩) (.string gs) (Nat.zero_le _) (.inl (by simp))).own HO2.out (by simp) (fun j hj => by have := HWZ.out.2.2 j hj; simp; omega))
        obtain ⟨W3, hW3⟩ : ∃ W3, w2.setCell ⟨px, 0, none⟩ (.string gs) = W3 := ⟨_, rfl⟩
        rw [hW3] at HX3 HPX3 HO3
        have HW3 := Lib.hid hW3
        clear hx hf hW3
        go_wp2_with fail
        rw [HW3.out]
        clear y0 f0
        refine (HNUM.out W3 sa sb 1 1099511627776 n HNB.out HX3.out).mono ?_
        rintro e w4 ⟨rfl, hx, hf⟩
        have HX4 := Lib.hid hx
        have HPX4 := Lib.hid (hf.keep0 HPX3.out (by have := HWZ.out.2.1; simp; omega))
        have HO4 := Lib.hid (hf.own HO3.out (by simp) (fun j hj => by obtain ⟨h1, _⟩ := own_block HO3.out hj; have := HQ.out; simp; omega))
        have y0 := cell_at HPX4.out 0
        have y1 := cell_at HPX4.out 1
        have f1 := frozen_at HPX4.out 1
        have HX5 := Lib.hid (HX4.out.keep ((Below.refl W0.heap.size w4).setCell (p := ⟨px, 1, none⟩) HWZ.out.1 (.int .i64 n)) HQ.out HDL.out)
        have HPX5 : Hid ((w4.setCell ⟨px, 1, none⟩ (.int .i64 n)).heap[px]? = some (.cells #[.string gs, .int .i64 n] 46 (0, 0))) := Lib.hid (by rw [block_set HPX4.out]; rfl)
        have HO5 := Lib.hid (((Fr.refl w4).setCell (B := 0) (T := []) (S := [px]) (p := ⟨px, 1, none⟩) (.int .i64 n) (Nat.zero_le _) (.inl (by simp))).own HO4.out (by simp) (fun j hj => by have := HWZ.out.2.2 j hj; simp; omega))
        have z0 := cell_at HPX5.out 0
        have z1 := cell_at HPX5.out 1
        have hb6 := (Below.refl (w4.setCell ⟨px, 1, none⟩ (.int .i64 n)).heap.size (w4.setCell ⟨px, 1, none⟩ (.int .i64 n))).alloc (Nat.le_refl _) (.cells #[.string gs, .int .i64 n] 46)
        have HB6 := Lib.hid hb6
        have hnw := block_new (w4.setCell ⟨px, 1, none⟩ (.int .i64 n)) (.cells #[.string gs, .int .i64 n] 46)
        rw [show (w4.setCell ⟨px, 1, none⟩ (.int .i64 n)).heap.size = w4.heap.size by simp [World.setCell]] at hnw
        have HNW := Lib.hid hnw
        have HO6 := Lib.hid ((Fr.of_below (B := 0) (T := []) (S := []) hb6).own HO5.out (by simp) (by simp))
        have HZ6 : Hid (W0.heap.size ≤ ((w4.setCell ⟨px, 1, none⟩ (.int .i64 n)).alloc (.cells #[.string gs, .int .i64 n] 46)).heap.size) := Lib.hid (Nat.le_trans HX5.out.2.size hb6.size)
        have HX6 := Lib.hid (HX5.out.keep (hb6.mono HX5.out.2.size) HQ.out HDL.out)
        clear hx hf hb6 hnw
        go_wp2_with (at_builtin
                     refine wpList_append_rd _ rfl (.tmp 29) (.tmp 31) 22 rfl W0.heap.size 46 i1 (.agg #[.string ByteArray.empty, .int .i64 0]) 2 24 Try.underlying22 hi1 hy0 hy1 hy2 rfl (by decide) (.slice Ao n0 co) n0 (Lk.flatMap encI) rfl HO6.out (some ⟨w4.heap.size, 0, none⟩) 1 1 (encI ⟨gs, n⟩) rfl (rd_oneA HNW.out) (by simp [encI, Value.oneCell']) (by unfold maxLen; omega) (by omega) HZ6.out ?_
                     intro v7 w7 hown7 hgrow7 _
                     have f7 : Fr W0.heap.size [46] [] ((w4.setCell ⟨px, 1, none⟩ (.int .i64 n)).alloc (.cells #[.string gs, .int .i64 n] 46)) w7 := (Fr.refl _).grown hgrow7 fun j hj => by
                       obtain ⟨hb, cs, hc⟩ := own_block HO6.out hj
                       exact ⟨hb, .inr ⟨cs, _, _, hc, by simp⟩⟩
                     have HX7 := Lib.hid (HX6.out.keep (f7.below HZ6.out) HQ.out HDL.out)
                     have HO7 := Lib.hid hown7
                     obtain ⟨A7, c7, rfl, _, _, _, _⟩ := own_slice hown7
                     clear hown7 hgrow7 f7)
        go_roundw
        case rel =>
          refine ⟨k + 1, hlt, by go_num, Lk ++ [⟨gs, n⟩], sb, by rw [show N - (k + 1) = j by have := HJ.out; omega]; exact HIT2.out, by rw [List.length_append, HL0.out]; simp; omega, fun x hx => ?_, HX7.out, ?_⟩
          · rcases List.mem_append.1 hx with h | h
            · exact HOK.out x h
            · simp only [List.mem_cons, List.not_mem_nil, or_false] at h
              subst h
              exact HOP.out
          · rw [List.length_append, HL0.out, List.flatMap_append, List.flatMap_cons, List.flatMap_nil, List.append_nil]
            exact HO7.out
        case measure => simp [intOf]; omega
      · have hit2 := HIT.out
        rw [hj, itX, if_pos rfl] at hit2
        cases hit2
        have HB : Hid (n0 ≤ 16 ∧ L.length = n0) := Lib.hid ⟨by omega, HL0.out⟩
        go_wp2
        go_ret2
        exact ⟨_, rfl, by rw [HB.out.2]; exact HO.out, by rw [HB.out.2]; exact HB.out.1, HOK.out, HX.out⟩
    · have ekm : k = N := by omega
      have hkI : decide ((k : Int) < (N : Int)) = false := by simp; omega
      have hit2 := HIT.out
      rw [show N - k = 0 by omega, itX] at hit2
      cases hit2
      subst ekm
      have HB : Hid (n0 ≤ 16 ∧ L.length = n0) := Lib.hid ⟨by omega, HL0.out⟩
      cases bad
      · have HMAY := Lib.hid (xmayI_any Ao co L wr (by rw [HB.out.2]; exact (own_rd HO.out)) (fun z hz => by obtain ⟨h1, h2, h3⟩ := HOK.out z hz; exact ⟨by omega, h2, h3⟩) (by rw [HB.out.2]; omega))
        rw [HB.out.2] at HMAY
        go_wp2_with fail
        refine HMAY.out.mono ?_
        rintro e w9 ⟨rfl, hb⟩
        have HX9 := Lib.hid (HX.out.keep (hb.mono HX.out.2.size) HQ.out HDL.out)
        have HO9 := Lib.hid ((Fr.of_below (B := 0) (T := []) (S := []) hb).own HO.out (by simp) (by simp))
        clear hb
        go_wp2
        go_ret2
        exact ⟨_, rfl, by rw [HB.out.2]; exact HO9.out, by rw [HB.out.2]; exact HB.out.1, HOK.out, HX9.out⟩
      · go_wp2
        go_ret2
        exact ⟨_, rfl, by rw [HB.out.2]; exact HO.out, by rw [HB.out.2]; exact HB.out.1, HOK.out, HX.out⟩
end Go.Proofs.Ytpccbobomppdbaa
