/- The law BacklogFair: the walk, and the statement: for every slice of calls the call returns true. -/
import Derived.Test.YtglfbihdbdcgiaaFair
namespace Go.Proofs.Ytglfbihdbdcgiaa
open Go.ChangeShapes Go.WideShapes Go.ChangeAt Go.RowKit

theorem Try.zeroBool (w : World) : (zeroValue 4).run Try.prog w = .ok (.bool false) w := by kernel_rfl

/-- What holds at the head of a round. -/
def FairRel (w wr : World) (t l i : Value) : Prop := ∃ (k n mb : Nat) (rs : List (Int × Bool)) (acc : List Int) (last : Int), i = .int .i64 k ∧ t = .map (some mb) ∧ l = .int .i64 last ∧ n ≤ k ∧ w.heap.size ≤ mb ∧
  IsB wr w.heap.size w.heap.size rs 0 ∧ IsSet Try.prog 3 4 wr mb n acc ∧ FairInv rs acc last ∧ (last < rs.length ∨ last = -1) ∧ Below w.heap.size w wr

theorem IsSet.block {P : Program} {k e : TypeId} {w : World} {b n : Nat} {acc : List Int} (h : IsSet P k e w b n acc) : ∃ es c, w.heap[b]? = some (.map es c) := by
  obtain ⟨D, ⟨es, clock, hb, _⟩, _⟩ := h
  exact ⟨es, clock, hb⟩
theorem IsB.grownMap {w w' : World} {B p mb : Nat} {rs : List (Int × Bool)} {out : Int} (h : IsB w B p rs out) (hg : w.grownBy w' (some mb)) (hm : ∃ es c, w.heap[mb]? = some (.map es c)) : IsB w' B p rs out := by
  obtain ⟨hB, v, hp, ho⟩ := h
  obtain ⟨es, c, hm⟩ := hm
  refine ⟨hB, v, ?_, ho.kept hg (.inr (fun e => ?_))⟩
  · rw [hg.block p (lt_of_block hp) (fun e => by injection e with e; rw [e, hm] at hp; cases hp)]
    exact hp
  · obtain ⟨_, cs, hc⟩ := own_block ho e
    rw [hm] at hc
    cases hc
theorem backSelf {x : Int} (h : 1 ≤ x) : backB x x = true ∧ backO x x = 0 := by
  unfold backB backO
  have : x ≠ 0 := by omega
  simp [this]

set_option maxRecDepth 100000 in
set_option maxHeartbeats 4000000 in
theorem fair_any (A : Option Addr) (len cap : Nat) (zs : List (Int × Int)) (w : World) (hr : IsPairs w A len cap zs) :
    Calls Try.prog 3 #[.slice A len cap] w fun e w' => e = .returned (.bool true) ∧ Below w.heap.size w w' := by
  have hmm := @run_makeMap Try.prog
  have hm : len ≤ 9223372036854775807 := by have := Nat.le_trans hr.1 hr.2.1; unfold maxLen at this; omega
  have HZ := Lib.hid hr.length
  have HR := Lib.hid hr
  clear hr
  go_enter Try.func3, Try.ntmps3
  go_wp2_with fail
  refine (new_any _ w.heap.size (Nat.le_refl _)).mono ?_
  rintro e w1 ⟨rfl, i1, b1⟩
  go_wp2_with fail
  refine (lives_any _).mono ?_
  rintro e w2 ⟨rfl, b2⟩
  have i2 := (i1.below b2).below ((Below.refl _ _).alloc (Nat.le_refl _) (.map #[] 0))
  have b3 := (b1.trans (b2.mono b1.size)).alloc (Nat.le_trans b1.size b2.size) (.map #[] 0)
  have hs2 : w.heap.size ≤ w2.heap.size := Nat.le_trans b1.size b2.size
  clear i1 b1 b2
  go_wp2_with fail
  go_loopw [4, 5, 6] (fun t l i wr => FairRel w wr t l i ∧ (intOf i).toNat ≤ len) (fun _ _ i _ => len - (intOf i).toNat)
  case atStart => exact ⟨⟨0, 0, w2.heap.size, [], [], -1, rfl, rfl, rfl, Nat.le_refl _, hs2, i2, IsSet.made _ _ _ _, FairInv.start, .inr rfl, b3⟩, Nat.zero_le _⟩
  case round =>
    obtain ⟨⟨k, n, mb, rs, acc, last, rfl, rfl, rfl, hn, hmb, hi, hset, hinv, hlast, hb⟩, hk⟩ := hrel
    have hk' : k ≤ len := by simpa [intOf] using hk
    have INV := Lib.hid hinv
    have HLast := Lib.hid hlast
    have HSet := Lib.hid hset
    clear hk i2 b3 hinv hlast hset
    by_cases hlt : k < len
    · by_cases h300 : k < 300
      · obtain ⟨g, o, rfl, hg, hc⟩ := HR.out.at_ (by omega)
        have hzl : k < zs.length := by rw [HZ.out]; exact hlt
        obtain ⟨hc0, hc1⟩ := hc k hzl
        obtain ⟨wK, wN⟩ := HR.out.2.2.2 zs[k] (List.getElem_mem hzl)
        obtain ⟨K, hK⟩ : ∃ K, zs[k].1 = K := ⟨_, rfl⟩
        obtain ⟨N, hN⟩ : ∃ N, zs[k].2 = N := ⟨_, rfl⟩
        rw [hK] at hc0
        rw [hN] at hc1 wN
        have c0 : wr.cell? ⟨g, o + k * 2, none⟩ = some (.int .i64 K) := (hb.cell (p := ⟨g, o + k * 2, none⟩) hg).trans hc0
        have c1 : wr.cell? ⟨g, o + k * 2 + 1, none⟩ = some (.int .i64 N) := (hb.cell (p := ⟨g, o + k * 2 + 1, none⟩) hg).trans hc1
        have WN := Lib.hid wN
        have fa : Fr w.heap.size [] [] wr (wr.alloc (.cells #[.int .i64 K, .int .i64 N] 28)) := (Fr.refl wr).alloc _
        have ia := hi.below ((Below.refl _ _).alloc (Nat.le_refl _) (.cells #[.int .i64 K, .int .i64 N] 28))
        have ba := hb.trans (fa.below hb.size)
        have SA := Lib.hid (HSet.out.fr fa (by simp))
        clear hc hc0 hc1 hK hN wK wN hi hb fa
        by_cases e1 : K = 1
        · subst e1
          go_wp2_with fail
          refine (push_any N _ _ _ _ _ ia INV.out.small).mono ?_
          rintro e w4 ⟨rfl, i4, f4⟩
          obtain ⟨inv4, last4⟩ := INV.out.push HLast.out WN.out
          have s4 := SA.out.fr f4 (by simp)
          have b4 := ba.trans (f4.below ba.size)
          have INV4 := Lib.hid inv4
          have L4 := Lib.hid last4
          have S4 := Lib.hid s4
          clear inv4 last4 s4 f4
          go_wp2
          go_roundw
          case rel => exact ⟨⟨k + 1, n, mb, _, acc, last, by go_num, rfl, rfl, by omega, hmb, i4, S4.out, INV4.out, L4.out, b4⟩, by simp [intOf]; omega⟩
          case measure => simp [intOf]; omega
        · have k1 : (K == 1) = false := by simpa using e1
          by_cases e3 : K = 3
          · subst e3
            go_wp2_with fail
            refine (news_any _ _ _ _ _ ia).mono ?_
            rintro e w4 ⟨rfl, i4, f4⟩
            have b4 := ba.trans (f4.below ba.size)
            have i5 := i4.below ((Below.refl _ _).alloc (Nat.le_refl _) (.map #[] 0))
            have b5 := b4.alloc b4.size (.map #[] 0)
            have hs4 := b4.size
            clear f4 i4 b4
            go_wp2
            go_roundw
            case rel => exact ⟨⟨k + 1, 0, w4.heap.size, _, [], -1, by go_num, rfl, rfl, by omega, hs4, i5, IsSet.made _ _ _ _, INV.out.news, .inr rfl, b5⟩, by simp [intOf]; omega⟩
            case measure => simp [intOf]; omega
          · have k3 : (K == 3) = false := by simpa using e3
            by_cases e4 : K = 4
            · subst e4
              cases hf : rs.findIdx? (fun r => r.2) with
              | none =>
                have ht := try_no hf
                clear hf
                go_wp2_with fail
                refine (try_any _ _ _ _ _ ia).mono ?_
                rintro e w4 ⟨rfl, i4, f4⟩
                rw [ht.1, ht.2.1]
                rw [ht.2.2.1, ht.2.2.2] at i4
                have S4 := Lib.hid (SA.out.fr f4 (by simp))
                have b4 := ba.trans (f4.below ba.size)
                clear ht f4 ia ba
                go_wp2
                go_roundw
                case rel => exact ⟨⟨k + 1, n, mb, _, acc, last, by go_num, rfl, rfl, by omega, hmb, i4, S4.out, INV.out, HLast.out, b4⟩, by simp [intOf]; omega⟩
                case measure => simp [intOf]; omega
              | some j =>
                obtain ⟨x, hx1, hxw, hX, hB, hO, hacc, hidx, hlk, hjl, hlen, hinv'⟩ := INV.out.try hf
                have INV' := Lib.hid hinv'
                have HJ := Lib.hid hjl
                have HX := Lib.hid hidx
                have HA := Lib.hid hacc
                have HW := Lib.hid hxw
                have HS : Hid ((tryS rs 0).length ≤ 256) := by have := INV.out.small; unfold Hid; omega
                clear hf hinv' hjl hlen hidx hacc hxw
                go_wp2_with fail
                refine (try_any _ _ _ _ _ ia).mono ?_
                rintro e w4 ⟨rfl, i4, f4⟩
                rw [hX, hB]
                rw [hO] at i4
                have S4 := Lib.hid (SA.out.fr f4 (by simp))
                have b4 := ba.trans (f4.below ba.size)
                have hlook := S4.out.look (t := 26) (Maps.int_keyed Try.underlying3) Try.underlying3 Try.underlying26 Try.underlying4 (Try.zeroBool _) HW.out
                rw [decide_eq_false HA.out] at hlook
                clear f4 ia ba hX hB hO
                go_wp2_with fail
                refine (place_any x _ _ _ _ _ i4 HS.out).mono ?_
                rintro e w5 ⟨rfl, b5⟩
                rw [HX.out]
                have i5 := i4.below b5
                have S5 := Lib.hid (S4.out.fr (Fr.of_below (B := w.heap.size) (T := []) (S := []) b5) (by simp))
                have b6 := b4.trans (b5.mono b4.size)
                clear i4 b4 b5 hlook
                go_wp2_with (at_mapUpdate
                             refine wpList_set_store _ rfl _ _ _ rfl S5.out (Maps.int_keyed Try.underlying3) Try.underlying3 Try.underlying26 Try.underlying4 x rfl rfl rfl HW.out (by unfold maxLen; omega) ?_
                             intro w7 hs7 hg7
                             have S7 := Lib.hid hs7
                             have G7 := Lib.hid hg7
                             clear hs7 hg7)
                have i7 := i5.grownMap G7.out S5.out.block
                have b7 := b6.grown G7.out b6.size (fun q hq => by injection hq with hq; omega)
                clear i5 b6
                refine (place_any x _ _ _ _ _ i7 HS.out).mono ?_
                rintro e w8 ⟨rfl, b8⟩
                rw [HX.out]
                have i8 := i7.below b8
                have S8 := Lib.hid (S7.out.fr (Fr.of_below (B := w.heap.size) (T := []) (S := []) b8) (by simp))
                have b9 := b7.trans (b8.mono b7.size)
                clear i7 b7 b8
                go_wp2_with fail
                refine (back_any x _ _ _ _ _ i8).mono ?_
                rintro e w10 ⟨rfl, i10, f10⟩
                rw [(backSelf hx1).2] at i10
                have S10 := Lib.hid (S8.out.fr f10 (by simp))
                have b10 := b9.trans (f10.below b9.size)
                clear i8 b9 f10
                go_wp2
                go_roundw
                case rel => exact ⟨⟨k + 1, n + 1, mb, _, x :: acc, j, by go_num, rfl, rfl, by omega, hmb, i10, S10.out, INV'.out, .inl (by have := HJ.out; omega), b10⟩, by simp [intOf]; omega⟩
                case measure => simp [intOf]; omega
            · have k4 : (K == 4) = false := by simpa using e4
              go_wp2
              go_roundw
              case rel => exact ⟨⟨k + 1, n, mb, _, acc, last, by go_num, rfl, rfl, by omega, hmb, ia, SA.out, INV.out, HLast.out, ba⟩, by simp [intOf]; omega⟩
              case measure => simp [intOf]; omega
      · go_wp2
        go_ret
        exact ⟨rfl, hb⟩
    · go_wp2
      go_ret
      exact ⟨rfl, hb⟩

set_option maxRecDepth 100000 in
theorem backlogFair_lifted (os : Os) (started : os.Started) (H : Type) (enc : TypeId × Value → H) :
    ReturnsInHanded {} Try.checked os 3 .any (Rows.backlogFairSpec.pre6 enc Try.prog Try.f3 Rows.backlogFairRow.domain false) (Rows.backlogFairSpec.post enc Try.prog Try.f3 false true false false) := by
  refine returnsInHanded_of_change (C := Try.checked) own started (by kernel_rfl) Try.func3
    (ChangeSpec.witness6 (enc := enc) (C := Try.checked) false ⟨#[], #[.slice none 0 0], []⟩ 8 (by kernel_rfl) (by kernel_rfl) (by kernel_rfl) (by kernel_rfl)) ?_
  intro W base args ds gs before hval0 hW _ _
  have hval : ∀ (j : Nat) t v, Try.f3.params[j]? = some t → args[j]? = some v → Value.okWide Try.prog W .any base t v := hval0
  have hW' := hW
  obtain ⟨p, q, hA0, hV, hpq, hfz, hnd⟩ := hW
  have hA : DataW.TrodAll enc Try.prog W 0 (fun _ => true) true Try.f3.params.toList args.toList ds p := hA0
  rw [Try.params3] at hA hval
  obtain ⟨v0, vs0, d0, ds0, p0, q0, hargs, rfl, rfl, h0, r0⟩ := trodAll_cons hA
  obtain ⟨rfl, rfl, rfl⟩ := trodAll_nil r0
  obtain rfl : args = #[v0] := by cases args; simp_all
  obtain ⟨a0, len0, cap0, z0, rfl, w0⟩ := open_pairs Try.underlying22 Try.underlying28 (by kernel_rfl) rfl rfl (by kernel_rfl) (by kernel_rfl) Try.underlying3 Try.underlying3 (hval 0 22 v0 rfl rfl) h0
  obtain ⟨rfl, rfl⟩ := trodVars_none hV
  clear hA0 hval0
  refine (fair_any a0 len0 cap0 z0 W w0).mono fun e W' ⟨he, bel⟩ => ?_
  subst he
  exact ⟨_, rfl, post_true laidOut (by intro t ht; simp only [Try.params3] at ht; simp at ht; rcases ht with rfl <;> exact ⟨by kernel_rfl, of_decide_eq_true (by kernel_rfl)⟩) (by kernel_rfl) Try.underlying4 rfl rfl rfl rfl hW' bel⟩

theorem backlogFair_holds : Rows.BacklogFairSaid :=
  OpenClaim.holds_of_wide 3 Try.f3 rfl rfl rfl rfl rfl rfl rfl ⟨rfl, rfl, rfl, rfl, rfl⟩ rfl rfl rfl rfl rfl (by kernel_rfl) Try.func3 (by kernel_rfl)
    (of_decide_eq_true (by kernel_rfl)) (by unfold Func.isWrapper; first | (rw [if_pos (by decide +kernel)]; kernel_rfl) | (rw [if_neg (by decide +kernel)]; exact ⟨rfl, rfl⟩))
    (fun os started H enc _ => backlogFair_lifted os started H enc)
#print axioms backlogFair_holds
end Go.Proofs.Ytglfbihdbdcgiaa
