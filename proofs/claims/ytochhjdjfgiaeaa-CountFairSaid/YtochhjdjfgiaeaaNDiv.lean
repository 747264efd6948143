/- math/bits.Div64 where the high word is not 0. -/
import Derived.Test.YtochhjdjfgiaeaaNKnuth
import Derived.Test.YtochhjdjfgiaeaaShelf
import Derived.Deep.CutBlock
import Derived.Deep.DeepCutAuto
namespace Go.Proofs.Ytochhjdjfgiaeaa
open Go.RowKit

theorem lz_any (S s : Nat) (hS : S < 18446744073709551616) (hs : s ≤ 63) (hl : Lib.bitLen S = 64 - s) (w : World) :
    Calls Try.prog 43 #[.int .u64 (S : Int)] w fun e w' => e = .returned (.int .i64 (s : Int)) ∧ w = w' := by
  have HL := Lib.hid hl
  have hi : (64 : Int) - ((64 - s : Nat) : Int) = (s : Int) := by omega
  have hw : IntKind.i64.wrap (s : Int) = (s : Int) := IntWalk.i64_in _ (by omega)
  have HC := Lib.hid (Try.bits_Len64 (S : Int) w (by omega) (by omega))
  obtain ⟨b, hb⟩ : ∃ b, 64 - s = b := ⟨_, rfl⟩
  rw [hb] at HL hi
  clear hl hb
  go_enter Try.func43, Try.ntmps43
  go_wp2_with fail
  refine HC.out.mono ?_
  rintro e w1 ⟨rfl, rfl⟩
  rw [Int.toNat_natCast, HL.out]
  go_wp2_with fail
  go_ret
  exact ⟨rfl, rfl⟩

/-- What the walk multiplies, adds and takes off at one digit, as it stands in the words. -/
theorem digit_facts {u d y y1 Q R : Nat} (hA : Q * y + R = u * 4294967296 + d) (hR : R < y) (hy : y < 18446744073709551616) (hu : u < 18446744073709551616) (hd : d < 4294967296) (h1 : 0 < y1) :
    ∃ a1 a2 a3 q0 r0 m0 : Nat, IntKind.u64.wrap ((u : Int) * 4294967296) = (a1 : Int) ∧ IntKind.u64.wrap ((a1 : Int) + (d : Int)) = (a2 : Int) ∧ IntKind.u64.wrap ((Q : Int) * (y : Int)) = (a3 : Int) ∧ IntKind.u64.wrap ((a2 : Int) - (a3 : Int)) = (R : Int) ∧ (IntKind.u64.wrap ((u : Int) / (y1 : Int)) = (q0 : Int) ∧ q0 = u / y1) ∧ IntKind.u64.wrap ((q0 : Int) * (y1 : Int)) = (m0 : Int) ∧ (IntKind.u64.wrap ((u : Int) - (m0 : Int)) = (r0 : Int) ∧ r0 = u % y1) := by
  have e := Nat.div_add_mod u y1
  have e2 : u / y1 ≤ u := Nat.div_le_self _ _
  have e3 : u / y1 * y1 ≤ u := Nat.div_mul_le_self _ _
  rw [Nat.mul_comm] at e
  refine ⟨u * 4294967296 % 18446744073709551616, (u * 4294967296 % 18446744073709551616 + d) % 18446744073709551616, Q * y % 18446744073709551616, u / y1, u % y1, u / y1 * y1, ?_, ?_, ?_, ?_, ⟨?_, rfl⟩, ?_, ?_, rfl⟩
  · rw [IntKind.wrap_u64]; omega
  · rw [IntKind.wrap_u64]; omega
  · rw [IntKind.wrap_u64, ← Int.natCast_mul]; omega
  · rw [IntKind.wrap_u64]; omega
  · rw [← Int.natCast_ediv]
    obtain ⟨q, hq⟩ : ∃ q, u / y1 = q := ⟨_, rfl⟩
    rw [hq] at e2 ⊢
    rw [IntKind.wrap_u64]; omega
  · rw [← Int.natCast_mul, IntKind.wrap_u64]; omega
  · rw [IntKind.wrap_u64]; omega
/-- What the test of a guess multiplies. -/
theorem guess_facts {q r y0 d : Nat} (hq : q < 4294967296) (hr : r < 4294967296) (hy : y0 < 4294967296) (hd : d < 4294967296) : ∃ a b c : Nat, IntKind.u64.wrap ((q : Int) * (y0 : Int)) = (a : Int) ∧ a = q * y0 ∧ IntKind.u64.wrap (4294967296 * (r : Int)) = (b : Int) ∧ IntKind.u64.wrap ((b : Int) + (d : Int)) = (c : Int) ∧ c = 4294967296 * r + d := by
  have := KnuthP.Gs.word hq hy
  refine ⟨q * y0, 4294967296 * r, 4294967296 * r + d, ?_, rfl, ?_, ?_, rfl⟩
  · rw [← Int.natCast_mul, IntKind.wrap_u64]; omega
  · rw [IntKind.wrap_u64]; omega
  · rw [IntKind.wrap_u64]; omega
theorem and_low (x : Nat) (h : x < 18446744073709551616) : bits .and .u64 (x : Int) 4294967295 = ((x % 4294967296 : Nat) : Int) := by
  have e := u64_and_nat x 4294967295 h (by decide)
  refine Eq.trans e ?_
  rw [show (4294967295 : Nat) = 2 ^ 32 - 1 from rfl, Nat.and_two_pow_sub_one_eq_mod]

set_option maxRecDepth 100000 in
set_option maxHeartbeats 4000000 in
theorem div_any (hi lo S : Nat) (h0 : 0 < hi) (h : hi < S) (hlo : lo < 18446744073709551616) (hS : S < 18446744073709551616) (w : World) :
    Calls Try.prog 29 #[.int .u64 (hi : Int), .int .u64 (lo : Int), .int .u64 (S : Int)] w fun e w' => e = .returned (.tuple #[.int .u64 (((hi * 18446744073709551616 + lo) / S : Nat) : Int), .int .u64 (((hi * 18446744073709551616 + lo) % S : Nat) : Int)]) ∧ Below w.heap.size w w' := by
  obtain ⟨s, p, p', y1, y0, u, d1, d0, D⟩ := KnuthP.dv h hlo hS
  have HD := Lib.hid D
  have b1 : ((S : Int) == 0) = false := by rw [beq_eq_false_iff_ne]; omega
  have b2 : ¬ (S : Int) ≤ (hi : Int) := by omega
  have b3 : ((hi : Int) == 0) = false := by rw [beq_eq_false_iff_ne]; omega
  have hs63 := D.s63
  have wu : IntKind.u64.wrap (s : Int) = (s : Int) := by rw [IntKind.wrap_u64]; omega
  have hz : ¬ (s : Int) < 0 := by omega
  have P2 : (2 : Int) ^ s = (p : Int) := by rw [← D.pow]; simp
  have P3 : (2 : Int) ^ (64 - s) = (p' : Int) := by rw [← D.pow']; simp
  have sh1 : IntKind.u64.wrap ((S : Int) * 2 ^ s) = ((S * p : Nat) : Int) := by
    rw [P2, ← Int.natCast_mul, IntKind.wrap_u64]
    have := D.word
    omega
  have sh2 : IntKind.u64.wrap ((hi : Int) * 2 ^ s) = ((hi * p : Nat) : Int) := by
    rw [P2, ← Int.natCast_mul, IntKind.wrap_u64]
    have := D.hiw
    omega
  have sh3 : IntKind.u64.wrap ((lo : Int) * 2 ^ s) = ((lo * p % 18446744073709551616 : Nat) : Int) := by
    rw [P2, ← Int.natCast_mul, IntKind.wrap_u64]
    omega
  have sh4 : (lo : Int) / 2 ^ (64 - s) = ((lo / p' : Nat) : Int) := by
    rw [P3]
    omega
  have hs4 : (64 : Int) - (s : Int) = ((64 - s : Nat) : Int) := by omega
  have ws4 : IntKind.u64.wrap ((64 - s : Nat) : Int) = ((64 - s : Nat) : Int) := by rw [IntKind.wrap_u64]; omega
  have HZ := Lib.hid (lz_any S s hS hs63 D.len)
  obtain ⟨y, hy⟩ : ∃ y, S * p = y := ⟨_, rfl⟩
  obtain ⟨d, hd⟩ : ∃ d, lo * p % 18446744073709551616 = d := ⟨_, rfl⟩
  obtain ⟨hp, hhp⟩ : ∃ hp, hi * p = hp := ⟨_, rfl⟩
  obtain ⟨lp, hlp⟩ : ∃ lp, lo / p' = lp := ⟨_, rfl⟩
  obtain ⟨t, ht⟩ : ∃ t, 64 - s = t := ⟨_, rfl⟩
  rw [hy] at sh1
  rw [hd] at sh3
  rw [hhp] at sh2
  rw [hlp, ht] at sh4
  rw [ht] at hs4 ws4
  have htz : ¬ (t : Int) < 0 := by omega
  have hor : bits .or .u64 (hp : Int) (lp : Int) = (u : Int) := by
    have e := or_up (s := s) (p := p) (a := hi) (b := lp) D.pow (by rw [← hlp]; exact D.low) (by
      have := D.ug; have := D.up; have := D.word
      omega)
    rw [hhp] at e
    rw [e, ← hlp, ← hhp, D.up]
  have hy1 : (y : Int) / 4294967296 = (y1 : Int) := by have := D.cut1; omega
  have hd1 : (d : Int) / 4294967296 = (d1 : Int) := by have := D.c1; omega
  have hy0 : bits .and .u64 (y : Int) 4294967295 = (y0 : Int) := by rw [and_low y (by rw [← hy]; exact D.word), ← hy, D.cut0]
  have hd0 : bits .and .u64 (d : Int) 4294967295 = (d0 : Int) := by rw [and_low d (by omega), ← hd, D.c0]
  have hy1z : ((y1 : Int) == 0) = false := by rw [beq_eq_false_iff_ne]; have := D.y1l; omega
  have hyD : y = S * p := hy.symm
  have hy0' := D.cut
  rw [hy] at hy0'
  have hug := D.ug
  rw [hy] at hug
  have hy1l := D.y1l
  have hy1g := D.y1g
  have hy0g := D.y0g
  have hd1g := D.d1g
  have hd0g := D.d0g
  have hyp : 0 < y := by omega
  have hyw : y < 18446744073709551616 := by have := D.word; omega
  obtain ⟨Q1, hQ1⟩ : ∃ Q1, (u * 4294967296 + d1) / y = Q1 := ⟨_, rfl⟩
  obtain ⟨R1, hR1⟩ : ∃ R1, (u * 4294967296 + d1) % y = R1 := ⟨_, rfl⟩
  obtain ⟨Q0, hQ0⟩ : ∃ Q0, (R1 * 4294967296 + d0) / y = Q0 := ⟨_, rfl⟩
  obtain ⟨R0, hR0⟩ : ∃ R0, (R1 * 4294967296 + d0) % y = R0 := ⟨_, rfl⟩
  have hquo := D.quo
  have hrem := D.rem
  rw [hy, hQ1, hR1, hQ0] at hquo
  rw [hy, hR1, hR0] at hrem
  have hR1l : R1 < y := by rw [← hR1]; exact Nat.mod_lt _ hyp
  have hR0l : R0 < y := by rw [← hR0]; exact Nat.mod_lt _ hyp
  have hQ1l : Q1 < 4294967296 := by rw [← hQ1]; exact KnuthP.small hug hd1g
  have hQ0l : Q0 < 4294967296 := by rw [← hQ0]; exact KnuthP.small hR1l hd0g
  have hA1 := Nat.div_add_mod (u * 4294967296 + d1) y
  rw [hQ1, hR1, Nat.mul_comm] at hA1
  have hA0 := Nat.div_add_mod (R1 * 4294967296 + d0) y
  rw [hQ0, hR0, Nat.mul_comm] at hA0
  have hG1 := KnuthP.Gs.start hy0' hy1l hy1g hy0g hug hd1g
  have hG0 := KnuthP.Gs.start hy0' hy1l hy1g hy0g hR1l hd0g
  rw [hQ1] at hG1
  rw [hQ0] at hG0
  have HG1 := Lib.hid hG1
  have HG0 := Lib.hid hG0
  have HY0 := Lib.hid hy0'
  have HQ1 := Lib.hid hQ1
  have HQ0 := Lib.hid hQ0
  obtain ⟨a1, a2, a3, q1, r1, m1, ca1, ca2, ca3, ca4, ⟨ca5, cq1⟩, ca6, ca7, cr1⟩ := digit_facts (y1 := y1) hA1 hR1l hyw (by omega) (by omega) (by omega)
  obtain ⟨b1_, b2_, b3_, q0, r0, m0, cb1, cb2, cb3, cb4, ⟨cb5, cq0⟩, cb6, cb7, cr0⟩ := digit_facts (y1 := y1) hA0 hR0l hyw (by omega) (by omega) (by omega)
  rw [← cq1, ← cr1] at HG1
  rw [← cq0, ← cr0] at HG0
  obtain ⟨e1, he1⟩ : ∃ e1, (hi * 18446744073709551616 + lo) / S = e1 := ⟨_, rfl⟩
  obtain ⟨e2, he2⟩ : ∃ e2, (hi * 18446744073709551616 + lo) % S = e2 := ⟨_, rfl⟩
  rw [he1] at hquo
  rw [he2] at hrem
  obtain ⟨f1, hf1⟩ : ∃ f1, Q1 * 4294967296 = f1 := ⟨_, rfl⟩
  have k1 : IntKind.u64.wrap ((Q1 : Int) * 4294967296) = (f1 : Int) := by rw [IntKind.wrap_u64]; omega
  have k2 : IntKind.u64.wrap ((f1 : Int) + (Q0 : Int)) = (e1 : Int) := by rw [IntKind.wrap_u64]; omega
  have k3 : (R0 : Int) / 2 ^ s = (e2 : Int) := by rw [P2, ← hrem]; omega
  rw [he1, he2]
  clear hs63 D hy hd hhp hlp ht P2 P3 hyD hy0' hquo hrem hA1 hA0 hG1 hG0 cq1 cr1 cq0 cr0 he1 he2 hf1 hQ1 hR1 hQ0 hR0 HD
  -- the walk
  go_enter Try.func29, Try.ntmps29
  go_wp2_with fail
  refine (HZ.out _).mono ?_
  rintro e w1 ⟨rfl, rfl⟩
  go_upto_block 0 with fail
  go_cut [15] (fun s15 wx => s15 = .int .u64 (Q1 : Int) ∧ w = wx)
  case first =>
    go_wp2_with fail
    go_loopw [15, 16] (fun qv rv wr => ∃ q r : Nat, qv = .int .u64 (q : Int) ∧ rv = .int .u64 (r : Int) ∧ KnuthP.Gs y y1 u d1 ((u * 4294967296 + d1) / y) q r ∧ w = wr) (fun qv _ _ => (intOf qv).toNat)
    case atStart => exact ⟨_, _, rfl, rfl, by rw [HQ1.out]; exact HG1.out, rfl⟩
    case round =>
      obtain ⟨q, r, rfl, rfl, hg, rfl⟩ := hrel
      by_cases ht : 4294967296 ≤ q
      · have hti : (4294967296 : Int) ≤ (q : Int) := by omega
        have hle := hg.le
        have hgt := hg.gt HY0.out hyp hug hd1g (.inl ht)
        have hq1 : 0 < q := Nat.lt_of_le_of_lt (Nat.zero_le _) hgt
        obtain ⟨q', hq'⟩ : ∃ q', q - 1 = q' := ⟨_, rfl⟩
        have sq : (q : Int) - 1 = (q' : Int) := by omega
        have wq : IntKind.u64.wrap (q' : Int) = (q' : Int) := by rw [IntKind.wrap_u64]; omega
        obtain ⟨r', hr'⟩ : ∃ r', r + y1 = r' := ⟨_, rfl⟩
        have hrl := hg.lt
        have sr : IntKind.u64.wrap ((r : Int) + (y1 : Int)) = (r' : Int) := by rw [IntKind.wrap_u64]; omega
        by_cases hb : r' < 4294967296
        · have hbi : ¬ (4294967296 : Int) ≤ (r' : Int) := by omega
          have HN := Lib.hid (hg.next HY0.out hyp hug hd1g (.inl ht) (by omega))
          rw [hq', hr'] at HN
          have HQQ : Hid (q' < q) := Lib.hid (by omega)
          clear hg hq' hr' hgt
          go_wp2_with fail
          go_roundw
          case rel => exact ⟨q', r', rfl, rfl, HN.out, trivial⟩
          case measure => have := HQQ.out; simp [intOf]; omega
        · have hbi : (4294967296 : Int) ≤ (r' : Int) := by omega
          have he := hg.fin HY0.out hyp hy0g hug hd1g (.inl ht) (by omega)
          rw [HQ1.out, hq'] at he
          subst he
          clear hg hq' hr' hgt
          go_wp2_with fail
          go_meet
          exact ⟨rfl, rfl⟩
      · have hti : ¬ (4294967296 : Int) ≤ (q : Int) := by omega
        obtain ⟨ga, gb, gc, ge1, ge2, ge3, ge4, ge5⟩ := guess_facts (q := q) (r := r) (y0 := y0) (d := d1) (by omega) hg.lt hy0g hd1g
        by_cases ht2 : gc < ga
        · have ht2i : (gc : Int) < (ga : Int) := by omega
          rw [ge2, ge5] at ht2
          clear ge2 ge5
          have hle := hg.le
          have hgt := hg.gt HY0.out hyp hug hd1g (.inr ht2)
          have hq1 : 0 < q := Nat.lt_of_le_of_lt (Nat.zero_le _) hgt
          obtain ⟨q', hq'⟩ : ∃ q', q - 1 = q' := ⟨_, rfl⟩
          have sq : (q : Int) - 1 = (q' : Int) := by omega
          have wq : IntKind.u64.wrap (q' : Int) = (q' : Int) := by rw [IntKind.wrap_u64]; omega
          obtain ⟨r', hr'⟩ : ∃ r', r + y1 = r' := ⟨_, rfl⟩
          have hrl := hg.lt
          have sr : IntKind.u64.wrap ((r : Int) + (y1 : Int)) = (r' : Int) := by rw [IntKind.wrap_u64]; omega
          by_cases hb : r' < 4294967296
          · have hbi : ¬ (4294967296 : Int) ≤ (r' : Int) := by omega
            have HN := Lib.hid (hg.next HY0.out hyp hug hd1g (.inr ht2) (by omega))
            rw [hq', hr'] at HN
            have HQQ : Hid (q' < q) := Lib.hid (by omega)
            clear hg hq' hr' hgt
            go_wp2_with fail
            go_roundw
            case rel => exact ⟨q', r', rfl, rfl, HN.out, trivial⟩
            case measure => have := HQQ.out; simp [intOf]; omega
          · have hbi : (4294967296 : Int) ≤ (r' : Int) := by omega
            have he := hg.fin HY0.out hyp hy0g hug hd1g (.inr ht2) (by omega)
            rw [HQ1.out, hq'] at he
            subst he
            clear hg hq' hr' hgt
            go_wp2_with fail
            go_meet
            exact ⟨rfl, rfl⟩
        · have ht2i : ¬ (gc : Int) < (ga : Int) := by omega
          have he := hg.stop HY0.out hyp (by omega)
          rw [HQ1.out] at he
          subst he
          clear hg ge2 ge5
          go_wp2_with fail
          go_meet
          exact ⟨rfl, rfl⟩
  case rest =>
  obtain ⟨rfl, rfl⟩ := hcut
  go_upto_block 2 with fail
  go_cut [18] (fun s18 wx => s18 = .int .u64 (Q0 : Int) ∧ w = wx)
  case first =>
    go_wp2_with fail
    go_loopw [18, 16] (fun qv rv wr => ∃ q r : Nat, qv = .int .u64 (q : Int) ∧ rv = .int .u64 (r : Int) ∧ KnuthP.Gs y y1 R1 d0 ((R1 * 4294967296 + d0) / y) q r ∧ w = wr) (fun qv _ _ => (intOf qv).toNat)
    case atStart => exact ⟨_, _, rfl, rfl, by rw [HQ0.out]; exact HG0.out, rfl⟩
    case round =>
      obtain ⟨q, r, rfl, rfl, hg, rfl⟩ := hrel
      by_cases ht : 4294967296 ≤ q
      · have hti : (4294967296 : Int) ≤ (q : Int) := by omega
        have hle := hg.le
        have hgt := hg.gt HY0.out hyp hR1l hd0g (.inl ht)
        have hq1 : 0 < q := Nat.lt_of_le_of_lt (Nat.zero_le _) hgt
        obtain ⟨q', hq'⟩ : ∃ q', q - 1 = q' := ⟨_, rfl⟩
        have sq : (q : Int) - 1 = (q' : Int) := by omega
        have wq : IntKind.u64.wrap (q' : Int) = (q' : Int) := by rw [IntKind.wrap_u64]; omega
        obtain ⟨r', hr'⟩ : ∃ r', r + y1 = r' := ⟨_, rfl⟩
        have hrl := hg.lt
        have sr : IntKind.u64.wrap ((r : Int) + (y1 : Int)) = (r' : Int) := by rw [IntKind.wrap_u64]; omega
        by_cases hb : r' < 4294967296
        · have hbi : ¬ (4294967296 : Int) ≤ (r' : Int) := by omega
          have HN := Lib.hid (hg.next HY0.out hyp hR1l hd0g (.inl ht) (by omega))
          rw [hq', hr'] at HN
          have HQQ : Hid (q' < q) := Lib.hid (by omega)
          clear hg hq' hr' hgt
          go_wp2_with fail
          go_roundw
          case rel => exact ⟨q', r', rfl, rfl, HN.out, trivial⟩
          case measure => have := HQQ.out; simp [intOf]; omega
        · have hbi : (4294967296 : Int) ≤ (r' : Int) := by omega
          have he := hg.fin HY0.out hyp hy0g hR1l hd0g (.inl ht) (by omega)
          rw [HQ0.out, hq'] at he
          subst he
          clear hg hq' hr' hgt
          go_wp2_with fail
          go_meet
          exact ⟨rfl, rfl⟩
      · have hti : ¬ (4294967296 : Int) ≤ (q : Int) := by omega
        obtain ⟨ga, gb, gc, ge1, ge2, ge3, ge4, ge5⟩ := guess_facts (q := q) (r := r) (y0 := y0) (d := d0) (by omega) hg.lt hy0g hd0g
        by_cases ht2 : gc < ga
        · have ht2i : (gc : Int) < (ga : Int) := by omega
          rw [ge2, ge5] at ht2
          clear ge2 ge5
          have hle := hg.le
          have hgt := hg.gt HY0.out hyp hR1l hd0g (.inr ht2)
          have hq1 : 0 < q := Nat.lt_of_le_of_lt (Nat.zero_le _) hgt
          obtain ⟨q', hq'⟩ : ∃ q', q - 1 = q' := ⟨_, rfl⟩
          have sq : (q : Int) - 1 = (q' : Int) := by omega
          have wq : IntKind.u64.wrap (q' : Int) = (q' : Int) := by rw [IntKind.wrap_u64]; omega
          obtain ⟨r', hr'⟩ : ∃ r', r + y1 = r' := ⟨_, rfl⟩
          have hrl := hg.lt
          have sr : IntKind.u64.wrap ((r : Int) + (y1 : Int)) = (r' : Int) := by rw [IntKind.wrap_u64]; omega
          by_cases hb : r' < 4294967296
          · have hbi : ¬ (4294967296 : Int) ≤ (r' : Int) := by omega
            have HN := Lib.hid (hg.next HY0.out hyp hR1l hd0g (.inr ht2) (by omega))
            rw [hq', hr'] at HN
            have HQQ : Hid (q' < q) := Lib.hid (by omega)
            clear hg hq' hr' hgt
            go_wp2_with fail
            go_roundw
            case rel => exact ⟨q', r', rfl, rfl, HN.out, trivial⟩
            case measure => have := HQQ.out; simp [intOf]; omega
          · have hbi : (4294967296 : Int) ≤ (r' : Int) := by omega
            have he := hg.fin HY0.out hyp hy0g hR1l hd0g (.inr ht2) (by omega)
            rw [HQ0.out, hq'] at he
            subst he
            clear hg hq' hr' hgt
            go_wp2_with fail
            go_meet
            exact ⟨rfl, rfl⟩
        · have ht2i : ¬ (gc : Int) < (ga : Int) := by omega
          have he := hg.stop HY0.out hyp (by omega)
          rw [HQ0.out] at he
          subst he
          clear hg ge2 ge5
          go_wp2_with fail
          go_meet
          exact ⟨rfl, rfl⟩
  case rest =>
  obtain ⟨rfl, rfl⟩ := hcut
  go_wp2_with fail
  go_ret2
  exact ⟨rfl, Below.refl _ _⟩
end Go.Proofs.Ytochhjdjfgiaeaa
