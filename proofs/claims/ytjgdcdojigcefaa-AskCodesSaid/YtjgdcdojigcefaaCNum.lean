/- The contract of cells.Num: the cell of any number, in new memory. -/
import Derived.Test.YtjgdcdojigcefaaRows
import Derived.Test.YtjgdcdojigcefaaMem3
import Derived.Test.YtjgdcdojigcefaaDig
import Derived.Test.YtjgdcdojigcefaaShelf
namespace Go.Proofs.Ytjgdcdojigcefaa
open Go.RowKit

/-- Bytes as cells. -/
def u8v (b : Nat) : Value := .int .u8 b
/-- A slice value that reads as bytes. -/
def Bs (w : World) (v : Value) (bs : List Nat) : Prop := ∃ A c, v = .slice A bs.length c ∧ bs.length ≤ c ∧ c ≤ maxLen ∧ Rd w 1 A bs.length (bs.map u8v)
/-- A call that hands back bytes and leaves all that was there as it was. -/
def RetB (bs : List Nat) (w : World) (e : Ending) (w' : World) : Prop := ∃ v, e = .returned v ∧ Bs w' v bs ∧ Below w.heap.size w w'
theorem Bs.below {w w' : World} {v : Value} {bs : List Nat} (h : Bs w v bs) (hb : Below w.heap.size w w') : Bs w' v bs := by
  obtain ⟨A, c, h1, h2, h3, h4⟩ := h
  exact ⟨A, c, h1, h2, h3, h4.below hb⟩
theorem Bs.of_own {w : World} {B e : Nat} {v : Value} {bs : List Nat} (h : w.ownsRow B e 1 v bs.length (bs.map u8v)) : Bs w v bs := by
  obtain ⟨A, c, h1, h2, h3, h4, _⟩ := own_slice h
  exact ⟨A, c, h1, h2, h3, h4⟩
theorem own_one (w : World) (e : TypeId) (v : Value) (B : Nat) (hB : B ≤ w.heap.size) : (w.alloc (.cells #[v] e)).ownsRow B e 1 (.slice (some ⟨w.heap.size, 0, none⟩) 1 1) 1 [v] :=
  ⟨rfl, .inr ⟨w.heap.size, 1, #[v], rfl, hB, block_new _ _, Nat.le_refl _, by unfold maxLen; omega, rfl, rfl⟩⟩
theorem Try.infoByte : (Try.prog.info? 5).map (fun i => (i.zero, i.size, i.bytes)) = some (some (.int .u8 0), 1, 1) := by kernel_rfl

theorem own_byte (w : World) (n : Int) (k : Nat) (h : n = k) : (w.alloc (.cells #[.int .u8 n] 5)).ownsRow w.heap.size 5 1 (.slice (some ⟨w.heap.size, 0, none⟩) 1 1) 1 ([k].map u8v) := by
  subst h
  exact own_one w _ _ _ (Nat.le_refl _)

set_option maxRecDepth 100000 in
set_option maxHeartbeats 400000 in
theorem num_small (n : Int) (w : World) (h0 : 0 ≤ n) (h1 : n < 128) : Calls Try.prog 53 #[.int .i64 n] w (RetB (numB n) w) := by
  have hn : numB n = [n.toNat] := by unfold numB; rw [if_pos ⟨h0, h1⟩]
  have HN := Lib.hid hn
  clear hn
  go_enter Try.func53, Try.ntmps53
  go_wp2
  go_ret
  refine ⟨_, rfl, ?_, (Below.refl _ _).alloc (Nat.le_refl _) _⟩
  rw [HN.out]
  exact Bs.of_own (bs := [n.toNat]) (own_byte w n n.toNat (by omega))

set_option maxHeartbeats 400000 in
theorem clip_any (A : Option Addr) (n c : Nat) (w : World) (hnc : n ≤ c) :
    Calls Try.prog 69 #[.slice A n c] w fun e w' => e = .returned (.slice A n n) ∧ w = w' := by
  go_enter Try.func69, Try.ntmps69
  go_wp2
  go_ret
  exact ⟨rfl, rfl⟩

theorem not_u64 (n : Int) (h0 : n < 0) (h1 : -9223372036854775808 ≤ n) : bits .xor .u64 IntKind.u64.max (IntKind.u64.wrap n) = -1 - n := by
  have e1 : IntKind.u64.wrap n = n + 18446744073709551616 := by
    simp only [IntKind.wrap, IntKind.bits, IntKind.signed]
    simp
    omega
  have e2 : IntKind.u64.max = 18446744073709551615 := by rfl
  rw [e1, e2]
  show IntKind.u64.wrap (((BitVec.ofInt 64 18446744073709551615) ^^^ (BitVec.ofInt 64 (n + 18446744073709551616))).toNat : Int) = -1 - n
  have e3 : BitVec.ofInt 64 18446744073709551615 = BitVec.allOnes 64 := by rfl
  have e4 : (BitVec.allOnes 64 ^^^ BitVec.ofInt 64 (n + 18446744073709551616)).toNat = (-1 - n).toNat := by
    rw [BitVec.allOnes_xor, BitVec.toNat_not, BitVec.toNat_ofInt]
    omega
  rw [e3, e4]
  simp only [IntKind.wrap, IntKind.bits, IntKind.signed]
  simp
  omega

/-- What holds between two rounds of Num: k digits are written. -/
def NumRel (w : World) (H u d : Nat) (o i : Value) (wr : World) : Prop := ∃ k, k ≤ d ∧ i = .int .i64 ((d : Int) - 1 - k) ∧
  wr.ownsRow w.heap.size 5 1 o (1 + k) ((H :: digTo u k).map u8v) ∧ Below w.heap.size w wr

theorem Bs.clip {w : World} {A : Option Addr} {n c : Nat} {bs : List Nat} (h : Bs w (.slice A n c) bs) : Bs w (.slice A n n) bs := by
  obtain ⟨A', c', h1, h2, h3, h4⟩ := h
  injection h1 with e1 e2 e3
  subst e1; subst e2; subst e3
  exact ⟨A, _, rfl, Nat.le_refl _, Nat.le_trans h2 h3, h4⟩

set_option maxRecDepth 100000 in
set_option maxHeartbeats 2000000 in
theorem num_pos (n : Int) (w : World) (h0 : 128 ≤ n) (h1 : n ≤ 9223372036854775807) : Calls Try.prog 53 #[.int .i64 n] w (RetB (numB n) w) := by
  obtain ⟨i0, hi0, hz0, hz1, hz2⟩ := info_parts Try.infoByte
  have hnum : numB n = (128 + (dig (n).toNat).length) :: dig (n).toNat := by
    unfold numB
    rw [if_neg (by omega), if_pos (by omega)]
  have HNum := Lib.hid hnum
  clear hnum
  go_enter Try.func53, Try.ntmps53
  go_wp2_with fail
  refine (Try.bits_Len64 (n) w (by omega) (by omega)).mono ?_
  rintro e w' ⟨rfl, rfl⟩
  obtain ⟨u, hu⟩ : ∃ u : Nat, (n).toNat = u := ⟨_, rfl⟩
  have huz : n = (u : Int) := by omega
  rw [hu] at HNum
  rw [hu]
  obtain ⟨b, hb⟩ : ∃ b : Nat, Lib.bitLen u = b := ⟨_, rfl⟩
  have hu64 : u < 18446744073709551616 := by omega
  have hd : (b + 7) / 8 = (dig u).length := by rw [← hb]; exact dig_length u hu64
  have hd8 := dig_le u
  have hd1 : 0 ≤ (dig u).length := Nat.zero_le _
  rw [hb]
  obtain ⟨d, hdd⟩ : ∃ d, (dig u).length = d := ⟨_, rfl⟩
  rw [hdd] at hd hd8 HNum
  have hbb : b ≤ 64 := by omega
  have e5 : ((b : Int) + 8 - 1) / 8 = d := by omega
  have HB := Lib.hid hb
  have HD := Lib.hid hdd
  have HU := Lib.hid hu64
  clear hb hdd hu64 hd1
  go_wp2_with fail
  simp only [e5]
  try simp only [huz]
  clear e5 hd hbb HB huz hu h0 h1
  have i1 := own_byte w' (128 + d) (128 + d) (by omega)
  have b1 := (Below.refl w'.heap.size w').alloc (Nat.le_refl _) (.cells #[.int .u8 (128 + d)] 5)
  have I1 := Lib.hid i1
  clear i1
  go_loopw [6, 7] (fun o i wr => NumRel w' (128 + d) u d o i wr) (fun _ i _ => (intOf i + 1).toNat)
  case atStart => exact ⟨0, Nat.zero_le _, by go_num, I1.out, b1⟩
  case round =>
    obtain ⟨k, hk, rfl, ho, hb⟩ := hrel
    have HO := Lib.hid ho
    clear I1 b1 ho
    by_cases hlt : k < d
    · have hval : (u : Int) / 2 ^ (8 * (d - 1 - k)) % 256 = ((u / 256 ^ (d - 1 - k) % 256 : Nat) : Int) := by
        have e : (2 : Int) ^ (8 * (d - 1 - k)) = ((256 ^ (d - 1 - k) : Nat) : Int) := by
          rw [show (256 : Nat) = 2 ^ 8 from rfl, ← Nat.pow_mul]
          simp
        rw [e]
        rfl
      have HV := Lib.hid hval
      clear hval
      go_wp2_with (at_builtin
                   refine wpList_append_own _ rfl (.tmp 39) (.tmp 45) 26 rfl w'.heap.size 5 i0 (.int .u8 0) 1 1 Try.underlying26 hi0 hz0 hz1 hz2 rfl (by decide) u6 (1 + k) _ rfl (HO.out.alloc _) ⟨wr.heap.size, 0, none⟩ 1 1 _ rfl rfl (cell_one_new _ _ _) (by simp [Value.oneCell']) (by unfold maxLen; omega) (by omega) (by have := hb.size; simp; omega) ?_
                   intro v5 w5 hown5 hgrow5 _
                   have HO5 := Lib.hid hown5
                   have HG5 := Lib.hid hgrow5
                   clear hown5 hgrow5)
      go_roundw
      case rel =>
        have f5 : Fr w'.heap.size [5] [] wr w5 := ((Fr.refl wr).alloc _).grown HG5.out (fun j hj => by
          obtain ⟨hb, cs, hc⟩ := own_block (HO.out.alloc _) hj
          exact ⟨hb, .inr ⟨cs, _, _, hc, by simp⟩⟩)
        refine ⟨k + 1, hlt, by go_num, ?_, hb.trans (f5.below hb.size)⟩
        have ho5 := HO5.out
        rw [HV.out] at ho5
        have e := digTo_succ u k HU.out (by rw [HD.out]; exact hlt)
        rw [HD.out] at e
        rw [e, show 1 + (k + 1) = 1 + k + 1 by omega, ← List.cons_append, List.map_append]
        exact ho5
      case measure => simp [intOf]; omega
    · obtain rfl : k = d := by omega
      obtain ⟨g, c, rfl⟩ := own_pos HO.out (by omega)
      have hbs := Bs.of_own (bs := (128 + k) :: digTo u k) (by
        have := HO.out
        have hl : ((128 + k) :: digTo u k).length = 1 + k := by
          have := this.1
          simpa using this
        rw [hl]
        exact this)
      have hcap : 1 + k ≤ c := by
        obtain ⟨A', c', h1, h2, _⟩ := hbs
        injection h1 with e1 e2 e3
        omega
      have HBs := Lib.hid hbs
      clear hbs
      go_wp2_with fail
      refine (clip_any (some ⟨g, 0, none⟩) (1 + k) c wr hcap).mono ?_
      rintro e w5 ⟨rfl, rfl⟩
      go_wp2
      go_ret
      refine ⟨_, rfl, ?_, hb⟩
      have hk8 : digTo u k = dig u := by unfold digTo; rw [List.take_of_length_le (by rw [HD.out]; exact Nat.le_refl _)]
      rw [HNum.out, ← hk8]
      exact HBs.out.clip

set_option maxRecDepth 100000 in
set_option maxHeartbeats 2000000 in
theorem num_neg (n : Int) (w : World) (h0 : n < 0) (h1 : -9223372036854775808 ≤ n) : Calls Try.prog 53 #[.int .i64 n] w (RetB (numB n) w) := by
  obtain ⟨i0, hi0, hz0, hz1, hz2⟩ := info_parts Try.infoByte
  have hnum : numB n = (144 + (dig ((-1 - n)).toNat).length) :: dig ((-1 - n)).toNat := by
    unfold numB
    rw [if_neg (by omega), if_neg (by omega)]
  have HNum := Lib.hid hnum
  clear hnum
  go_enter Try.func53, Try.ntmps53
  have d0 : decide (n < 0) = true := by simpa using h0
  have d1 : decide (0 ≤ n) = false := by simp; omega
  have H0 := Lib.hid h0
  have H1 := Lib.hid h1
  clear h0 h1
  go_wp2_with fail
  have h0 := H0.out
  have h1 := H1.out
  rw [not_u64 n h0 h1]
  clear H0 H1
  refine (Try.bits_Len64 ((-1 - n)) w (by omega) (by omega)).mono ?_
  rintro e w' ⟨rfl, rfl⟩
  obtain ⟨u, hu⟩ : ∃ u : Nat, ((-1 - n)).toNat = u := ⟨_, rfl⟩
  have huz : (-1 - n) = (u : Int) := by omega
  rw [hu] at HNum
  rw [hu]
  obtain ⟨b, hb⟩ : ∃ b : Nat, Lib.bitLen u = b := ⟨_, rfl⟩
  have hu64 : u < 18446744073709551616 := by omega
  have hd : (b + 7) / 8 = (dig u).length := by rw [← hb]; exact dig_length u hu64
  have hd8 := dig_le u
  have hd1 : 0 ≤ (dig u).length := Nat.zero_le _
  rw [hb]
  obtain ⟨d, hdd⟩ : ∃ d, (dig u).length = d := ⟨_, rfl⟩
  rw [hdd] at hd hd8 HNum
  have hbb : b ≤ 64 := by omega
  have e5 : ((b : Int) + 8 - 1) / 8 = d := by omega
  have HB := Lib.hid hb
  have HD := Lib.hid hdd
  have HU := Lib.hid hu64
  clear hb hdd hu64 hd1
  go_wp2_with fail
  simp only [e5]
  try simp only [huz]
  clear e5 hd hbb HB huz hu h0 h1
  have i1 := own_byte w' (144 + d) (144 + d) (by omega)
  have b1 := (Below.refl w'.heap.size w').alloc (Nat.le_refl _) (.cells #[.int .u8 (144 + d)] 5)
  have I1 := Lib.hid i1
  clear i1
  go_loopw [6, 7] (fun o i wr => NumRel w' (144 + d) u d o i wr) (fun _ i _ => (intOf i + 1).toNat)
  case atStart => exact ⟨0, Nat.zero_le _, by go_num, I1.out, b1⟩
  case round =>
    obtain ⟨k, hk, rfl, ho, hb⟩ := hrel
    have HO := Lib.hid ho
    clear I1 b1 ho
    by_cases hlt : k < d
    · have hval : (u : Int) / 2 ^ (8 * (d - 1 - k)) % 256 = ((u / 256 ^ (d - 1 - k) % 256 : Nat) : Int) := by
        have e : (2 : Int) ^ (8 * (d - 1 - k)) = ((256 ^ (d - 1 - k) : Nat) : Int) := by
          rw [show (256 : Nat) = 2 ^ 8 from rfl, ← Nat.pow_mul]
          simp
        rw [e]
        rfl
      have HV := Lib.hid hval
      clear hval
      go_wp2_with (at_builtin
                   refine wpList_append_own _ rfl (.tmp 39) (.tmp 45) 26 rfl w'.heap.size 5 i0 (.int .u8 0) 1 1 Try.underlying26 hi0 hz0 hz1 hz2 rfl (by decide) u6 (1 + k) _ rfl (HO.out.alloc _) ⟨wr.heap.size, 0, none⟩ 1 1 _ rfl rfl (cell_one_new _ _ _) (by simp [Value.oneCell']) (by unfold maxLen; omega) (by omega) (by have := hb.size; simp; omega) ?_
                   intro v5 w5 hown5 hgrow5 _
                   have HO5 := Lib.hid hown5
                   have HG5 := Lib.hid hgrow5
                   clear hown5 hgrow5)
      go_roundw
      case rel =>
        have f5 : Fr w'.heap.size [5] [] wr w5 := ((Fr.refl wr).alloc _).grown HG5.out (fun j hj => by
          obtain ⟨hb, cs, hc⟩ := own_block (HO.out.alloc _) hj
          exact ⟨hb, .inr ⟨cs, _, _, hc, by simp⟩⟩)
        refine ⟨k + 1, hlt, by go_num, ?_, hb.trans (f5.below hb.size)⟩
        have ho5 := HO5.out
        rw [HV.out] at ho5
        have e := digTo_succ u k HU.out (by rw [HD.out]; exact hlt)
        rw [HD.out] at e
        rw [e, show 1 + (k + 1) = 1 + k + 1 by omega, ← List.cons_append, List.map_append]
        exact ho5
      case measure => simp [intOf]; omega
    · obtain rfl : k = d := by omega
      obtain ⟨g, c, rfl⟩ := own_pos HO.out (by omega)
      have hbs := Bs.of_own (bs := (144 + k) :: digTo u k) (by
        have := HO.out
        have hl : ((144 + k) :: digTo u k).length = 1 + k := by
          have := this.1
          simpa using this
        rw [hl]
        exact this)
      have hcap : 1 + k ≤ c := by
        obtain ⟨A', c', h1, h2, _⟩ := hbs
        injection h1 with e1 e2 e3
        omega
      have HBs := Lib.hid hbs
      clear hbs
      go_wp2_with fail
      refine (clip_any (some ⟨g, 0, none⟩) (1 + k) c wr hcap).mono ?_
      rintro e w5 ⟨rfl, rfl⟩
      go_wp2
      go_ret
      refine ⟨_, rfl, ?_, hb⟩
      have hk8 : digTo u k = dig u := by unfold digTo; rw [List.take_of_length_le (by rw [HD.out]; exact Nat.le_refl _)]
      rw [HNum.out, ← hk8]
      exact HBs.out.clip

theorem num_any (n : Int) (w : World) (h : I64 n) : Calls Try.prog 53 #[.int .i64 n] w (RetB (numB n) w) := by
  by_cases h0 : n < 0
  · exact num_neg n w h0 h.1
  · by_cases h1 : n < 128
    · exact num_small n w (by omega) h1
    · exact num_pos n w (by omega) h.2

end Go.Proofs.Ytjgdcdojigcefaa
