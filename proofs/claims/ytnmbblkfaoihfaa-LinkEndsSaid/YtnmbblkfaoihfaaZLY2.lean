/- Joined: Plain facts on numbers as bytes: the digits of a number, the cell of a number, the first number of bytes. No program is named here. math/bits.Len64 of the library at this translation, by the kit's shelf in its plain mode: for every 64-bit number. The contract of cells.Num: the cell of any number, in new memory. Plain facts: the number with whose cell bytes begin. No program is named here. Plain facts on makers and takers of cells: what each call makes of the bytes. No program is named here. -/
import Derived.Lib.BitFns
import Derived.Shelf.Strconv.Itoa0
import Derived.Test.YtnmbblkfaoihfaaProg
import Derived.Test.YtnmbblkfaoihfaaRows
import Derived.Test.YtnmbblkfaoihfaaZLY1
namespace Go.Proofs.Ytnmbblkfaoihfaa

/-- The digits of a number to the base 256, the highest first, without noughts ahead (at most f of them). -/
def digF : Nat → Nat → List Nat
  | 0, _ => []
  | f + 1, u => if u = 0 then [] else digF f (u / 256) ++ [u % 256]
def dig (u : Nat) : List Nat := digF 8 u

theorem digF_zero (f : Nat) : digF f 0 = [] := by cases f <;> simp [digF]
theorem digF_length (f u : Nat) (h : u < 256 ^ f) : (Lib.bitLenAux (8 * f) u + 7) / 8 = (digF f u).length := by
  induction f generalizing u with
  | zero => simp [digF, Lib.bitLenAux]
  | succ f ih =>
    by_cases h0 : u = 0
    · subst h0
      rw [digF_zero]
      have : 8 * (f + 1) = (8 * f + 7) + 1 := by omega
      rw [this]
      simp [Lib.bitLenAux]
    · have hq : u / 256 < 256 ^ f := by
        rw [Nat.div_lt_iff_lt_mul (by omega), ← Nat.pow_succ]
        exact h
      have h1 := ih (u / 256) hq
      rw [digF, if_neg h0, List.length_append, ← h1]
      -- eight halvings, or fewer where nothing is left
      have e8 : 8 * (f + 1) = 8 * f + 1 + 1 + 1 + 1 + 1 + 1 + 1 + 1 := by omega
      rw [e8]
      have hdiv : u / 2 / 2 / 2 / 2 / 2 / 2 / 2 / 2 = u / 256 := by omega
      simp only [Lib.bitLenAux, hdiv, List.length_singleton]
      by_cases c1 : u / 2 = 0
      · have : u / 256 = 0 := by omega
        rw [this]
        have hz : ∀ g, Lib.bitLenAux g 0 = 0 := fun g => by cases g <;> simp [Lib.bitLenAux]
        simp [h0, c1, hz]
      · by_cases c2 : u / 2 / 2 = 0
        · have : u / 256 = 0 := by omega
          rw [this]
          have hz : ∀ g, Lib.bitLenAux g 0 = 0 := fun g => by cases g <;> simp [Lib.bitLenAux]
          simp [h0, c1, c2, hz]
        · by_cases c3 : u / 2 / 2 / 2 = 0
          · have : u / 256 = 0 := by omega
            rw [this]
            have hz : ∀ g, Lib.bitLenAux g 0 = 0 := fun g => by cases g <;> simp [Lib.bitLenAux]
            simp [h0, c1, c2, c3, hz]
          · by_cases c4 : u / 2 / 2 / 2 / 2 = 0
            · have : u / 256 = 0 := by omega
              rw [this]
              have hz : ∀ g, Lib.bitLenAux g 0 = 0 := fun g => by cases g <;> simp [Lib.bitLenAux]
              simp [h0, c1, c2, c3, c4, hz]
            · by_cases c5 : u / 2 / 2 / 2 / 2 / 2 = 0
              · have : u / 256 = 0 := by omega
                rw [this]
                have hz : ∀ g, Lib.bitLenAux g 0 = 0 := fun g => by cases g <;> simp [Lib.bitLenAux]
                simp [h0, c1, c2, c3, c4, c5, hz]
              · by_cases c6 : u / 2 / 2 / 2 / 2 / 2 / 2 = 0
                · have : u / 256 = 0 := by omega
                  rw [this]
                  have hz : ∀ g, Lib.bitLenAux g 0 = 0 := fun g => by cases g <;> simp [Lib.bitLenAux]
                  simp [h0, c1, c2, c3, c4, c5, c6, hz]
                · by_cases c7 : u / 2 / 2 / 2 / 2 / 2 / 2 / 2 = 0
                  · have : u / 256 = 0 := by omega
                    rw [this]
                    have hz : ∀ g, Lib.bitLenAux g 0 = 0 := fun g => by cases g <;> simp [Lib.bitLenAux]
                    simp [h0, c1, c2, c3, c4, c5, c6, c7, hz]
                  · simp only [h0, c1, c2, c3, c4, c5, c6, c7, if_false]
                    omega
theorem dig_length (u : Nat) (h : u < 18446744073709551616) : (Lib.bitLen u + 7) / 8 = (dig u).length := digF_length 8 u (by simpa using h)
theorem digF_le (f u : Nat) : (digF f u).length ≤ f := by
  induction f generalizing u with
  | zero => simp [digF]
  | succ f ih =>
    rw [digF]
    split
    · simp
    · have := ih (u / 256)
      simp
      omega
theorem dig_le (u : Nat) : (dig u).length ≤ 8 := digF_le 8 u
theorem digF_lt (f u : Nat) : ∀ b ∈ digF f u, b < 256 := by
  induction f generalizing u with
  | zero => simp [digF]
  | succ f ih =>
    rw [digF]
    split
    · simp
    · intro b hb
      rcases List.mem_append.1 hb with hb | hb
      · exact ih _ b hb
      · simp at hb; omega
theorem dig_lt (u : Nat) : ∀ b ∈ dig u, b < 256 := digF_lt 8 u
/-- The number that bytes make. -/
def val (l : List Nat) : Nat := l.foldl (fun a b => a * 256 + b) 0
theorem val_snoc (l : List Nat) (b : Nat) : val (l ++ [b]) = val l * 256 + b := by simp [val]
theorem val_digF (f u : Nat) (h : u < 256 ^ f) : val (digF f u) = u := by
  induction f generalizing u with
  | zero => simp at h; subst h; simp [digF, val]
  | succ f ih =>
    rw [digF]
    split
    · subst_vars; simp [val]
    · rw [val_snoc, ih (u / 256) (by rw [Nat.div_lt_iff_lt_mul (by omega), ← Nat.pow_succ]; exact h)]
      omega
theorem val_dig (u : Nat) (h : u < 18446744073709551616) : val (dig u) = u := val_digF 8 u (by simpa using h)
/-- The j-th digit from the end. -/
theorem digF_get (f u : Nat) (h : u < 256 ^ f) (j : Nat) (hj : j < (digF f u).length) : (digF f u)[(digF f u).length - 1 - j]'(by omega) = u / 256 ^ j % 256 := by
  induction f generalizing u j with
  | zero => simp [digF] at hj
  | succ f ih =>
    by_cases h0 : u = 0
    · subst h0; rw [digF_zero] at hj; simp at hj
    · have hq : u / 256 < 256 ^ f := by rw [Nat.div_lt_iff_lt_mul (by omega), ← Nat.pow_succ]; exact h
      have e : digF (f + 1) u = digF f (u / 256) ++ [u % 256] := by rw [digF, if_neg h0]
      have hl : (digF (f + 1) u).length = (digF f (u / 256)).length + 1 := by rw [e]; simp
      cases j with
      | zero =>
        simp only [e, List.length_append, List.length_singleton, Nat.add_sub_cancel, Nat.sub_zero]
        rw [List.getElem_append_right (Nat.le_refl _)]
        simp
      | succ j =>
        have hj' : j < (digF f (u / 256)).length := by omega
        have := ih (u / 256) hq j hj'
        simp only [e, List.length_append, List.length_singleton, Nat.add_sub_cancel]
        rw [List.getElem_append_left (by omega)]
        have e2 : (digF f (u / 256)).length - (j + 1) = (digF f (u / 256)).length - 1 - j := by omega
        simp only [e2]
        rw [this, Nat.pow_succ, Nat.mul_comm, ← Nat.div_div_eq_div_mul]
theorem digF_pos (f u : Nat) (h : u < 256 ^ f) (h0 : 0 < u) : 0 < (digF f u).length := by
  cases f with
  | zero => simp at h; omega
  | succ f => rw [digF, if_neg (by omega)]; simp
/-- The first of the last k digits, with the others behind it: what a loop from the highest digit on has written. -/
def digTo (u k : Nat) : List Nat := (dig u).take k
theorem digTo_succ (u k : Nat) (h : u < 18446744073709551616) (hk : k < (dig u).length) : digTo u (k + 1) = digTo u k ++ [u / 256 ^ ((dig u).length - 1 - k) % 256] := by
  unfold digTo
  rw [List.take_succ_eq_append_getElem hk]
  have := digF_get 8 u (by simpa using h) ((dig u).length - 1 - k) (by unfold dig at hk ⊢; omega)
  congr 2
  unfold dig at hk this ⊢
  rw [← this]
  congr 1
  omega

/-- The cell of a number. -/
def numB (n : Int) : List Nat :=
  if 0 ≤ n ∧ n < 128 then [n.toNat] else if 0 ≤ n then (128 + (dig n.toNat).length) :: dig n.toNat else (144 + (dig (-1 - n).toNat).length) :: dig (-1 - n).toNat
/-- A 64-bit number. -/
def I64 (n : Int) : Prop := -9223372036854775808 ≤ n ∧ n ≤ 9223372036854775807
theorem numB_lt (n : Int) : ∀ b ∈ numB n, b < 256 := by
  unfold numB
  split
  · intro b hb; simp at hb; omega
  · split
    · intro b hb
      rcases List.mem_cons.1 hb with rfl | hb
      · have := dig_le n.toNat; omega
      · exact dig_lt _ b hb
    · intro b hb
      rcases List.mem_cons.1 hb with rfl | hb
      · have := dig_le (-1 - n).toNat; omega
      · exact dig_lt _ b hb
theorem numB_length (n : Int) : 1 ≤ (numB n).length ∧ (numB n).length ≤ 9 := by
  unfold numB
  split
  · simp
  · split
    · have := dig_le n.toNat; simp; omega
    · have := dig_le (-1 - n).toNat; simp; omega
end Go.Proofs.Ytnmbblkfaoihfaa

namespace Go.Proofs
open Go.Shelf
def Try.lays129_ren : Go.Shelf.Ren := ⟨fun | 129 => 71 | n => n, fun | 53 => 124 | 3 => 3 | 4 => 4 | 46 => 126 | 5 => 5 | 9 => 9 | n => n, fun | n => n⟩
theorem Try.lays129 : Go.Proofs.Lays.n129 Try.prog Try.lays129_ren := {
  mixed := by kernel_rfl
  f129 := Try.func71.trans (congrArg some (by kernel_rfl))
  t3 := Try.underlying3
  a3 := Try.isAgg3
  z3 := Try.sizeOf3
  v3 := Try.zeroValue3
  t4 := Try.underlying4
  a4 := Try.isAgg4
  z4 := Try.sizeOf4
  v4 := Try.zeroValue4
  t5 := Try.underlying5
  a5 := Try.isAgg5
  z5 := Try.sizeOf5
  v5 := Try.zeroValue5
  t9 := Try.underlying9
  a9 := Try.isAgg9
  z9 := Try.sizeOf9
  v9 := Try.zeroValue9
  t46 := Try.underlying126
  a46 := Try.isAgg126
  z46 := Try.sizeOf126
  v46 := Try.zeroValue126
  t53 := Try.underlying124
  a53 := Try.isAgg124
  z53 := Try.sizeOf124
  v53 := Try.zeroValue124 }
/-- bits.Len64: "Len64 returns the minimum number of bits required to represent x; the result is 0 for x == 0.": IT RETURNS 'Lib.bitLen x'; the world is as it was. ('h0', 'h1': x is a uint64.) (LAID: no walk: one application.) -/
theorem Try.bits_Len64 (x : Int) (w : World) (h0 : 0 ≤ x) (h1 : x ≤ 18446744073709551615) :
    Calls Try.prog 71 #[.int .u64 x] w fun e w' => e = .returned (.int .i64 (Lib.bitLen x.toNat)) ∧ w' = w := Any.bits_Len64 Try.lays129 x w h0 h1
end Go.Proofs

namespace Go.Proofs.Ytnmbblkfaoihfaa
open Go.RowKit

/-- Bytes as cells. -/
def u8v (b : Nat) : Value := .int .u8 b
/-- A slice value that reads as bytes. -/
def Bs (w : World) (v : Value) (bs : List Nat) : Prop := ∃ A c, v = .slice A bs.length c ∧ bs.length ≤ c ∧ c ≤ maxLen ∧ Rd w 1 A bs.length (bs.map u8v)
/-- A call that hands back bytes and leaves all that was there as it was. -/
def RetB (bs : List Nat) (w : World) (e : Ending) (w' : World) : Prop := ∃ v, e = .returned v ∧ Bs w' v bs ∧ Below w.heap.size w w'
theorem Bs.below {w w' : World} {v : Value} {bs : List Nat} (h : Bs w v bs) (hb : Below w.heap.size w w') : Bs w' v bs := by
  obtain ⟨A, c, h1, h2, h3, h4⟩ := h
  exact ⟨A, c, h1, h2, h3, h4.below hb⟩
theorem Bs.of_own {w : World} {B e : Nat} {v : Value} {bs : List Nat} (h : w.ownsRow B e 1 v bs.length (bs.map u8v)) : Bs w v bs := by
  obtain ⟨A, c, h1, h2, h3, h4, _⟩ := own_slice h
  exact ⟨A, c, h1, h2, h3, h4⟩
theorem own_one (w : World) (e : TypeId) (v : Value) (B : Nat) (hB : B ≤ w.heap.size) : (w.alloc (.cells #[v] e)).ownsRow B e 1 (.slice (some ⟨w.heap.size, 0, none⟩) 1 1) 1 [v] :=
  ⟨rfl, .inr ⟨w.heap.size, 1, #[v], rfl, hB, block_new _ _, Nat.le_refl _, by unfold maxLen; omega, rfl, rfl⟩⟩
theorem Try.infoByte : (Try.prog.info? 5).map (fun i => (i.zero, i.size, i.bytes)) = some (some (.int .u8 0), 1, 1) := by kernel_rfl

theorem own_byte (w : World) (n : Int) (k : Nat) (h : n = k) : (w.alloc (.cells #[.int .u8 n] 5)).ownsRow w.heap.size 5 1 (.slice (some ⟨w.heap.size, 0, none⟩) 1 1) 1 ([k].map u8v) := by
  subst h
  exact own_one w _ _ _ (Nat.le_refl _)

set_option maxRecDepth 100000 in
set_option maxHeartbeats 400000 in
theorem num_small (n : Int) (w : World) (h0 : 0 ≤ n) (h1 : n < 128) : Calls Try.prog 63 #[.int .i64 n] w (RetB (numB n) w) := by
  have hn : numB n = [n.toNat] := by unfold numB; rw [if_pos ⟨h0, h1⟩]
  have HN := Lib.hid hn
  clear hn
  go_enter Try.func63, Try.ntmps63
  go_wp2
  go_ret
  refine ⟨_, rfl, ?_, (Below.refl _ _).alloc (Nat.le_refl _) _⟩
  rw [HN.out]
  exact Bs.of_own (bs := [n.toNat]) (own_byte w n n.toNat (by omega))

set_option maxHeartbeats 400000 in
theorem clip_any (A : Option Addr) (n c : Nat) (w : World) (hnc : n ≤ c) :
    Calls Try.prog 72 #[.slice A n c] w fun e w' => e = .returned (.slice A n n) ∧ w = w' := by
  go_enter Try.func72, Try.ntmps72
  go_wp2
  go_ret
  exact ⟨rfl, rfl⟩

theorem not_u64 (n : Int) (h0 : n < 0) (h1 : -9223372036854775808 ≤ n) : bits .xor .u64 IntKind.u64.max (IntKind.u64.wrap n) = -1 - n := by
  have e1 : IntKind.u64.wrap n = n + 18446744073709551616 := by
    simp only [IntKind.wrap, IntKind.bits, IntKind.signed]
    simp
    omega
  have e2 : IntKind.u64.max = 18446744073709551615 := by rfl
  rw [e1, e2]
  show IntKind.u64.wrap (((BitVec.ofInt 64 18446744073709551615) ^^^ (BitVec.ofInt 64 (n + 18446744073709551616))).toNat : Int) = -1 - n
  have e3 : BitVec.ofInt 64 18446744073709551615 = BitVec.allOnes 64 := by rfl
  have e4 : (BitVec.allOnes 64 ^^^ BitVec.ofInt 64 (n + 18446744073709551616)).toNat = (-1 - n).toNat := by
    rw [BitVec.allOnes_xor, BitVec.toNat_not, BitVec.toNat_ofInt]
    omega
  rw [e3, e4]
  simp only [IntKind.wrap, IntKind.bits, IntKind.signed]
  simp
  omega

/-- What holds between two rounds of Num: k digits are written. -/
def NumRel (w : World) (H u d : Nat) (o i : Value) (wr : World) : Prop := ∃ k, k ≤ d ∧ i = .int .i64 ((d : Int) - 1 - k) ∧
  wr.ownsRow w.heap.size 5 1 o (1 + k) ((H :: digTo u k).map u8v) ∧ Below w.heap.size w wr

theorem Bs.clip {w : World} {A : Option Addr} {n c : Nat} {bs : List Nat} (h : Bs w (.slice A n c) bs) : Bs w (.slice A n n) bs := by
  obtain ⟨A', c', h1, h2, h3, h4⟩ := h
  injection h1 with e1 e2 e3
  subst e1; subst e2; subst e3
  exact ⟨A, _, rfl, Nat.le_refl _, Nat.le_trans h2 h3, h4⟩

set_option maxRecDepth 100000 in
set_option maxHeartbeats 2000000 in
theorem num_pos (n : Int) (w : World) (h0 : 128 ≤ n) (h1 : n ≤ 9223372036854775807) : Calls Try.prog 63 #[.int .i64 n] w (RetB (numB n) w) := by
  obtain ⟨i0, hi0, hz0, hz1, hz2⟩ := info_parts Try.infoByte
  have hnum : numB n = (128 + (dig (n).toNat).length) :: dig (n).toNat := by
    unfold numB
    rw [if_neg (by omega), if_pos (by omega)]
  have HNum := Lib.hid hnum
  clear hnum
  go_enter Try.func63, Try.ntmps63
  go_wp2_with fail
  refine (Try.bits_Len64 (n) w (by omega) (by omega)).mono ?_
  rintro e w' ⟨rfl, rfl⟩
  obtain ⟨u, hu⟩ : ∃ u : Nat, (n).toNat = u := ⟨_, rfl⟩
  have huz : n = (u : Int) := by omega
  rw [hu] at HNum
  rw [hu]
  obtain ⟨b, hb⟩ : ∃ b : Nat, Lib.bitLen u = b := ⟨_, rfl⟩
  have hu64 : u < 18446744073709551616 := by omega
  have hd : (b + 7) / 8 = (dig u).length := by rw [← hb]; exact dig_length u hu64
  have hd8 := dig_le u
  have hd1 : 0 ≤ (dig u).length := Nat.zero_le _
  rw [hb]
  obtain ⟨d, hdd⟩ : ∃ d, (dig u).length = d := ⟨_, rfl⟩
  rw [hdd] at hd hd8 HNum
  have hbb : b ≤ 64 := by omega
  have e5 : ((b : Int) + 8 - 1) / 8 = d := by omega
  have HB := Lib.hid hb
  have HD := Lib.hid hdd
  have HU := Lib.hid hu64
  clear hb hdd hu64 hd1
  go_wp2_with fail
  simp only [e5]
  try simp only [huz]
  clear e5 hd hbb HB huz hu h0 h1
  have i1 := own_byte w' (128 + d) (128 + d) (by omega)
  have b1 := (Below.refl w'.heap.size w').alloc (Nat.le_refl _) (.cells #[.int .u8 (128 + d)] 5)
  have I1 := Lib.hid i1
  clear i1
  go_loopw [6, 7] (fun o i wr => NumRel w' (128 + d) u d o i wr) (fun _ i _ => (intOf i + 1).toNat)
  case atStart => exact ⟨0, Nat.zero_le _, by go_num, I1.out, b1⟩
  case round =>
    obtain ⟨k, hk, rfl, ho, hb⟩ := hrel
    have HO := Lib.hid ho
    clear I1 b1 ho
    by_cases hlt : k < d
    · have hval : (u : Int) / 2 ^ (8 * (d - 1 - k)) % 256 = ((u / 256 ^ (d - 1 - k) % 256 : Nat) : Int) := by
        have e : (2 : Int) ^ (8 * (d - 1 - k)) = ((256 ^ (d - 1 - k) : Nat) : Int) := by
          rw [show (256 : Nat) = 2 ^ 8 from rfl, ← Nat.pow_mul]
          simp
        rw [e]
        rfl
      have HV := Lib.hid hval
      clear hval
      go_wp2_with (at_builtin
                   refine wpList_append_own _ rfl (.tmp 39) (.tmp 45) 41 rfl w'.heap.size 5 i0 (.int .u8 0) 1 1 Try.underlying41 hi0 hz0 hz1 hz2 rfl (by decide) u6 (1 + k) _ rfl (HO.out.alloc _) ⟨wr.heap.size, 0, none⟩ 1 1 _ rfl rfl (cell_one_new _ _ _) (by simp [Value.oneCell']) (by unfold maxLen; omega) (by omega) (by have := hb.size; simp; omega) ?_
                   intro v5 w5 hown5 hgrow5 _
                   have HO5 := Lib.hid hown5
                   have HG5 := Lib.hid hgrow5
                   clear hown5 hgrow5)
      go_roundw
      case rel =>
        have f5 : Fr w'.heap.size [5] [] wr w5 := ((Fr.refl wr).alloc _).grown HG5.out (fun j hj => by
          obtain ⟨hb, cs, hc⟩ := own_block (HO.out.alloc _) hj
          exact ⟨hb, .inr ⟨cs, _, _, hc, by simp⟩⟩)
        refine ⟨k + 1, hlt, by go_num, ?_, hb.trans (f5.below hb.size)⟩
        have ho5 := HO5.out
        rw [HV.out] at ho5
        have e := digTo_succ u k HU.out (by rw [HD.out]; exact hlt)
        rw [HD.out] at e
        rw [e, show 1 + (k + 1) = 1 + k + 1 by omega, ← List.cons_append, List.map_append]
        exact ho5
      case measure => simp [intOf]; omega
    · obtain rfl : k = d := by omega
      obtain ⟨g, c, rfl⟩ := own_pos HO.out (by omega)
      have hbs := Bs.of_own (bs := (128 + k) :: digTo u k) (by
        have := HO.out
        have hl : ((128 + k) :: digTo u k).length = 1 + k := by
          have := this.1
          simpa using this
        rw [hl]
        exact this)
      have hcap : 1 + k ≤ c := by
        obtain ⟨A', c', h1, h2, _⟩ := hbs
        injection h1 with e1 e2 e3
        omega
      have HBs := Lib.hid hbs
      clear hbs
      go_wp2_with fail
      refine (clip_any (some ⟨g, 0, none⟩) (1 + k) c wr hcap).mono ?_
      rintro e w5 ⟨rfl, rfl⟩
      go_wp2
      go_ret
      refine ⟨_, rfl, ?_, hb⟩
      have hk8 : digTo u k = dig u := by unfold digTo; rw [List.take_of_length_le (by rw [HD.out]; exact Nat.le_refl _)]
      rw [HNum.out, ← hk8]
      exact HBs.out.clip

set_option maxRecDepth 100000 in
set_option maxHeartbeats 2000000 in
theorem num_neg (n : Int) (w : World) (h0 : n < 0) (h1 : -9223372036854775808 ≤ n) : Calls Try.prog 63 #[.int .i64 n] w (RetB (numB n) w) := by
  obtain ⟨i0, hi0, hz0, hz1, hz2⟩ := info_parts Try.infoByte
  have hnum : numB n = (144 + (dig ((-1 - n)).toNat).length) :: dig ((-1 - n)).toNat := by
    unfold numB
    rw [if_neg (by omega), if_neg (by omega)]
  have HNum := Lib.hid hnum
  clear hnum
  go_enter Try.func63, Try.ntmps63
  have d0 : decide (n < 0) = true := by simpa using h0
  have d1 : decide (0 ≤ n) = false := by simp; omega
  have H0 := Lib.hid h0
  have H1 := Lib.hid h1
  clear h0 h1
  go_wp2_with fail
  have h0 := H0.out
  have h1 := H1.out
  rw [not_u64 n h0 h1]
  clear H0 H1
  refine (Try.bits_Len64 ((-1 - n)) w (by omega) (by omega)).mono ?_
  rintro e w' ⟨rfl, rfl⟩
  obtain ⟨u, hu⟩ : ∃ u : Nat, ((-1 - n)).toNat = u := ⟨_, rfl⟩
  have huz : (-1 - n) = (u : Int) := by omega
  rw [hu] at HNum
  rw [hu]
  obtain ⟨b, hb⟩ : ∃ b : Nat, Lib.bitLen u = b := ⟨_, rfl⟩
  have hu64 : u < 18446744073709551616 := by omega
  have hd : (b + 7) / 8 = (dig u).length := by rw [← hb]; exact dig_length u hu64
  have hd8 := dig_le u
  have hd1 : 0 ≤ (dig u).length := Nat.zero_le _
  rw [hb]
  obtain ⟨d, hdd⟩ : ∃ d, (dig u).length = d := ⟨_, rfl⟩
  rw [hdd] at hd hd8 HNum
  have hbb : b ≤ 64 := by omega
  have e5 : ((b : Int) + 8 - 1) / 8 = d := by omega
  have HB := Lib.hid hb
  have HD := Lib.hid hdd
  have HU := Lib.hid hu64
  clear hb hdd hu64 hd1
  go_wp2_with fail
  simp only [e5]
  try simp only [huz]
  clear e5 hd hbb HB huz hu h0 h1
  have i1 := own_byte w' (144 + d) (144 + d) (by omega)
  have b1 := (Below.refl w'.heap.size w').alloc (Nat.le_refl _) (.cells #[.int .u8 (144 + d)] 5)
  have I1 := Lib.hid i1
  clear i1
  go_loopw [6, 7] (fun o i wr => NumRel w' (144 + d) u d o i wr) (fun _ i _ => (intOf i + 1).toNat)
  case atStart => exact ⟨0, Nat.zero_le _, by go_num, I1.out, b1⟩
  case round =>
    obtain ⟨k, hk, rfl, ho, hb⟩ := hrel
    have HO := Lib.hid ho
    clear I1 b1 ho
    by_cases hlt : k < d
    · have hval : (u : Int) / 2 ^ (8 * (d - 1 - k)) % 256 = ((u / 256 ^ (d - 1 - k) % 256 : Nat) : Int) := by
        have e : (2 : Int) ^ (8 * (d - 1 - k)) = ((256 ^ (d - 1 - k) : Nat) : Int) := by
          rw [show (256 : Nat) = 2 ^ 8 from rfl, ← Nat.pow_mul]
          simp
        rw [e]
        rfl
      have HV := Lib.hid hval
      clear hval
      go_wp2_with (at_builtin
                   refine wpList_append_own _ rfl (.tmp 39) (.tmp 45) 41 rfl w'.heap.size 5 i0 (.int .u8 0) 1 1 Try.underlying41 hi0 hz0 hz1 hz2 rfl (by decide) u6 (1 + k) _ rfl (HO.out.alloc _) ⟨wr.heap.size, 0, none⟩ 1 1 _ rfl rfl (cell_one_new _ _ _) (by simp [Value.oneCell']) (by unfold maxLen; omega) (by omega) (by have := hb.size; simp; omega) ?_
                   intro v5 w5 hown5 hgrow5 _
                   have HO5 := Lib.hid hown5
                   have HG5 := Lib.hid hgrow5
                   clear hown5 hgrow5)
      go_roundw
      case rel =>
        have f5 : Fr w'.heap.size [5] [] wr w5 := ((Fr.refl wr).alloc _).grown HG5.out (fun j hj => by
          obtain ⟨hb, cs, hc⟩ := own_block (HO.out.alloc _) hj
          exact ⟨hb, .inr ⟨cs, _, _, hc, by simp⟩⟩)
        refine ⟨k + 1, hlt, by go_num, ?_, hb.trans (f5.below hb.size)⟩
        have ho5 := HO5.out
        rw [HV.out] at ho5
        have e := digTo_succ u k HU.out (by rw [HD.out]; exact hlt)
        rw [HD.out] at e
        rw [e, show 1 + (k + 1) = 1 + k + 1 by omega, ← List.cons_append, List.map_append]
        exact ho5
      case measure => simp [intOf]; omega
    · obtain rfl : k = d := by omega
      obtain ⟨g, c, rfl⟩ := own_pos HO.out (by omega)
      have hbs := Bs.of_own (bs := (144 + k) :: digTo u k) (by
        have := HO.out
        have hl : ((144 + k) :: digTo u k).length = 1 + k := by
          have := this.1
          simpa using this
        rw [hl]
        exact this)
      have hcap : 1 + k ≤ c := by
        obtain ⟨A', c', h1, h2, _⟩ := hbs
        injection h1 with e1 e2 e3
        omega
      have HBs := Lib.hid hbs
      clear hbs
      go_wp2_with fail
      refine (clip_any (some ⟨g, 0, none⟩) (1 + k) c wr hcap).mono ?_
      rintro e w5 ⟨rfl, rfl⟩
      go_wp2
      go_ret
      refine ⟨_, rfl, ?_, hb⟩
      have hk8 : digTo u k = dig u := by unfold digTo; rw [List.take_of_length_le (by rw [HD.out]; exact Nat.le_refl _)]
      rw [HNum.out, ← hk8]
      exact HBs.out.clip

theorem num_any (n : Int) (w : World) (h : I64 n) : Calls Try.prog 63 #[.int .i64 n] w (RetB (numB n) w) := by
  by_cases h0 : n < 0
  · exact num_neg n w h0 h.1
  · by_cases h1 : n < 128
    · exact num_small n w (by omega) h1
    · exact num_pos n w (by omega) h.2

end Go.Proofs.Ytnmbblkfaoihfaa

namespace Go.Proofs.Ytnmbblkfaoihfaa

/-- The size that a head tells, and whether the number is below 0. -/
def sizeH (h : Nat) : Nat := if 144 ≤ h then h - 144 else h - 128
def numH (h u : Nat) : Int := if 144 ≤ h then -1 - (u : Int) else u
/-- The number with whose cell bytes begin, and the cell's bytes. -/
def firstN : List Nat → Option (Int × Nat)
  | [] => none
  | h :: t => if h < 128 then some (h, 1) else if 8 < sizeH h ∨ t.length < sizeH h then none else
    if val (t.take (sizeH h)) < 9223372036854775808 ∧ numB (numH h (val (t.take (sizeH h)))) = (h :: t).take (1 + sizeH h) then some (numH h (val (t.take (sizeH h))), 1 + sizeH h) else none

theorem val_lt (l : List Nat) (h : ∀ b ∈ l, b < 256) : val l < 256 ^ l.length := by
  have key : ∀ (n : Nat) (l : List Nat), l.length = n → (∀ b ∈ l, b < 256) → val l < 256 ^ n := by
    intro n
    induction n with
    | zero => intro l hl _; rw [List.length_eq_zero_iff] at hl; subst hl; simp [val]
    | succ n ih =>
      intro l hl hb
      have hne : l ≠ [] := by intro e; subst e; simp at hl
      rw [← List.dropLast_concat_getLast hne, val_snoc]
      have h1 := ih l.dropLast (by simp [hl]) (fun b hb' => hb b ((List.dropLast_sublist l).subset hb'))
      have h2 := hb _ (List.getLast_mem hne)
      rw [Nat.pow_succ]
      omega
  exact key _ l rfl h

/-- What is told has that cell. -/
theorem firstN_some {bs : List Nat} {n : Int} {k : Nat} (hb : ∀ b ∈ bs, b < 256) (h : firstN bs = some (n, k)) : I64 n ∧ numB n = bs.take k ∧ 1 ≤ k ∧ k ≤ bs.length := by
  unfold firstN at h
  split at h
  · cases h
  · rename_i x t
    split at h
    · rename_i hx
      simp at h
      obtain ⟨rfl, rfl⟩ := h
      refine ⟨by unfold I64; omega, ?_, Nat.le_refl _, by simp⟩
      unfold numB
      rw [if_pos ⟨by omega, by omega⟩]
      simp
    · split at h
      · cases h
      · rename_i hsz
        split at h
        · rename_i hu
          simp at h
          obtain ⟨rfl, rfl⟩ := h
          refine ⟨?_, hu.2, by omega, by simp; omega⟩
          have := hu.1
          unfold I64 numH
          split <;> omega
        · cases h

/-- A number's cell is told, with whatever stands behind. -/
theorem firstN_num (n : Int) (hn : I64 n) (rest : List Nat) : firstN (numB n ++ rest) = some (n, (numB n).length) := by
  obtain ⟨h1, h2⟩ := hn
  by_cases c0 : 0 ≤ n ∧ n < 128
  · have e : numB n = [n.toNat] := by unfold numB; rw [if_pos c0]
    rw [e]
    simp only [List.singleton_append, firstN]
    rw [if_pos (by omega)]
    simp
    omega
  · have key : ∀ (H u : Nat), u < 9223372036854775808 → (H = 128 ∧ 0 < u ∨ H = 144) → numB n = (H + (dig u).length) :: dig u → numH (H + (dig u).length) u = n → firstN (numB n ++ rest) = some (n, (numB n).length) := by
      intro H u hu hH e hnum
      have hd8 := dig_le u
      have hs : sizeH (H + (dig u).length) = (dig u).length := by
        unfold sizeH
        rcases hH with ⟨rfl, _⟩ | rfl
        · rw [if_neg (by omega)]; omega
        · rw [if_pos (by omega)]; omega
      have ht : (dig u ++ rest).take (dig u).length = dig u := by simp
      have hv : val (dig u) = u := val_dig u (by omega)
      have hlen : (numB n).length = 1 + (dig u).length := by rw [e]; simp; omega
      rw [hlen]
      have hge : ¬ (H + (dig u).length < 128) := by rcases hH with ⟨rfl, _⟩ | rfl <;> omega
      have e2 : numB n ++ rest = (H + (dig u).length) :: (dig u ++ rest) := by rw [e]; rfl
      have e3 : (numB n ++ rest).take (1 + (dig u).length) = numB n := by rw [← hlen]; simp
      rw [e2] at e3
      rw [e2]
      rw [firstN, if_neg hge, hs, if_neg (by simp; omega), ht, hv, hnum, if_pos ⟨hu, e3.symm⟩]
    by_cases c1 : 0 ≤ n
    · refine key 128 n.toNat (by omega) (.inl ⟨rfl, by omega⟩) (by unfold numB; rw [if_neg c0, if_pos c1]) ?_
      have := dig_le n.toNat
      unfold numH
      rw [if_neg (by omega)]
      omega
    · refine key 144 (-1 - n).toNat (by omega) (.inr rfl) (by unfold numB; rw [if_neg c0, if_neg c1]) ?_
      unfold numH
      rw [if_pos (by omega)]
      omega

end Go.Proofs.Ytnmbblkfaoihfaa

namespace Go.Proofs.Ytnmbblkfaoihfaa

/-- What a maker holds: its bytes, and whether there were too many. -/
def putS (s : List Nat × Bool) (c : List Nat) : List Nat × Bool :=
  if s.2 = true ∨ 262144 - (s.1.length : Int) < c.length then (s.1, true) else (s.1 ++ c, false)
theorem putS_long {s : List Nat × Bool} {c : List Nat} (h : s.2 = true) : putS s c = (s.1, true) := by unfold putS; rw [if_pos (.inl h)]
theorem putS_over {s : List Nat × Bool} {c : List Nat} (h : 262144 - (s.1.length : Int) < c.length) : putS s c = (s.1, true) := by unfold putS; rw [if_pos (.inr h)]
theorem putS_fits {s : List Nat × Bool} {c : List Nat} (h : s.2 = false) (h' : ¬ 262144 - (s.1.length : Int) < c.length) : putS s c = (s.1 ++ c, false) := by unfold putS; rw [if_neg]; simp [h]; omega
/-- The bytes of a text. -/
def natsOf (s : ByteArray) : List Nat := s.data.toList.map UInt8.toNat
theorem natsOf_lt (s : ByteArray) : ∀ b ∈ natsOf s, b < 256 := by
  intro b hb
  obtain ⟨x, _, rfl⟩ := List.mem_map.1 hb
  exact x.toNat_lt
theorem natsOf_length (s : ByteArray) : (natsOf s).length = s.size := by simp [natsOf]
/-- The cell of a text. -/
def textB (s : List Nat) : List Nat := numB s.length ++ s
def flagB (b : Bool) : List Nat := numB (if b then 1 else 0)

/-- Taking a number: what is told, and what is left. -/
def numT (s : List Nat × Bool) (least most : Int) : Int × (List Nat × Bool) :=
  if s.2 = true then (0, s) else match firstN s.1 with
    | some (n, k) => if n < least ∨ most < n then (0, (s.1, true)) else (n, (s.1.drop k, false))
    | none => (0, (s.1, true))
theorem numT_bad {s : List Nat × Bool} {a b : Int} (h : s.2 = true) : numT s a b = (0, s) := by unfold numT; rw [if_pos h]
theorem numT_none {s : List Nat × Bool} {a b : Int} (h : s.2 = false) (hf : firstN s.1 = none) : numT s a b = (0, (s.1, true)) := by unfold numT; rw [if_neg (by simp [h]), hf]
theorem numT_out {s : List Nat × Bool} {a b : Int} {n : Int} {k : Nat} (h : s.2 = false) (hf : firstN s.1 = some (n, k)) (ho : n < a ∨ b < n) : numT s a b = (0, (s.1, true)) := by
  unfold numT; rw [if_neg (by simp [h]), hf]; simp only; rw [if_pos ho]
theorem numT_in {s : List Nat × Bool} {a b : Int} {n : Int} {k : Nat} (h : s.2 = false) (hf : firstN s.1 = some (n, k)) (h1 : a ≤ n) (h2 : n ≤ b) : numT s a b = (n, (s.1.drop k, false)) := by
  unfold numT; rw [if_neg (by simp [h]), hf]; simp only; rw [if_neg (by omega)]
/-- Taking a text. -/
def textT (s : List Nat × Bool) (most : Int) : List Nat × (List Nat × Bool) :=
  let r := numT s 0 most
  if r.2.2 = true then ([], r.2) else if (r.2.1.length : Int) < r.1 then ([], (r.2.1, true)) else (r.2.1.take r.1.toNat, (r.2.1.drop r.1.toNat, false))
/-- Taking a flag. -/
def flagT (s : List Nat × Bool) : Bool × (List Nat × Bool) := ((numT s 0 1).1 == 1, (numT s 0 1).2)
/-- How many bytes are left. -/
def leftT (s : List Nat × Bool) : Int := if s.2 = true then 0 else s.1.length
/-- Whether all was taken. -/
def doneT (s : List Nat × Bool) : Int := if s.2 = true ∨ 0 < s.1.length then 10 else 0

/-- The reference's texts: no more than there are bytes. -/
def rtextT (s : List Nat × Bool) (most : Int) : List Nat × (List Nat × Bool) :=
  let r := numT s 0 (if (s.1.length : Int) < most then s.1.length else most)
  if r.2.2 = true ∨ (r.2.1.length : Int) < r.1 then ([], (r.2.1, true)) else (r.2.1.take r.1.toNat, (r.2.1.drop r.1.toNat, false))

/-- Two takers of which one can tell no difference: both at fault, or the same bytes left. -/
def SameT (s r : List Nat × Bool) : Prop := s.2 = r.2 ∧ (s.2 = false → s.1 = r.1)
theorem SameT.refl (s : List Nat × Bool) : SameT s s := ⟨rfl, fun _ => rfl⟩
theorem SameT.num {s r : List Nat × Bool} (h : SameT s r) (a b : Int) : (numT s a b).1 = (numT r a b).1 ∧ SameT (numT s a b).2 (numT r a b).2 := by
  obtain ⟨s1, s2⟩ := s
  obtain ⟨r1, r2⟩ := r
  obtain ⟨h1, h2⟩ := h
  simp only at h1 h2
  subst h1
  cases s2 with
  | true => rw [numT_bad rfl, numT_bad rfl]; exact ⟨rfl, rfl, fun h => by cases h⟩
  | false => rw [h2 rfl]; exact ⟨rfl, SameT.refl _⟩
theorem numT_lt {s : List Nat × Bool} (h : ∀ b ∈ s.1, b < 256) (a b : Int) : ∀ x ∈ (numT s a b).2.1, x < 256 := by
  unfold numT
  split
  · exact h
  · split
    · split
      · exact h
      · exact fun x hx => h x (List.mem_of_mem_drop hx)
    · exact h
theorem numT_le (s : List Nat × Bool) (a b : Int) : (numT s a b).2.1.length ≤ s.1.length := by
  unfold numT
  split
  · exact Nat.le_refl _
  · split
    · split
      · exact Nat.le_refl _
      · simp
    · exact Nat.le_refl _
/-- What a number taken is, where the taker is not at fault behind it. -/
theorem numT_good {s : List Nat × Bool} (hb : ∀ b ∈ s.1, b < 256) {a b : Int} (h : (numT s a b).2.2 = false) : s.2 = false ∧ ∃ k, firstN s.1 = some ((numT s a b).1, k) ∧ a ≤ (numT s a b).1 ∧ (numT s a b).1 ≤ b ∧ (numT s a b).2.1 = s.1.drop k ∧ 1 ≤ k ∧ k ≤ s.1.length ∧ I64 (numT s a b).1 := by
  cases hs : s.2 with
  | true => rw [numT_bad hs] at h; rw [hs] at h; cases h
  | false =>
    refine ⟨rfl, ?_⟩
    cases hf : firstN s.1 with
    | none => rw [numT_none hs hf] at h; cases h
    | some p =>
      obtain ⟨n, k⟩ := p
      by_cases ho : n < a ∨ b < n
      · rw [numT_out hs hf ho] at h; cases h
      · rw [numT_in hs hf (by omega) (by omega)]
        have := firstN_some hb hf
        exact ⟨k, rfl, by simp only; omega, by simp only; omega, rfl, this.2.2.1, this.2.2.2, this.1⟩
/-- A number taken lies within its bounds, or is 0. -/
theorem numT_range (s : List Nat × Bool) (a b : Int) : (numT s a b).1 = 0 ∨ (a ≤ (numT s a b).1 ∧ (numT s a b).1 ≤ b) := by
  unfold numT
  split
  · exact .inl rfl
  · split
    · split
      · exact .inl rfl
      · simp only; right; omega
    · exact .inl rfl
theorem SameT.text {s r : List Nat × Bool} (hb : ∀ b ∈ s.1, b < 256) (h : SameT s r) (most : Int) : (textT s most).1 = (rtextT r most).1 ∧ SameT (textT s most).2 (rtextT r most).2 := by
  obtain ⟨s1, s2⟩ := s
  obtain ⟨r1, r2⟩ := r
  obtain ⟨h1, h2⟩ := h
  simp only at h1 h2 hb
  subst h1
  cases s2 with
  | true => unfold textT rtextT; rw [numT_bad rfl, numT_bad rfl]; simp [SameT]
  | false =>
    obtain rfl := h2 rfl
    clear h2
    cases hf : firstN s1 with
    | none => unfold textT rtextT; rw [numT_none rfl hf, numT_none rfl hf]; simp [SameT]
    | some p =>
      obtain ⟨n, k⟩ := p
      obtain ⟨_, _, hk1, hk2⟩ := firstN_some hb hf
      have hdl : (s1.drop k).length = s1.length - k := by simp
      by_cases h0 : n < 0 ∨ most < n
      · unfold textT rtextT
        rw [numT_out rfl hf h0, numT_out rfl hf (by split <;> omega)]
        simp [SameT]
      · by_cases h3 : (s1.length : Int) < n
        · unfold textT rtextT
          rw [numT_in rfl hf (by omega) (by omega), numT_out rfl hf (by simp only; right; split <;> omega)]
          simp only
          rw [if_neg (by simp), if_pos (by omega)]
          simp [SameT]
        · have e : numT (s1, false) 0 (if (s1.length : Int) < most then s1.length else most) = (n, (s1.drop k, false)) := numT_in rfl hf (by omega) (by split <;> omega)
          unfold textT rtextT
          simp only
          rw [numT_in rfl hf (by omega) (by omega), e]
          simp only
          by_cases h4 : ((s1.drop k).length : Int) < n
          · rw [if_neg (by simp), if_pos h4, if_pos (.inr h4)]
            simp [SameT]
          · rw [if_neg (by simp), if_neg h4, if_neg (by simp; omega)]
            exact ⟨rfl, SameT.refl _⟩
theorem SameT.left {s r : List Nat × Bool} (h : SameT s r) : leftT s = leftT r := by
  obtain ⟨s1, s2⟩ := s
  obtain ⟨r1, r2⟩ := r
  obtain ⟨h1, h2⟩ := h
  simp only at h1 h2
  subst h1
  cases s2 with
  | true => simp [leftT]
  | false => rw [h2 rfl]
theorem textT_lt {s : List Nat × Bool} (h : ∀ b ∈ s.1, b < 256) (most : Int) : (∀ x ∈ (textT s most).1, x < 256) ∧ ∀ x ∈ (textT s most).2.1, x < 256 := by
  have h1 := numT_lt h 0 most
  unfold textT
  generalize numT s 0 most = r at h1
  simp only
  split
  · exact ⟨by simp, h1⟩
  · split
    · exact ⟨by simp, h1⟩
    · exact ⟨fun x hx => h1 x (List.mem_of_mem_take hx), fun x hx => h1 x (List.mem_of_mem_drop hx)⟩
theorem rtextT_lt {s : List Nat × Bool} (h : ∀ b ∈ s.1, b < 256) (most : Int) : (∀ x ∈ (rtextT s most).1, x < 256) ∧ ∀ x ∈ (rtextT s most).2.1, x < 256 := by
  have h1 := numT_lt h 0 (if (s.1.length : Int) < most then s.1.length else most)
  unfold rtextT
  generalize numT s 0 (if (s.1.length : Int) < most then s.1.length else most) = r at h1
  simp only
  split
  · exact ⟨by simp, h1⟩
  · exact ⟨fun x hx => h1 x (List.mem_of_mem_take hx), fun x hx => h1 x (List.mem_of_mem_drop hx)⟩

/-- What was put as a number's cell is taken. -/
theorem numT_put (n : Int) (hn : I64 n) (rest : List Nat) {a b : Int} (h1 : a ≤ n) (h2 : n ≤ b) : numT (numB n ++ rest, false) a b = (n, (rest, false)) := by
  rw [numT_in rfl (firstN_num n hn rest) h1 h2]
  simp
theorem textT_put (s rest : List Nat) {most : Int} (h1 : (s.length : Int) ≤ most) (h2 : s.length ≤ 9223372036854775807) : textT (textB s ++ rest, false) most = (s, (rest, false)) := by
  unfold textT textB
  rw [List.append_assoc, numT_put _ ⟨by omega, by omega⟩ _ (by omega) h1]
  simp only
  rw [if_neg (by simp), if_neg (by simp; omega)]
  simp
theorem flagT_put (b : Bool) (rest : List Nat) : flagT (flagB b ++ rest, false) = (b, (rest, false)) := by
  unfold flagT flagB
  rw [numT_put _ (by unfold I64; split <;> omega) _ (by split <;> omega) (by split <;> omega)]
  cases b <;> rfl
end Go.Proofs.Ytnmbblkfaoihfaa
