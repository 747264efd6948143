/- Joined: items.All and its iterator: the items in order, one a round. count.May and the reference's. math/bits.Len64 of the library at this translation, by the kit's shelf in its plain mode: for every 64-bit number. The contract of cells.Num: the cell of any number, in new memory. Bytes as strings: what 'string(b)' gives, and when two are the same. -/
import Derived.RangeFuncNested
import Derived.RangeFuncBound
import Derived.RangeFuncCalls
import Derived.RangeFuncLeaves
import Derived.RangeFuncBox
import Derived.Shelf.Abstract
import Derived.Shelf.RegionOpen
import Derived.OwnWalkIn
import Derived.TacticsInMore
import Derived.LoopNIn
import Derived.LoopIn
import Derived.Test.YtpccbobomppdbaaZR2
import Derived.Shelf.Strconv.Itoa0
import Derived.Test.YtpccbobomppdbaaProg
import Derived.Test.YtpccbobomppdbaaRows
import Derived.Test.YtpccbobomppdbaaZR1
import Derived.Laws.IdiomStrings
namespace Go.Proofs.Ytpccbobomppdbaa
open Go.RowKit Go.Shelf
attribute [local go_sem] Oper.semAt_some

/-- An item whose text and number are in range. -/
def BdIt (z : It) : Prop := z.good.size ≤ 9223372036854775807 ∧ -9223372036854775808 ≤ z.n ∧ z.n ≤ 9223372036854775807
abbrev BIt : Type := { z : It // BdIt z }
theorem bits_of : ∀ {rs : List It}, (∀ z ∈ rs, BdIt z) → ∃ qs : List BIt, qs.map (·.1) = rs
  | [], _ => ⟨[], rfl⟩
  | z :: rs, h => by
    obtain ⟨qs, hq⟩ := bits_of (fun y hy => h y (by simp [hy]) : ∀ z ∈ rs, BdIt z)
    exact ⟨⟨z, h z (by simp)⟩ :: qs, by simp [hq]⟩
/-- What the iterator hands over a round. -/
def encRowI (z : BIt) : Array Value := #[.string z.1.good, .int .i64 z.1.n]

theorem all_any (A : Option Addr) (n c : Nat) (w : World) :
    Calls Try.prog 21 #[.slice A n c] w fun e w' => e = .returned (.func (.func 54) #[] #[.pointer (some ⟨w.heap.size, 0, none⟩)]) ∧ w.alloc (.cells #[.slice A n c] 22) = w' := by
  have hmf : ∀ (fn : Fn) (first cap : Array Value) (w : World), (Instr.makeFunc fn first cap).run Try.prog w = .ok (.func fn first cap) w := fun _ _ _ _ => rfl
  go_enter Try.func21, Try.ntmps21
  go_wp2
  go_ret
  exact ⟨rfl, rfl⟩

set_option maxRecDepth 100000 in
set_option maxHeartbeats 2000000 in
theorem all_iter (n n₀ Bx : Nat) (A : Option Addr) (c : Nat) (rs : List It) (qs : List BIt) (hq : qs.map (·.1) = rs) (w : World) (hb : w.cell? ⟨Bx, 0, none⟩ = some (.slice A rs.length c)) (hr : Rd w 2 A rs.length (rs.flatMap encI)) (hm : rs.length ≤ 4611686018427387903) (hn : 1 ≤ n) (hA : ∀ a, A = some a → 0 < rs.length → a.block < n₀) :
    SeqStopsK Fence.wide n Try.prog 54 #[.pointer (some ⟨Bx, 0, none⟩)] encRowI (Below n₀) (fun xs => xs = qs) (fun pre => pre <+: qs) rs.length w := fun l J Jx W hW hJ hJx hY h0 => by
  have hBn := World.block_lt_of_cell? w _ hb
  have hb' : W.cell? ⟨Bx, 0, none⟩ = some (.slice A rs.length c) := (hW.cell (p := ⟨Bx, 0, none⟩) hBn).trans hb
  have HRD := Lib.hid (hr.below hW)
  have HA := Lib.hid hA
  have hql : qs.length = rs.length := by rw [← hq]; simp
  have HQA : Hid (∀ k (h1 : k < qs.length) (h2 : k < rs.length), qs[k].1 = rs[k]) := Lib.hid (fun k h1 h2 => by simp only [← hq, List.getElem_map])
  have HQL := Lib.hid hql
  clear hb hW hr hA hq hql
  refine CallsIn.mono (R := fun e W' => (∃ v, e = .returned v) ∧ ((∃ xs, xs = qs ∧ J xs W') ∨ (∃ pre : List BIt, pre <+: qs ∧ Jx pre W'))) ?_ (fun _ _ h => h)
  refine callsIn_of_wp Try.func54 rfl trivial ?_ rfl
  simp only [Try.ntmps54, List.size_toArray, List.length_cons, List.length_nil, Nat.reduceAdd, Nat.reduceSub, Array.replicate_succ, Array.replicate_zero, List.push_toArray, List.append_toArray, List.nil_append, List.cons_append]
  gi_wp2
  gi_loopw [7] (fun i wr => ∃ k : Nat, k ≤ rs.length ∧ i = .int .i64 k ∧ J (qs.take k) wr ∧ (∀ a, A = some a → ∀ o, wr.cell? ⟨a.block, o, none⟩ = W.cell? ⟨a.block, o, none⟩) ∧ W.heap.size ≤ wr.heap.size) (fun i _ => rs.length - (intOf i).toNat)
  case atStart => exact ⟨0, Nat.zero_le _, rfl, by simpa using h0, fun _ _ _ => rfl, Nat.le_refl _⟩
  case round =>
    obtain ⟨k, hk, rfl, hJk, hsame, hsz⟩ := hrel
    have HS := Lib.hid hsame
    have HJk := Lib.hid hJk
    clear hsame hJk
    by_cases hlt : k < rs.length
    · obtain ⟨g, o, rfl, hg, c0', c1'⟩ := rdi_at HRD.out hlt
      have hg0 : g < n₀ := HA.out _ rfl (by omega)
      have hkq : k < qs.length := by have := HQL.out; omega
      have c0 : wr.cell? ⟨g, o + k * 2, none⟩ = some (.string rs[k].good) := (HS.out _ rfl _).trans c0'
      have c1 : wr.cell? ⟨g, o + k * 2 + 1, none⟩ = some (.int .i64 rs[k].n) := (HS.out _ rfl _).trans c1'
      obtain ⟨x, hx⟩ : ∃ x, qs[k] = x := ⟨_, rfl⟩
      rw [← HQA.out k hkq hlt, hx] at c0 c1
      have HX := Lib.hid hx
      have hJa := hJ _ _ (wr.alloc (.cells #[.string x.1.good, .int .i64 x.1.n] 46)) none HJk.out (World.grownBy_alloc wr _ none) (by intro r e; cases e)
      obtain ⟨fn, tmps, assign, body, hy, hR⟩ := hY (qs.take k) x _ hJa (by simp; omega)
      dsimp only [encRowI] at hy
      clear c0' c1' hx
      gi_wp2
      refine hR.mono ?_
      rintro e W3 (⟨rfl, hJ3, hk3⟩ | ⟨rfl, hJx3⟩)
      · have hs3 : ∀ o', W3.cell? ⟨g, o', none⟩ = W.cell? ⟨g, o', none⟩ := fun o' => by
          rw [hk3.cell (p := ⟨g, o', none⟩) hg0, World.cell?_alloc_lt wr _ ⟨g, o', none⟩ (by simp; omega)]
          exact HS.out _ rfl o'
        have hz3 : W.heap.size ≤ W3.heap.size := by have := hk3.size; simp at this; omega
        have HS3 := Lib.hid hs3
        have HJ3 := Lib.hid hJ3
        clear hs3 hJ3 hk3
        gi_wp2
        go_roundw
        case rel =>
          refine ⟨k + 1, by omega, by go_num, ?_, fun a ha o => by cases ha; exact HS3.out o, hz3⟩
          rw [List.take_succ_eq_append_getElem hkq, HX.out]
          exact HJ3.out
        case measure => simp [intOf]; omega
      · have HJx := Lib.hid hJx3
        clear hJx3
        gi_wp2
        refine bodyPost_ret (results_none rfl _ _ _) rfl ?_
        refine ⟨⟨_, rfl⟩, .inr ⟨qs.take (k + 1), List.take_prefix _ _, ?_⟩⟩
        rw [List.take_succ_eq_append_getElem hkq, HX.out]
        exact HJx.out
    · gi_wp2
      go_end0
      refine ⟨⟨_, rfl⟩, .inl ⟨qs, rfl, ?_⟩⟩
      have := HJk.out
      rwa [List.take_of_length_le (by have := HQL.out; omega)] at this
end Go.Proofs.Ytpccbobomppdbaa

namespace Go.Proofs.Ytpccbobomppdbaa
open Go.RowKit

def mayC (n : Int) : Bool := decide (0 ≤ n) && decide (n ≤ 1099511627776)
theorem cmay_any (n : Int) (w : World) : Calls Try.prog 59 #[.int .i64 n] w fun e w' => e = .returned (.bool (mayC n)) ∧ w = w' := by
  go_enter Try.func59, Try.ntmps59
  by_cases h0 : 0 ≤ n
  · by_cases h1 : n ≤ 1099511627776
    all_goals
      go_wp2
      go_ret
      exact ⟨ret_bool (by simp [mayC]; omega), rfl⟩
  · go_wp2
    go_ret
    exact ⟨ret_bool (by simp [mayC]; omega), rfl⟩
theorem xcmay_any (n : Int) (w : World) : Calls Try.prog 66 #[.int .i64 n] w fun e w' => e = .returned (.bool (mayC n)) ∧ w = w' := by
  go_enter Try.func66, Try.ntmps66
  by_cases h0 : 0 ≤ n
  · by_cases h1 : n ≤ 1099511627776
    all_goals
      go_wp2
      go_ret
      exact ⟨ret_bool (by simp [mayC]; omega), rfl⟩
  · go_wp2
    go_ret
    exact ⟨ret_bool (by simp [mayC]; omega), rfl⟩
end Go.Proofs.Ytpccbobomppdbaa

namespace Go.Proofs
open Go.Shelf
def Try.lays129_ren : Go.Shelf.Ren := ⟨fun | 129 => 79 | n => n, fun | 53 => 107 | 3 => 3 | 4 => 4 | 46 => 109 | 5 => 5 | 9 => 9 | n => n, fun | n => n⟩
theorem Try.lays129 : Go.Proofs.Lays.n129 Try.prog Try.lays129_ren := {
  mixed := by kernel_rfl
  f129 := Try.func79.trans (congrArg some (by kernel_rfl))
  t3 := Try.underlying3
  a3 := Try.isAgg3
  z3 := Try.sizeOf3
  v3 := Try.zeroValue3
  t4 := Try.underlying4
  a4 := Try.isAgg4
  z4 := Try.sizeOf4
  v4 := Try.zeroValue4
  t5 := Try.underlying5
  a5 := Try.isAgg5
  z5 := Try.sizeOf5
  v5 := Try.zeroValue5
  t9 := Try.underlying9
  a9 := Try.isAgg9
  z9 := Try.sizeOf9
  v9 := Try.zeroValue9
  t46 := Try.underlying109
  a46 := Try.isAgg109
  z46 := Try.sizeOf109
  v46 := Try.zeroValue109
  t53 := Try.underlying107
  a53 := Try.isAgg107
  z53 := Try.sizeOf107
  v53 := Try.zeroValue107 }
/-- bits.Len64: "Len64 returns the minimum number of bits required to represent x; the result is 0 for x == 0.": IT RETURNS 'Lib.bitLen x'; the world is as it was. ('h0', 'h1': x is a uint64.) (LAID: no walk: one application.) -/
theorem Try.bits_Len64 (x : Int) (w : World) (h0 : 0 ≤ x) (h1 : x ≤ 18446744073709551615) :
    Calls Try.prog 79 #[.int .u64 x] w fun e w' => e = .returned (.int .i64 (Lib.bitLen x.toNat)) ∧ w' = w := Any.bits_Len64 Try.lays129 x w h0 h1
end Go.Proofs

namespace Go.Proofs.Ytpccbobomppdbaa
open Go.RowKit

/-- Bytes as cells. -/
def u8v (b : Nat) : Value := .int .u8 b
/-- A slice value that reads as bytes. -/
def Bs (w : World) (v : Value) (bs : List Nat) : Prop := ∃ A c, v = .slice A bs.length c ∧ bs.length ≤ c ∧ c ≤ maxLen ∧ Rd w 1 A bs.length (bs.map u8v)
/-- A call that hands back bytes and leaves all that was there as it was. -/
def RetB (bs : List Nat) (w : World) (e : Ending) (w' : World) : Prop := ∃ v, e = .returned v ∧ Bs w' v bs ∧ Below w.heap.size w w'
theorem Bs.below {w w' : World} {v : Value} {bs : List Nat} (h : Bs w v bs) (hb : Below w.heap.size w w') : Bs w' v bs := by
  obtain ⟨A, c, h1, h2, h3, h4⟩ := h
  exact ⟨A, c, h1, h2, h3, h4.below hb⟩
theorem Bs.of_own {w : World} {B e : Nat} {v : Value} {bs : List Nat} (h : w.ownsRow B e 1 v bs.length (bs.map u8v)) : Bs w v bs := by
  obtain ⟨A, c, h1, h2, h3, h4, _⟩ := own_slice h
  exact ⟨A, c, h1, h2, h3, h4⟩
theorem own_one (w : World) (e : TypeId) (v : Value) (B : Nat) (hB : B ≤ w.heap.size) : (w.alloc (.cells #[v] e)).ownsRow B e 1 (.slice (some ⟨w.heap.size, 0, none⟩) 1 1) 1 [v] :=
  ⟨rfl, .inr ⟨w.heap.size, 1, #[v], rfl, hB, block_new _ _, Nat.le_refl _, by unfold maxLen; omega, rfl, rfl⟩⟩
theorem Try.infoByte : (Try.prog.info? 5).map (fun i => (i.zero, i.size, i.bytes)) = some (some (.int .u8 0), 1, 1) := by kernel_rfl

theorem own_byte (w : World) (n : Int) (k : Nat) (h : n = k) : (w.alloc (.cells #[.int .u8 n] 5)).ownsRow w.heap.size 5 1 (.slice (some ⟨w.heap.size, 0, none⟩) 1 1) 1 ([k].map u8v) := by
  subst h
  exact own_one w _ _ _ (Nat.le_refl _)

set_option maxRecDepth 100000 in
set_option maxHeartbeats 400000 in
theorem num_small (n : Int) (w : World) (h0 : 0 ≤ n) (h1 : n < 128) : Calls Try.prog 53 #[.int .i64 n] w (RetB (numB n) w) := by
  have hn : numB n = [n.toNat] := by unfold numB; rw [if_pos ⟨h0, h1⟩]
  have HN := Lib.hid hn
  clear hn
  go_enter Try.func53, Try.ntmps53
  go_wp2
  go_ret
  refine ⟨_, rfl, ?_, (Below.refl _ _).alloc (Nat.le_refl _) _⟩
  rw [HN.out]
  exact Bs.of_own (bs := [n.toNat]) (own_byte w n n.toNat (by omega))

set_option maxHeartbeats 400000 in
theorem clip_any (A : Option Addr) (n c : Nat) (w : World) (hnc : n ≤ c) :
    Calls Try.prog 80 #[.slice A n c] w fun e w' => e = .returned (.slice A n n) ∧ w = w' := by
  go_enter Try.func80, Try.ntmps80
  go_wp2
  go_ret
  exact ⟨rfl, rfl⟩

theorem not_u64 (n : Int) (h0 : n < 0) (h1 : -9223372036854775808 ≤ n) : bits .xor .u64 IntKind.u64.max (IntKind.u64.wrap n) = -1 - n := by
  have e1 : IntKind.u64.wrap n = n + 18446744073709551616 := by
    simp only [IntKind.wrap, IntKind.bits, IntKind.signed]
    simp
    omega
  have e2 : IntKind.u64.max = 18446744073709551615 := by rfl
  rw [e1, e2]
  show IntKind.u64.wrap (((BitVec.ofInt 64 18446744073709551615) ^^^ (BitVec.ofInt 64 (n + 18446744073709551616))).toNat : Int) = -1 - n
  have e3 : BitVec.ofInt 64 18446744073709551615 = BitVec.allOnes 64 := by rfl
  have e4 : (BitVec.allOnes 64 ^^^ BitVec.ofInt 64 (n + 18446744073709551616)).toNat = (-1 - n).toNat := by
    rw [BitVec.allOnes_xor, BitVec.toNat_not, BitVec.toNat_ofInt]
    omega
  rw [e3, e4]
  simp only [IntKind.wrap, IntKind.bits, IntKind.signed]
  simp
  omega

/-- What holds between two rounds of Num: k digits are written. -/
def NumRel (w : World) (H u d : Nat) (o i : Value) (wr : World) : Prop := ∃ k, k ≤ d ∧ i = .int .i64 ((d : Int) - 1 - k) ∧
  wr.ownsRow w.heap.size 5 1 o (1 + k) ((H :: digTo u k).map u8v) ∧ Below w.heap.size w wr

theorem Bs.clip {w : World} {A : Option Addr} {n c : Nat} {bs : List Nat} (h : Bs w (.slice A n c) bs) : Bs w (.slice A n n) bs := by
  obtain ⟨A', c', h1, h2, h3, h4⟩ := h
  injection h1 with e1 e2 e3
  subst e1; subst e2; subst e3
  exact ⟨A, _, rfl, Nat.le_refl _, Nat.le_trans h2 h3, h4⟩

set_option maxRecDepth 100000 in
set_option maxHeartbeats 2000000 in
theorem num_pos (n : Int) (w : World) (h0 : 128 ≤ n) (h1 : n ≤ 9223372036854775807) : Calls Try.prog 53 #[.int .i64 n] w (RetB (numB n) w) := by
  obtain ⟨i0, hi0, hz0, hz1, hz2⟩ := info_parts Try.infoByte
  have hnum : numB n = (128 + (dig (n).toNat).length) :: dig (n).toNat := by
    unfold numB
    rw [if_neg (by omega), if_pos (by omega)]
  have HNum := Lib.hid hnum
  clear hnum
  go_enter Try.func53, Try.ntmps53
  go_wp2_with fail
  refine (Try.bits_Len64 (n) w (by omega) (by omega)).mono ?_
  rintro e w' ⟨rfl, rfl⟩
  obtain ⟨u, hu⟩ : ∃ u : Nat, (n).toNat = u := ⟨_, rfl⟩
  have huz : n = (u : Int) := by omega
  rw [hu] at HNum
  rw [hu]
  obtain ⟨b, hb⟩ : ∃ b : Nat, Lib.bitLen u = b := ⟨_, rfl⟩
  have hu64 : u < 18446744073709551616 := by omega
  have hd : (b + 7) / 8 = (dig u).length := by rw [← hb]; exact dig_length u hu64
  have hd8 := dig_le u
  have hd1 : 0 ≤ (dig u).length := Nat.zero_le _
  rw [hb]
  obtain ⟨d, hdd⟩ : ∃ d, (dig u).length = d := ⟨_, rfl⟩
  rw [hdd] at hd hd8 HNum
  have hbb : b ≤ 64 := by omega
  have e5 : ((b : Int) + 8 - 1) / 8 = d := by omega
  have HB := Lib.hid hb
  have HD := Lib.hid hdd
  have HU := Lib.hid hu64
  clear hb hdd hu64 hd1
  go_wp2_with fail
  simp only [e5]
  try simp only [huz]
  clear e5 hd hbb HB huz hu h0 h1
  have i1 := own_byte w' (128 + d) (128 + d) (by omega)
  have b1 := (Below.refl w'.heap.size w').alloc (Nat.le_refl _) (.cells #[.int .u8 (128 + d)] 5)
  have I1 := Lib.hid i1
  clear i1
  go_loopw [6, 7] (fun o i wr => NumRel w' (128 + d) u d o i wr) (fun _ i _ => (intOf i + 1).toNat)
  case atStart => exact ⟨0, Nat.zero_le _, by go_num, I1.out, b1⟩
  case round =>
    obtain ⟨k, hk, rfl, ho, hb⟩ := hrel
    have HO := Lib.hid ho
    clear I1 b1 ho
    by_cases hlt : k < d
    · have hval : (u : Int) / 2 ^ (8 * (d - 1 - k)) % 256 = ((u / 256 ^ (d - 1 - k) % 256 : Nat) : Int) := by
        have e : (2 : Int) ^ (8 * (d - 1 - k)) = ((256 ^ (d - 1 - k) : Nat) : Int) := by
          rw [show (256 : Nat) = 2 ^ 8 from rfl, ← Nat.pow_mul]
          simp
        rw [e]
        rfl
      have HV := Lib.hid hval
      clear hval
      go_wp2_with (at_builtin
                   refine wpList_append_own _ rfl (.tmp 39) (.tmp 45) 31 rfl w'.heap.size 5 i0 (.int .u8 0) 1 1 Try.underlying31 hi0 hz0 hz1 hz2 rfl (by decide) u6 (1 + k) _ rfl (HO.out.alloc _) ⟨wr.heap.size, 0, none⟩ 1 1 _ rfl rfl (cell_one_new _ _ _) (by simp [Value.oneCell']) (by unfold maxLen; omega) (by omega) (by have := hb.size; simp; omega) ?_
                   intro v5 w5 hown5 hgrow5 _
                   have HO5 := Lib.hid hown5
                   have HG5 := Lib.hid hgrow5
                   clear hown5 hgrow5)
      go_roundw
      case rel =>
        have f5 : Fr w'.heap.size [5] [] wr w5 := ((Fr.refl wr).alloc _).grown HG5.out (fun j hj => by
          obtain ⟨hb, cs, hc⟩ := own_block (HO.out.alloc _) hj
          exact ⟨hb, .inr ⟨cs, _, _, hc, by simp⟩⟩)
        refine ⟨k + 1, hlt, by go_num, ?_, hb.trans (f5.below hb.size)⟩
        have ho5 := HO5.out
        rw [HV.out] at ho5
        have e := digTo_succ u k HU.out (by rw [HD.out]; exact hlt)
        rw [HD.out] at e
        rw [e, show 1 + (k + 1) = 1 + k + 1 by omega, ← List.cons_append, List.map_append]
        exact ho5
      case measure => simp [intOf]; omega
    · obtain rfl : k = d := by omega
      obtain ⟨g, c, rfl⟩ := own_pos HO.out (by omega)
      have hbs := Bs.of_own (bs := (128 + k) :: digTo u k) (by
        have := HO.out
        have hl : ((128 + k) :: digTo u k).length = 1 + k := by
          have := this.1
          simpa using this
        rw [hl]
        exact this)
      have hcap : 1 + k ≤ c := by
        obtain ⟨A', c', h1, h2, _⟩ := hbs
        injection h1 with e1 e2 e3
        omega
      have HBs := Lib.hid hbs
      clear hbs
      go_wp2_with fail
      refine (clip_any (some ⟨g, 0, none⟩) (1 + k) c wr hcap).mono ?_
      rintro e w5 ⟨rfl, rfl⟩
      go_wp2
      go_ret
      refine ⟨_, rfl, ?_, hb⟩
      have hk8 : digTo u k = dig u := by unfold digTo; rw [List.take_of_length_le (by rw [HD.out]; exact Nat.le_refl _)]
      rw [HNum.out, ← hk8]
      exact HBs.out.clip

set_option maxRecDepth 100000 in
set_option maxHeartbeats 2000000 in
theorem num_neg (n : Int) (w : World) (h0 : n < 0) (h1 : -9223372036854775808 ≤ n) : Calls Try.prog 53 #[.int .i64 n] w (RetB (numB n) w) := by
  obtain ⟨i0, hi0, hz0, hz1, hz2⟩ := info_parts Try.infoByte
  have hnum : numB n = (144 + (dig ((-1 - n)).toNat).length) :: dig ((-1 - n)).toNat := by
    unfold numB
    rw [if_neg (by omega), if_neg (by omega)]
  have HNum := Lib.hid hnum
  clear hnum
  go_enter Try.func53, Try.ntmps53
  have d0 : decide (n < 0) = true := by simpa using h0
  have d1 : decide (0 ≤ n) = false := by simp; omega
  have H0 := Lib.hid h0
  have H1 := Lib.hid h1
  clear h0 h1
  go_wp2_with fail
  have h0 := H0.out
  have h1 := H1.out
  rw [not_u64 n h0 h1]
  clear H0 H1
  refine (Try.bits_Len64 ((-1 - n)) w (by omega) (by omega)).mono ?_
  rintro e w' ⟨rfl, rfl⟩
  obtain ⟨u, hu⟩ : ∃ u : Nat, ((-1 - n)).toNat = u := ⟨_, rfl⟩
  have huz : (-1 - n) = (u : Int) := by omega
  rw [hu] at HNum
  rw [hu]
  obtain ⟨b, hb⟩ : ∃ b : Nat, Lib.bitLen u = b := ⟨_, rfl⟩
  have hu64 : u < 18446744073709551616 := by omega
  have hd : (b + 7) / 8 = (dig u).length := by rw [← hb]; exact dig_length u hu64
  have hd8 := dig_le u
  have hd1 : 0 ≤ (dig u).length := Nat.zero_le _
  rw [hb]
  obtain ⟨d, hdd⟩ : ∃ d, (dig u).length = d := ⟨_, rfl⟩
  rw [hdd] at hd hd8 HNum
  have hbb : b ≤ 64 := by omega
  have e5 : ((b : Int) + 8 - 1) / 8 = d := by omega
  have HB := Lib.hid hb
  have HD := Lib.hid hdd
  have HU := Lib.hid hu64
  clear hb hdd hu64 hd1
  go_wp2_with fail
  simp only [e5]
  try simp only [huz]
  clear e5 hd hbb HB huz hu h0 h1
  have i1 := own_byte w' (144 + d) (144 + d) (by omega)
  have b1 := (Below.refl w'.heap.size w').alloc (Nat.le_refl _) (.cells #[.int .u8 (144 + d)] 5)
  have I1 := Lib.hid i1
  clear i1
  go_loopw [6, 7] (fun o i wr => NumRel w' (144 + d) u d o i wr) (fun _ i _ => (intOf i + 1).toNat)
  case atStart => exact ⟨0, Nat.zero_le _, by go_num, I1.out, b1⟩
  case round =>
    obtain ⟨k, hk, rfl, ho, hb⟩ := hrel
    have HO := Lib.hid ho
    clear I1 b1 ho
    by_cases hlt : k < d
    · have hval : (u : Int) / 2 ^ (8 * (d - 1 - k)) % 256 = ((u / 256 ^ (d - 1 - k) % 256 : Nat) : Int) := by
        have e : (2 : Int) ^ (8 * (d - 1 - k)) = ((256 ^ (d - 1 - k) : Nat) : Int) := by
          rw [show (256 : Nat) = 2 ^ 8 from rfl, ← Nat.pow_mul]
          simp
        rw [e]
        rfl
      have HV := Lib.hid hval
      clear hval
      go_wp2_with (at_builtin
                   refine wpList_append_own _ rfl (.tmp 39) (.tmp 45) 31 rfl w'.heap.size 5 i0 (.int .u8 0) 1 1 Try.underlying31 hi0 hz0 hz1 hz2 rfl (by decide) u6 (1 + k) _ rfl (HO.out.alloc _) ⟨wr.heap.size, 0, none⟩ 1 1 _ rfl rfl (cell_one_new _ _ _) (by simp [Value.oneCell']) (by unfold maxLen; omega) (by omega) (by have := hb.size; simp; omega) ?_
                   intro v5 w5 hown5 hgrow5 _
                   have HO5 := Lib.hid hown5
                   have HG5 := Lib.hid hgrow5
                   clear hown5 hgrow5)
      go_roundw
      case rel =>
        have f5 : Fr w'.heap.size [5] [] wr w5 := ((Fr.refl wr).alloc _).grown HG5.out (fun j hj => by
          obtain ⟨hb, cs, hc⟩ := own_block (HO.out.alloc _) hj
          exact ⟨hb, .inr ⟨cs, _, _, hc, by simp⟩⟩)
        refine ⟨k + 1, hlt, by go_num, ?_, hb.trans (f5.below hb.size)⟩
        have ho5 := HO5.out
        rw [HV.out] at ho5
        have e := digTo_succ u k HU.out (by rw [HD.out]; exact hlt)
        rw [HD.out] at e
        rw [e, show 1 + (k + 1) = 1 + k + 1 by omega, ← List.cons_append, List.map_append]
        exact ho5
      case measure => simp [intOf]; omega
    · obtain rfl : k = d := by omega
      obtain ⟨g, c, rfl⟩ := own_pos HO.out (by omega)
      have hbs := Bs.of_own (bs := (144 + k) :: digTo u k) (by
        have := HO.out
        have hl : ((144 + k) :: digTo u k).length = 1 + k := by
          have := this.1
          simpa using this
        rw [hl]
        exact this)
      have hcap : 1 + k ≤ c := by
        obtain ⟨A', c', h1, h2, _⟩ := hbs
        injection h1 with e1 e2 e3
        omega
      have HBs := Lib.hid hbs
      clear hbs
      go_wp2_with fail
      refine (clip_any (some ⟨g, 0, none⟩) (1 + k) c wr hcap).mono ?_
      rintro e w5 ⟨rfl, rfl⟩
      go_wp2
      go_ret
      refine ⟨_, rfl, ?_, hb⟩
      have hk8 : digTo u k = dig u := by unfold digTo; rw [List.take_of_length_le (by rw [HD.out]; exact Nat.le_refl _)]
      rw [HNum.out, ← hk8]
      exact HBs.out.clip

theorem num_any (n : Int) (w : World) (h : I64 n) : Calls Try.prog 53 #[.int .i64 n] w (RetB (numB n) w) := by
  by_cases h0 : n < 0
  · exact num_neg n w h0 h.1
  · by_cases h1 : n < 128
    · exact num_small n w (by omega) h1
    · exact num_pos n w (by omega) h.2

end Go.Proofs.Ytpccbobomppdbaa

namespace Go.Proofs.Ytpccbobomppdbaa
open Go.RowKit

/-- The text of bytes. -/
def strOf (bs : List Nat) : ByteArray := ⟨(bs.map UInt8.ofNat).toArray⟩
theorem strOf_toList (bs : List Nat) : (strOf bs).toList = bs.map UInt8.ofNat := by
  rw [ByteArray.toList_eq]
  simp [strOf]
theorem u8_inj {a b : Nat} (ha : a < 256) (hb : b < 256) (h : UInt8.ofNat a = UInt8.ofNat b) : a = b := by
  have := congrArg UInt8.toNat h
  simp at this
  omega
theorem map_u8_inj : ∀ {a b : List Nat}, (∀ x ∈ a, x < 256) → (∀ x ∈ b, x < 256) → a.map UInt8.ofNat = b.map UInt8.ofNat → a = b
  | [], [], _, _, _ => rfl
  | [], _ :: _, _, _, h => by simp at h
  | _ :: _, [], _, _, h => by simp at h
  | x :: a, y :: b, ha, hb, h => by
    simp only [List.map_cons, List.cons.injEq] at h
    rw [u8_inj (ha x (by simp)) (hb y (by simp)) h.1, map_u8_inj (fun z hz => ha z (by simp [hz])) (fun z hz => hb z (by simp [hz])) h.2]
theorem strOf_beq {a b : List Nat} (ha : ∀ x ∈ a, x < 256) (hb : ∀ x ∈ b, x < 256) : ((strOf a).toList == (strOf b).toList) = decide (a = b) := by
  rw [strOf_toList, strOf_toList]
  by_cases h : a = b
  · subst h; simp
  · have : a.map UInt8.ofNat ≠ b.map UInt8.ofNat := fun e => h (map_u8_inj ha hb e)
    simp [h, this]

theorem run_str (w : World) (A : Option Addr) (n c : Nat) (bs : List Nat) (hr : Rd w 1 A n (bs.map u8v)) (hb : ∀ x ∈ bs, x < 256) :
    (convert 31 9 (.slice A n c)).run Try.prog w = .ok (.string (strOf bs)) w := by
  have hn : n = bs.length := by have := hr.1; simp at this; omega
  subst hn
  cases A with
  | none =>
    have h0 : bs = [] := by
      by_cases h : 0 < bs.length
      · obtain ⟨g, o, ha, _⟩ := hr.2 h
        cases ha
      · exact List.eq_nil_of_length_eq_zero (by omega)
    subst h0
    rw [run_convert_bytes_string w _ _ 5 none _ c Try.underlying31 Try.underlying5 Try.underlying9]
    rfl
  | some a =>
    have := run_convert_bytes_back (P := Try.prog) w 31 9 5 a c (bs.map UInt8.ofNat) Try.underlying31 Try.underlying5 Try.underlying9 (fun j hj => by
      have hj' : j < bs.length := by simpa using hj
      obtain ⟨g, o, ha, _, hc⟩ := hr.2 (by omega)
      cases ha
      have e : (⟨g, o, none⟩ : Addr).add j = ⟨g, o + j, none⟩ := by unfold Addr.add; split <;> simp_all
      rw [e, hc j (u8v bs[j]) (by simp [hj'])]
      have := hb bs[j] (List.getElem_mem hj')
      simp [u8v]
      omega)
    simpa [strOf] using this

end Go.Proofs.Ytpccbobomppdbaa
