/- Joined: The contracts of cells.Maker's calls that put a cell, and of Done. The contract of cells.First: the number with whose cell bytes begin. The contract of cells.First, whole: the number with whose cell any bytes begin. -/
import Derived.Test.YtpccbobomppdbaaZR14
import Derived.Test.YtpccbobomppdbaaZR3
import Derived.Test.YtpccbobomppdbaaZR1
import Derived.Test.YtpccbobomppdbaaZR5
import Derived.BigRegion
import Derived.OwnWalk
import Derived.Deep.RegionWith
import Derived.IntWalk
namespace Go.Proofs.Ytpccbobomppdbaa
open Go.RowKit

/-- '[]byte(s)': the text's bytes in new memory. -/
theorem str_bytes (w : World) (t : ByteArray) (ht : t.size ≤ maxLen) : ∃ c W, (convert 9 31 (.string t)).run Try.prog w = .ok (.slice (some ⟨w.heap.size, 0, none⟩) t.size c) W ∧
    Bs W (.slice (some ⟨w.heap.size, 0, none⟩) t.size c) (natsOf t) ∧ Below w.heap.size w W ∧ W.heap.size = w.heap.size + 1 := by
  refine ⟨_, _, run_bytes_of_string w 9 31 5 t Try.underlying9 Try.underlying31 Try.underlying5, ?_, (Below.refl w.heap.size w).drew.alloc (Nat.le_refl _) _, by simp⟩
  have hl := natsOf_length t
  refine ⟨_, _, by rw [hl], by rw [hl]; exact grownCap_ge w _ _ _, grownCap_le_maxLen w _ _ _ ht, by simp, fun hn => ⟨_, _, rfl, by simp, fun j u hu => ?_⟩⟩
  refine (cell_at (k := w.heap.size) (block_new w.drew _) (0 + j)).trans ?_
  rw [Nat.zero_add]
  have hj : j < t.size := by
    have := (List.getElem?_eq_some_iff.1 hu).1
    simpa [hl] using this
  unfold bytesRow
  rw [Array.getElem?_append_left (by simpa using hj)]
  simp only [natsOf, List.map_map, List.getElem?_map] at hu
  rw [Array.getElem?_map, ← hu]
  simp
  rfl

theorem Bss.one {w : World} {T : TypeId} {v : Value} {bs : List Nat} (h : Bs w v bs) : Bss (w.alloc (.cells #[v] T)) (.slice (some ⟨w.heap.size, 0, none⟩) 1 1) [bs] :=
  ⟨_, _, [v], rfl, Nat.le_refl _, by unfold maxLen; omega, ⟨rfl, fun _ => ⟨_, _, rfl, by simp, fun j u hu => by
    have hj : j = 0 := by
      have := (List.getElem?_eq_some_iff.1 hu).1
      simp at this; omega
    subst hj
    simp at hu
    subst hu
    rw [cell_at (block_new _ _)]; rfl⟩⟩, fun j hj u hu => by
    have hj : j = 0 := by simp at hj; omega
    subst hj
    simp at hu
    subst hu
    exact h.below ((Below.refl _ _).alloc (Nat.le_refl _) _)⟩
theorem Bss.two {w : World} {T : TypeId} {v v' : Value} {bs bs' : List Nat} (h : Bs w v bs) (h' : Bs w v' bs') : Bss (w.alloc (.cells #[v, v'] T)) (.slice (some ⟨w.heap.size, 0, none⟩) 2 2) [bs, bs'] :=
  ⟨_, _, [v, v'], rfl, Nat.le_refl _, by unfold maxLen; simp, ⟨rfl, fun _ => ⟨_, _, rfl, by simp, fun j u hu => by
    rw [cell_at (block_new _ _), Nat.zero_add]
    simpa using hu⟩⟩, fun j hj u hu => by
    have b : Below w.heap.size w (w.alloc (.cells #[v, v'] T)) := (Below.refl _ _).alloc (Nat.le_refl _) _
    match j, hj, hu with
    | 0, _, hu => simp at hu; subst hu; exact h.below b
    | 1, _, hu => simp at hu; subst hu; exact h'.below b⟩

set_option maxHeartbeats 400000 in
theorem mnum_nil (n : Int) (w : World) (hn : I64 n) : Calls Try.prog 20 #[.pointer none, .int .i64 n] w fun e w' => e = .returned (.pointer none) ∧ Below w.heap.size w w' := by
  go_enter Try.func20, Try.ntmps20
  go_wp2_with fail
  refine (num_any n _ hn).mono ?_
  rintro e w1 ⟨v, rfl, ⟨A, c, rfl, _, _, _⟩, hb⟩
  go_wp2_with fail
  refine (put_nil _ _).mono ?_
  rintro e w2 ⟨rfl, rfl⟩
  go_wp2
  go_ret
  exact ⟨rfl, hb.alloc hb.size _⟩

set_option maxHeartbeats 400000 in
theorem mnum_any (p : Nat) (G : Option Nat) (s : List Nat × Bool) (n : Int) (w : World) (hM : IsM w p G s) (hn : I64 n) :
    Calls Try.prog 20 #[.pointer (some ⟨p, 0, none⟩), .int .i64 n] w (RetM p G (putS s (numB n)) w) := by
  have HM := Lib.hid hM
  have hlen := (numB_length n).2
  clear hM
  go_enter Try.func20, Try.ntmps20
  go_wp2_with fail
  refine (num_any n _ hn).mono ?_
  rintro e w1 ⟨v, rfl, hv, hb⟩
  have HV := Lib.hid hv
  obtain ⟨A, c, rfl, _, _, _⟩ := hv
  go_wp2_with fail
  have hb2 := hb.alloc hb.size (.cells #[.slice A (numB n).length c] 31)
  refine (put_any p G s _ [numB n] _ (HM.out.below hb2) (Bss.one HV.out) (by simp; omega)).mono ?_
  rintro e w2 ⟨G', rfl, hM2, hf, hG⟩
  have HM2 := Lib.hid hM2
  have HF := Lib.hid hf
  have HG := Lib.hid hG
  have HB2 := Lib.hid hb2
  clear hM2 hf hG hb hb2
  go_wp2
  go_ret
  refine ⟨G', rfl, by simpa using HM2.out, (Fr.of_below HB2.out).trans HF.out, ?_⟩
  rcases HG.out with h | ⟨g, h, hg⟩
  · exact .inl h
  · exact .inr ⟨g, h, Nat.le_trans HB2.out.size hg⟩

/-- What Done hands back. -/
def RetD (s : List Nat × Bool) (w : World) (e : Ending) (w' : World) : Prop :=
  ∃ v, e = .returned (.tuple #[v, .int .i64 (if s.2 then 3 else 0)]) ∧ w'.ownsRow w.heap.size 5 1 v (if s.2 then 0 else s.1.length) (if s.2 then [] else s.1.map u8v) ∧ Below w.heap.size w w'

set_option maxHeartbeats 400000 in
theorem mdone_nil (w : World) : Calls Try.prog 24 #[.pointer none] w fun e w' => e = .returned (.tuple #[.slice none 0 0, .int .i64 6]) ∧ w = w' := by
  go_enter Try.func24, Try.ntmps24
  go_wp2
  go_ret2
  exact ⟨rfl, rfl⟩

set_option maxRecDepth 100000 in
set_option maxHeartbeats 400000 in
theorem mdone_any (p : Nat) (G : Option Nat) (s : List Nat × Bool) (w : World) (hM : IsM w p G s) (hl : s.1.length ≤ 262144) :
    Calls Try.prog 24 #[.pointer (some ⟨p, 0, none⟩)] w (RetD s w) := by
  obtain ⟨bs, lg⟩ := s
  obtain ⟨vm, hp, ho, rfl⟩ := hM
  simp only at hp ho hl
  cases lg with
  | true =>
    have c0 := cell_at hp 0
    have c1 : w.cell? ⟨p, 1, none⟩ = some (.bool true) := cell_at hp 1
    clear hp ho c0
    go_enter Try.func24, Try.ntmps24
    go_wp2
    go_ret2
    exact ⟨_, rfl, World.ownsRow_nil _ _ _ _, Below.refl _ _⟩
  | false =>
    obtain ⟨A, c, rfl, hnc, hcm, _, _⟩ := own_slice ho
    have hbs := Lib.hid (Bs.own_n ho)
    have c0 : w.cell? ⟨p, 0, none⟩ = some (.slice A bs.length c) := cell_at hp 0
    have c1 : w.cell? ⟨p, 1, none⟩ = some (.bool false) := cell_at hp 1
    clear hp ho
    go_enter Try.func24, Try.ntmps24
    go_wp2_with fail
    refine (clone_any _ bs _ hbs.out (by omega)).mono ?_
    rintro e w1 ⟨v, rfl, ho1, hb1⟩
    have HO1 := Lib.hid ho1
    clear ho1
    go_wp2
    go_ret2
    exact ⟨_, rfl, HO1.out, hb1⟩

end Go.Proofs.Ytpccbobomppdbaa

namespace Go.Proofs.Ytpccbobomppdbaa
open Go.RowKit

/-- What First tells. -/
def fstV (bs : List Nat) : Value := match firstN bs with | some (n, k) => .tuple #[.int .i64 n, .int .i64 k, .int .i64 0] | none => .tuple #[.int .i64 0, .int .i64 0, .int .i64 10]
theorem fstV_some {bs : List Nat} {n : Int} {k : Nat} (h : firstN bs = some (n, k)) : fstV bs = .tuple #[.int .i64 n, .int .i64 k, .int .i64 0] := by unfold fstV; rw [h]
theorem fstV_none {bs : List Nat} (h : firstN bs = none) : fstV bs = .tuple #[.int .i64 0, .int .i64 0, .int .i64 10] := by unfold fstV; rw [h]

theorem or_byte (x c : Nat) (hx : x < 72057594037927936) (hc : c < 256) : bits .or .u64 (((x * 256 : Nat) : Int)) (c : Int) = ((x * 256 + c : Nat) : Int) := by
  show IntKind.u64.wrap (((BitVec.ofInt 64 ((x * 256 : Nat) : Int)) ||| (BitVec.ofInt 64 (c : Int))).toNat : Int) = _
  have e : (BitVec.ofInt 64 ((x * 256 : Nat) : Int) ||| BitVec.ofInt 64 (c : Int)).toNat = x * 256 + c := by
    rw [BitVec.toNat_or, BitVec.toNat_ofInt, BitVec.toNat_ofInt]
    have e1 : (((x * 256 : Nat) : Int) % ((2 ^ 64 : Nat) : Int)).toNat = x <<< 8 := by
      rw [Nat.shiftLeft_eq]
      omega
    have e2 : ((c : Int) % ((2 ^ 64 : Nat) : Int)).toNat = c := by omega
    rw [e1, e2, ← Nat.shiftLeft_add_eq_or_of_lt (by omega), Nat.shiftLeft_eq]
  rw [e]
  simp only [IntKind.wrap, IntKind.bits, IntKind.signed]
  simp
  omega
theorem xor_zero (x : Nat) (hx : x < 18446744073709551616) : bits .xor .u64 (x : Int) 0 = x := by
  show IntKind.u64.wrap (((BitVec.ofInt 64 (x : Int)) ^^^ (BitVec.ofInt 64 0)).toNat : Int) = x
  have e : (BitVec.ofInt 64 (x : Int) ^^^ BitVec.ofInt 64 0).toNat = x := by
    rw [BitVec.toNat_xor, BitVec.toNat_ofInt, BitVec.toNat_ofInt]
    simp
    omega
  rw [e]
  simp only [IntKind.wrap, IntKind.bits, IntKind.signed]
  simp
  omega
theorem xor_ones (x : Nat) (hx : x < 18446744073709551616) : bits .xor .u64 (x : Int) 18446744073709551615 = 18446744073709551615 - x := by
  show IntKind.u64.wrap (((BitVec.ofInt 64 (x : Int)) ^^^ (BitVec.ofInt 64 18446744073709551615)).toNat : Int) = _
  have e3 : BitVec.ofInt 64 18446744073709551615 = BitVec.allOnes 64 := by rfl
  have e : (BitVec.ofInt 64 (x : Int) ^^^ BitVec.allOnes 64).toNat = (18446744073709551615 - (x : Int)).toNat := by
    rw [BitVec.xor_allOnes, BitVec.toNat_not, BitVec.toNat_ofInt]
    omega
  rw [e3, e]
  simp only [IntKind.wrap, IntKind.bits, IntKind.signed]
  simp
  omega

/-- What holds between two rounds of First. -/
def FstRel (t : List Nat) (z : Nat) (u i : Value) : Prop := ∃ k : Nat, k ≤ z ∧ i = .int .i64 k ∧ u = .int .u64 (val (t.take k) : Nat)

theorem numB_head (n : Int) : (0 ≤ n → n < 128 → numB n = [n.toNat]) ∧ (128 ≤ n → numB n = (128 + (dig n.toNat).length) :: dig n.toNat) ∧ (n < 0 → numB n = (144 + (dig (-1 - n).toNat).length) :: dig (-1 - n).toNat) := by
  unfold numB
  refine ⟨fun h1 h2 => by rw [if_pos ⟨h1, h2⟩], fun h => by rw [if_neg (by omega), if_pos (by omega)], fun h => by rw [if_neg (by omega), if_neg (by omega)]⟩
/-- What First makes of the bytes, compared: the two ways of going wrong are one. -/
theorem first_cmp (h k x : Nat) (t : List Nat) (N : Int) (hk : k ≤ 8) (hh : h = 128 + k ∨ h = 144 + k) (hkt : k ≤ t.length) (hx : x = val (t.take k)) (hx64 : x < 18446744073709551616)
    (hN : (x < 9223372036854775808 → N = numH h x) ∧ (9223372036854775808 ≤ x → (h = 128 + k → N < 0) ∧ (h = 144 + k → 0 ≤ N))) :
    firstN (h :: t) = if numB N = (h :: t).take (1 + k) then some (N, 1 + k) else none := by
  have hs : sizeH h = k := by unfold sizeH; rcases hh with rfl | rfl <;> split <;> omega
  rw [firstN, if_neg (by omega), hs, if_neg (by omega), ← hx]
  by_cases hlt : x < 9223372036854775808
  · rw [hN.1 hlt]
    simp only [hlt, true_and]
  · have hge := hN.2 (by omega)
    rw [if_neg (fun hc => hlt hc.1), if_neg]
    rw [Nat.add_comm 1 k, List.take_succ_cons]
    intro e
    rcases hh with rfl | rfl
    · rw [(numB_head N).2.2 (hge.1 rfl)] at e
      injection e with e _
      omega
    · by_cases hc : N < 128
      · rw [(numB_head N).1 (hge.2 rfl) hc] at e
        injection e with e _
        omega
      · rw [(numB_head N).2.1 (by omega)] at e
        injection e with e _
        have := dig_le N.toNat
        omega

set_option maxRecDepth 100000 in
set_option maxHeartbeats 400000 in
theorem first_nil (A : Option Addr) (c : Nat) (w : World) : Calls Try.prog 70 #[.slice A 0 c] w fun e w' => e = .returned (fstV []) ∧ Below w.heap.size w w' := by
  have HV := Lib.hid (fstV_none (bs := []) rfl)
  go_enter Try.func70, Try.ntmps70
  go_wp2
  go_ret3
  rw [HV.out]
  exact ⟨rfl, Below.refl _ _⟩

set_option maxRecDepth 100000 in
set_option maxHeartbeats 400000 in
theorem first_small (g o c : Nat) (w : World) (h : Nat) (t : List Nat) (n : Nat) (hn : 0 < n) (hc : w.cell? ⟨g, o, none⟩ = some (.int .u8 h)) (hh : h < 128) : Calls Try.prog 70 #[.slice (some ⟨g, o, none⟩) n c] w fun e w' => e = .returned (fstV (h :: t)) ∧ Below w.heap.size w w' := by
  have HV := Lib.hid (fstV_some (bs := h :: t) (n := h) (k := 1) (by rw [firstN, if_pos hh]))
  go_enter Try.func70, Try.ntmps70
  go_wp2
  go_ret3
  rw [HV.out]
  exact ⟨rfl, Below.refl _ _⟩

set_option maxRecDepth 100000 in
set_option maxHeartbeats 1000000 in
theorem first_badP (g o c : Nat) (w : World) (z : Nat) (t : List Nat) (n : Nat) (hn : n = 1 + t.length) (hnm : n ≤ 9223372036854775807) (hc : w.cell? ⟨g, o, none⟩ = some (.int .u8 ((128 + z : Nat) : Int))) (hz15 : z < 16) (hz : 8 < z ∨ t.length < z) :
    Calls Try.prog 70 #[.slice (some ⟨g, o, none⟩) n c] w fun e w' => e = .returned (fstV ((128 + z) :: t)) ∧ Below w.heap.size w w' := by
  have hs : sizeH (128 + z) = z := by unfold sizeH; split <;> omega
  have HV := Lib.hid (fstV_none (bs := (128 + z) :: t) (by rw [firstN, if_neg (by omega), hs, if_pos hz]))
  clear hs
  have hz' : z ≤ 112 := by omega
  by_cases hz8 : 8 < z
  · clear hz
    go_enter Try.func70, Try.ntmps70
    go_wp2
    go_ret3
    rw [HV.out]
    exact ⟨rfl, Below.refl _ _⟩
  · have hz2 : n ≤ z := by omega
    clear hz
    go_enter Try.func70, Try.ntmps70
    go_wp2
    go_ret3
    rw [HV.out]
    exact ⟨rfl, Below.refl _ _⟩

set_option maxRecDepth 100000 in
set_option maxHeartbeats 1000000 in
theorem first_badN (g o c : Nat) (w : World) (z : Nat) (t : List Nat) (n : Nat) (hn : n = 1 + t.length) (hnm : n ≤ 9223372036854775807) (hc : w.cell? ⟨g, o, none⟩ = some (.int .u8 ((144 + z : Nat) : Int))) (hz15 : z < 112) (hz : 8 < z ∨ t.length < z) :
    Calls Try.prog 70 #[.slice (some ⟨g, o, none⟩) n c] w fun e w' => e = .returned (fstV ((144 + z) :: t)) ∧ Below w.heap.size w w' := by
  have hs : sizeH (144 + z) = z := by unfold sizeH; split <;> omega
  have HV := Lib.hid (fstV_none (bs := (144 + z) :: t) (by rw [firstN, if_neg (by omega), hs, if_pos hz]))
  clear hs
  have hz' : z ≤ 112 := by omega
  by_cases hz8 : 8 < z
  · clear hz
    go_enter Try.func70, Try.ntmps70
    go_wp2
    go_ret3
    rw [HV.out]
    exact ⟨rfl, Below.refl _ _⟩
  · have hz2 : n ≤ z := by omega
    clear hz
    go_enter Try.func70, Try.ntmps70
    go_wp2
    go_ret3
    rw [HV.out]
    exact ⟨rfl, Below.refl _ _⟩

set_option maxRecDepth 100000 in
set_option maxHeartbeats 1000000 in
theorem first_goodP (g o c : Nat) (w : World) (z : Nat) (t : List Nat) (n : Nat) (hn : n = 1 + t.length) (hnc : n ≤ c) (hnm : c ≤ 9223372036854775807) (hr : Rd w 1 (some ⟨g, o, none⟩) n (((128 + z) :: t).map u8v)) (hb : ∀ b ∈ (128 + z) :: t, b < 256) (hc1 : 1 < c) (hz8 : z ≤ 8) (hz : z ≤ t.length) :
    Calls Try.prog 70 #[.slice (some ⟨g, o, none⟩) n c] w fun e w' => e = .returned (fstV ((128 + z) :: t)) ∧ Below w.heap.size w w' := by
  have hs : sizeH (128 + z) = z := by unfold sizeH; split <;> omega
  have hcell : ∀ (j : Nat) (hj : j < t.length), w.cell? ⟨g, o + 1 + j, none⟩ = some (.int .u8 (t[j] : Int)) := by
    obtain ⟨g', o', ha, _, hcc⟩ := hr.2 (by omega)
    cases ha
    intro j hj
    have := hcc (1 + j) (u8v t[j]) (by simp [Nat.add_comm 1 j, hj])
    rw [← Nat.add_assoc] at this
    exact this
  have hc : w.cell? ⟨g, o, none⟩ = some (.int .u8 ((128 + z : Nat) : Int)) := by
    obtain ⟨g', o', ha, _, hcc⟩ := hr.2 (by omega)
    cases ha
    exact hcc 0 (u8v (128 + z)) (by simp)
  have HCell := Lib.hid hcell
  have HR := Lib.hid hr
  have HB := Lib.hid hb
  have HS := Lib.hid hs
  clear hr hb hs hcell
  go_enter Try.func70, Try.ntmps70
  go_wp2_with fail
  have ez : (128 + (z : Int) - 128) = z := by omega
  simp only [ez]
  clear ez
  go_loopw [8, 10, 41] (fun u _ i wr => FstRel t z u i ∧ wr = w) (fun _ _ i _ => (z - (intOf i).toNat))
  case atStart => exact ⟨⟨0, Nat.zero_le _, rfl, rfl⟩, rfl⟩
  case round =>
    obtain ⟨⟨k, hk, rfl, rfl⟩, rfl⟩ := hrel
    by_cases hlt : k < z
    · have hk1 := HCell.out k (by omega)
      have hu : val (t.take k) < 72057594037927936 := by
        have h1 := val_lt (t.take k) (fun b hb => HB.out b (List.mem_cons_of_mem _ (List.mem_of_mem_take hb)))
        have h2 : (t.take k).length ≤ 7 := by rw [List.length_take]; omega
        have h3 : 256 ^ (t.take k).length ≤ 256 ^ 7 := Nat.pow_le_pow_right (by omega) h2
        have h4 : (256 : Nat) ^ 7 = 72057594037927936 := by rfl
        omega
      have hlk : k < t.length := by omega
      have htk : t[k] < 256 := HB.out _ (List.mem_cons_of_mem _ (List.getElem_mem hlk))
      have hval : val (t.take (k + 1)) = val (t.take k) * 256 + t[k] := by rw [List.take_succ_eq_append_getElem hlk, val_snoc]
      have HVal := Lib.hid hval
      obtain ⟨x, hx⟩ : ∃ x, val (t.take k) = x := ⟨_, rfl⟩
      obtain ⟨b, hbk⟩ : ∃ b, t[k] = b := ⟨_, rfl⟩
      rw [hx] at hu HVal
      rw [hbk] at htk hk1 HVal
      have hor := or_byte x b hu htk
      simp only [hx]
      clear hx hbk hval
      go_wp2_with fail
      go_roundw
      case rel =>
        refine ⟨⟨k + 1, hlt, by go_num, ?_⟩, trivial⟩
        rw [HVal.out, ← hor]
        simp
      case measure => simp [intOf]; omega
    · obtain rfl : k = z := by omega
      have hx64 : val (t.take k) < 18446744073709551616 := by
        have h1 := val_lt (t.take k) (fun b hb => HB.out b (List.mem_cons_of_mem _ (List.mem_of_mem_take hb)))
        have h2 : (t.take k).length ≤ 8 := by rw [List.length_take]; omega
        have h3 : 256 ^ (t.take k).length ≤ 256 ^ 8 := Nat.pow_le_pow_right (by omega) h2
        have h4 : (256 : Nat) ^ 8 = 18446744073709551616 := by rfl
        omega
      obtain ⟨x, hx⟩ : ∃ x, val (t.take k) = x := ⟨_, rfl⟩
      rw [hx] at hx64
      have hxor := xor_zero x hx64
      obtain ⟨N, hNd⟩ : ∃ N, wrap64 (bits .xor .u64 (x : Int) 0) = N := ⟨_, rfl⟩
      have hN : I64 N ∧ (x < 9223372036854775808 → N = numH (128 + k) x) ∧ (9223372036854775808 ≤ x → ((128 + k) = 128 + k → N < 0) ∧ ((128 + k) = 144 + k → 0 ≤ N)) := by
        rw [hxor] at hNd
        unfold I64 numH
        unfold wrap64 at hNd
        split <;> omega
      have hcmp := first_cmp (128 + k) k x t N hz8 (by omega) hz hx.symm hx64 hN.2
      have hr1 : Rd wr 1 (some ⟨g, o, none⟩) (1 + k) ((((128 + k) :: t).take (1 + k)).map u8v) := by
        have := HR.out.take (k := 1 + k) (by omega)
        simpa [List.map_take] using this
      have hbt : ∀ b ∈ ((128 + k) :: t).take (1 + k), b < 256 := fun b hb => HB.out b (List.mem_of_mem_take hb)
      have hs0 := run_str wr.drew (some ⟨g, o, none⟩) (1 + k) c _ hr1 hbt
      have HI := Lib.hid hN.1
      have HCmp := Lib.hid hcmp
      have hr1d : Rd wr.drew 1 (some ⟨g, o, none⟩) (1 + k) ((((128 + k) :: t).take (1 + k)).map u8v) := hr1
      have HR1 := Lib.hid hr1d
      have HBT := Lib.hid hbt
      have s1 : IntKind.i64.wrap (1 + (k : Int)) = 1 + k := IntWalk.i64_in _ (by omega)
      have s2 : (1 + (k : Int)).toNat = 1 + k := by omega
      clear hxor hN hcmp hr1 hr1d hbt
      go_wp2_with fail
      simp only [hx, hNd]
      go_region_with (go_at_call 53; refine (num_any N _ HI.out).mono ?_; rintro e w5 ⟨v, rfl, ⟨A5, c5, rfl, hl5, hm5, hr5⟩, hb5⟩; have hs5 := run_str w5 A5 _ c5 (numB N) hr5 (numB_lt N); have hs6 := run_str w5 (some ⟨g, o, none⟩) (1 + k) c _ (HR1.out.below hb5) HBT.out; clear hl5 hm5 hr5)
      all_goals rw [strOf_beq (numB_lt N) HBT.out]
      all_goals
        by_cases hEq : numB N = ((128 + k) :: t).take (1 + k)
        · have hd : decide (numB N = ((128 + k) :: t).take (1 + k)) = true := by simpa using hEq
          rw [hd]
          have HVal := Lib.hid (fstV_some (HCmp.out.trans (if_pos hEq)))
          have HB5 := Lib.hid ((Below.refl wr.heap.size wr).drew.trans hb5)
          clear hd hEq hs0 hs5 hs6 hb5 hNd
          go_wp2
          go_ret3
          rw [HVal.out]
          exact ⟨by simp, HB5.out⟩
        · have hd : decide (numB N = ((128 + k) :: t).take (1 + k)) = false := by simpa using hEq
          rw [hd]
          have HVal := Lib.hid (fstV_none (HCmp.out.trans (if_neg hEq)))
          have HB5 := Lib.hid ((Below.refl wr.heap.size wr).drew.trans hb5)
          clear hd hEq hs0 hs5 hs6 hb5 hNd
          go_wp2
          go_ret3
          rw [HVal.out]
          exact ⟨rfl, HB5.out⟩

set_option maxRecDepth 100000 in
set_option maxHeartbeats 1000000 in
theorem first_goodN (g o c : Nat) (w : World) (z : Nat) (t : List Nat) (n : Nat) (hn : n = 1 + t.length) (hnc : n ≤ c) (hnm : c ≤ 9223372036854775807) (hr : Rd w 1 (some ⟨g, o, none⟩) n (((144 + z) :: t).map u8v)) (hb : ∀ b ∈ (144 + z) :: t, b < 256) (hc1 : 1 < c) (hz8 : z ≤ 8) (hz : z ≤ t.length) :
    Calls Try.prog 70 #[.slice (some ⟨g, o, none⟩) n c] w fun e w' => e = .returned (fstV ((144 + z) :: t)) ∧ Below w.heap.size w w' := by
  have hs : sizeH (144 + z) = z := by unfold sizeH; split <;> omega
  have hcell : ∀ (j : Nat) (hj : j < t.length), w.cell? ⟨g, o + 1 + j, none⟩ = some (.int .u8 (t[j] : Int)) := by
    obtain ⟨g', o', ha, _, hcc⟩ := hr.2 (by omega)
    cases ha
    intro j hj
    have := hcc (1 + j) (u8v t[j]) (by simp [Nat.add_comm 1 j, hj])
    rw [← Nat.add_assoc] at this
    exact this
  have hc : w.cell? ⟨g, o, none⟩ = some (.int .u8 ((144 + z : Nat) : Int)) := by
    obtain ⟨g', o', ha, _, hcc⟩ := hr.2 (by omega)
    cases ha
    exact hcc 0 (u8v (144 + z)) (by simp)
  have HCell := Lib.hid hcell
  have HR := Lib.hid hr
  have HB := Lib.hid hb
  have HS := Lib.hid hs
  clear hr hb hs hcell
  go_enter Try.func70, Try.ntmps70
  go_wp2_with fail
  have ez : (144 + (z : Int) - 144) = z := by omega
  simp only [ez]
  clear ez
  go_loopw [8, 10, 41] (fun u _ i wr => FstRel t z u i ∧ wr = w) (fun _ _ i _ => (z - (intOf i).toNat))
  case atStart => exact ⟨⟨0, Nat.zero_le _, rfl, rfl⟩, rfl⟩
  case round =>
    obtain ⟨⟨k, hk, rfl, rfl⟩, rfl⟩ := hrel
    by_cases hlt : k < z
    · have hk1 := HCell.out k (by omega)
      have hu : val (t.take k) < 72057594037927936 := by
        have h1 := val_lt (t.take k) (fun b hb => HB.out b (List.mem_cons_of_mem _ (List.mem_of_mem_take hb)))
        have h2 : (t.take k).length ≤ 7 := by rw [List.length_take]; omega
        have h3 : 256 ^ (t.take k).length ≤ 256 ^ 7 := Nat.pow_le_pow_right (by omega) h2
        have h4 : (256 : Nat) ^ 7 = 72057594037927936 := by rfl
        omega
      have hlk : k < t.length := by omega
      have htk : t[k] < 256 := HB.out _ (List.mem_cons_of_mem _ (List.getElem_mem hlk))
      have hval : val (t.take (k + 1)) = val (t.take k) * 256 + t[k] := by rw [List.take_succ_eq_append_getElem hlk, val_snoc]
      have HVal := Lib.hid hval
      obtain ⟨x, hx⟩ : ∃ x, val (t.take k) = x := ⟨_, rfl⟩
      obtain ⟨b, hbk⟩ : ∃ b, t[k] = b := ⟨_, rfl⟩
      rw [hx] at hu HVal
      rw [hbk] at htk hk1 HVal
      have hor := or_byte x b hu htk
      simp only [hx]
      clear hx hbk hval
      go_wp2_with fail
      go_roundw
      case rel =>
        refine ⟨⟨k + 1, hlt, by go_num, ?_⟩, trivial⟩
        rw [HVal.out, ← hor]
        simp
      case measure => simp [intOf]; omega
    · obtain rfl : k = z := by omega
      have hx64 : val (t.take k) < 18446744073709551616 := by
        have h1 := val_lt (t.take k) (fun b hb => HB.out b (List.mem_cons_of_mem _ (List.mem_of_mem_take hb)))
        have h2 : (t.take k).length ≤ 8 := by rw [List.length_take]; omega
        have h3 : 256 ^ (t.take k).length ≤ 256 ^ 8 := Nat.pow_le_pow_right (by omega) h2
        have h4 : (256 : Nat) ^ 8 = 18446744073709551616 := by rfl
        omega
      obtain ⟨x, hx⟩ : ∃ x, val (t.take k) = x := ⟨_, rfl⟩
      rw [hx] at hx64
      have hxor := xor_ones x hx64
      obtain ⟨N, hNd⟩ : ∃ N, wrap64 (bits .xor .u64 (x : Int) 18446744073709551615) = N := ⟨_, rfl⟩
      have hN : I64 N ∧ (x < 9223372036854775808 → N = numH (144 + k) x) ∧ (9223372036854775808 ≤ x → ((144 + k) = 128 + k → N < 0) ∧ ((144 + k) = 144 + k → 0 ≤ N)) := by
        rw [hxor] at hNd
        unfold I64 numH
        unfold wrap64 at hNd
        split <;> omega
      have hcmp := first_cmp (144 + k) k x t N hz8 (by omega) hz hx.symm hx64 hN.2
      have hr1 : Rd wr 1 (some ⟨g, o, none⟩) (1 + k) ((((144 + k) :: t).take (1 + k)).map u8v) := by
        have := HR.out.take (k := 1 + k) (by omega)
        simpa [List.map_take] using this
      have hbt : ∀ b ∈ ((144 + k) :: t).take (1 + k), b < 256 := fun b hb => HB.out b (List.mem_of_mem_take hb)
      have hs0 := run_str wr.drew (some ⟨g, o, none⟩) (1 + k) c _ hr1 hbt
      have HI := Lib.hid hN.1
      have HCmp := Lib.hid hcmp
      have hr1d : Rd wr.drew 1 (some ⟨g, o, none⟩) (1 + k) ((((144 + k) :: t).take (1 + k)).map u8v) := hr1
      have HR1 := Lib.hid hr1d
      have HBT := Lib.hid hbt
      have s1 : IntKind.i64.wrap (1 + (k : Int)) = 1 + k := IntWalk.i64_in _ (by omega)
      have s2 : (1 + (k : Int)).toNat = 1 + k := by omega
      clear hxor hN hcmp hr1 hr1d hbt
      go_wp2_with fail
      simp only [hx, hNd]
      go_region_with (go_at_call 53; refine (num_any N _ HI.out).mono ?_; rintro e w5 ⟨v, rfl, ⟨A5, c5, rfl, hl5, hm5, hr5⟩, hb5⟩; have hs5 := run_str w5 A5 _ c5 (numB N) hr5 (numB_lt N); have hs6 := run_str w5 (some ⟨g, o, none⟩) (1 + k) c _ (HR1.out.below hb5) HBT.out; clear hl5 hm5 hr5)
      all_goals rw [strOf_beq (numB_lt N) HBT.out]
      all_goals
        by_cases hEq : numB N = ((144 + k) :: t).take (1 + k)
        · have hd : decide (numB N = ((144 + k) :: t).take (1 + k)) = true := by simpa using hEq
          rw [hd]
          have HVal := Lib.hid (fstV_some (HCmp.out.trans (if_pos hEq)))
          have HB5 := Lib.hid ((Below.refl wr.heap.size wr).drew.trans hb5)
          clear hd hEq hs0 hs5 hs6 hb5 hNd
          go_wp2
          go_ret3
          rw [HVal.out]
          exact ⟨by simp, HB5.out⟩
        · have hd : decide (numB N = ((144 + k) :: t).take (1 + k)) = false := by simpa using hEq
          rw [hd]
          have HVal := Lib.hid (fstV_none (HCmp.out.trans (if_neg hEq)))
          have HB5 := Lib.hid ((Below.refl wr.heap.size wr).drew.trans hb5)
          clear hd hEq hs0 hs5 hs6 hb5 hNd
          go_wp2
          go_ret3
          rw [HVal.out]
          exact ⟨rfl, HB5.out⟩

end Go.Proofs.Ytpccbobomppdbaa

namespace Go.Proofs.Ytpccbobomppdbaa
open Go.RowKit

set_option maxRecDepth 100000 in
set_option maxHeartbeats 1000000 in
theorem first_oneP (g o : Nat) (w : World) (hr : Rd w 1 (some ⟨g, o, none⟩) 1 ([128].map u8v)) :
    Calls Try.prog 70 #[.slice (some ⟨g, o, none⟩) 1 1] w fun e w' => e = .returned (.tuple #[.int .i64 0, .int .i64 0, .int .i64 10]) ∧ Below w.heap.size w w' := by
  have hc : w.cell? ⟨g, o, none⟩ = some (.int .u8 128) := by
    obtain ⟨g', o', ha, _, hcc⟩ := hr.2 (by omega)
    cases ha
    exact hcc 0 (u8v 128) (by simp)
  have HR := Lib.hid hr
  clear hr
  go_enter Try.func70, Try.ntmps70
  go_wp2_with fail
  go_loopw [8, 10, 41] (fun u _ i wr => u = .int .u64 0 ∧ i = .int .i64 0 ∧ wr = w) (fun _ _ _ _ => 0)
  case atStart => exact ⟨rfl, rfl, rfl⟩
  case round =>
    obtain ⟨rfl, rfl, rfl⟩ := hrel
    have hxor : wrap64 (bits .xor .u64 0 0) = 0 := by decide +kernel
    have hr1d : Rd wr.drew 1 (some ⟨g, o, none⟩) 1 ([128].map u8v) := HR.out
    have hs0 := run_str wr.drew (some ⟨g, o, none⟩) 1 1 _ hr1d (by simp)
    have HR1 := Lib.hid hr1d
    clear hr1d
    go_wp2_with fail
    simp only [hxor]
    go_region_with (go_at_call 53; refine (num_any 0 _ (by unfold I64; omega)).mono ?_; rintro e w5 ⟨v, rfl, ⟨A5, c5, rfl, hl5, hm5, hr5⟩, hb5⟩; have hs5 := run_str w5 A5 _ c5 (numB 0) hr5 (numB_lt 0); have hs6 := run_str w5 (some ⟨g, o, none⟩) 1 1 _ (HR1.out.below hb5) (by simp); clear hl5 hm5 hr5)
    all_goals rw [strOf_beq (numB_lt 0) (by simp)]
    all_goals
      have hd : decide (numB 0 = [128]) = false := by decide +kernel
      rw [hd]
      have HB5 := Lib.hid ((Below.refl wr.heap.size wr).drew.trans hb5)
      clear hd hs0 hs5 hs6 hb5 hxor
      go_wp2
      go_ret3
      exact ⟨rfl, HB5.out⟩

set_option maxRecDepth 100000 in
set_option maxHeartbeats 1000000 in
theorem first_oneN (g o : Nat) (w : World) (hr : Rd w 1 (some ⟨g, o, none⟩) 1 ([144].map u8v)) :
    Calls Try.prog 70 #[.slice (some ⟨g, o, none⟩) 1 1] w fun e w' => e = .returned (.tuple #[.int .i64 (-1), .int .i64 1, .int .i64 0]) ∧ Below w.heap.size w w' := by
  have hc : w.cell? ⟨g, o, none⟩ = some (.int .u8 144) := by
    obtain ⟨g', o', ha, _, hcc⟩ := hr.2 (by omega)
    cases ha
    exact hcc 0 (u8v 144) (by simp)
  have HR := Lib.hid hr
  clear hr
  go_enter Try.func70, Try.ntmps70
  go_wp2_with fail
  go_loopw [8, 10, 41] (fun u _ i wr => u = .int .u64 0 ∧ i = .int .i64 0 ∧ wr = w) (fun _ _ _ _ => 0)
  case atStart => exact ⟨rfl, rfl, rfl⟩
  case round =>
    obtain ⟨rfl, rfl, rfl⟩ := hrel
    have hxor : wrap64 (bits .xor .u64 0 18446744073709551615) = (-1) := by decide +kernel
    have hr1d : Rd wr.drew 1 (some ⟨g, o, none⟩) 1 ([144].map u8v) := HR.out
    have hs0 := run_str wr.drew (some ⟨g, o, none⟩) 1 1 _ hr1d (by simp)
    have HR1 := Lib.hid hr1d
    clear hr1d
    go_wp2_with fail
    simp only [hxor]
    go_region_with (go_at_call 53; refine (num_any (-1) _ (by unfold I64; omega)).mono ?_; rintro e w5 ⟨v, rfl, ⟨A5, c5, rfl, hl5, hm5, hr5⟩, hb5⟩; have hs5 := run_str w5 A5 _ c5 (numB (-1)) hr5 (numB_lt (-1)); have hs6 := run_str w5 (some ⟨g, o, none⟩) 1 1 _ (HR1.out.below hb5) (by simp); clear hl5 hm5 hr5)
    all_goals rw [strOf_beq (numB_lt (-1)) (by simp)]
    all_goals
      have hd : decide (numB (-1) = [144]) = true := by decide +kernel
      rw [hd]
      have HB5 := Lib.hid ((Below.refl wr.heap.size wr).drew.trans hb5)
      clear hd hs0 hs5 hs6 hb5 hxor
      go_wp2
      go_ret3
      exact ⟨rfl, HB5.out⟩

/-- The contract of cells.First. -/
theorem first_any (A : Option Addr) (c : Nat) (bs : List Nat) (w : World) (hr : Rd w 1 A bs.length (bs.map u8v)) (hb : ∀ b ∈ bs, b < 256) (hnc : bs.length ≤ c) (hcm : c ≤ maxLen) :
    Calls Try.prog 70 #[.slice A bs.length c] w fun e w' => e = .returned (fstV bs) ∧ Below w.heap.size w w' := by
  have hcm' : c ≤ 9223372036854775807 := by unfold maxLen at hcm; omega
  cases bs with
  | nil => exact first_nil A c w
  | cons h t =>
    obtain ⟨g, o, rfl, _, hcc⟩ := hr.2 (by simp)
    have hc : w.cell? ⟨g, o, none⟩ = some (.int .u8 h) := hcc 0 (u8v h) (by simp)
    have hh : h < 256 := hb h (by simp)
    have hlen : (h :: t).length = 1 + t.length := by simp; omega
    have hone : c = 1 → t = [] := fun e => by
      subst e
      rw [hlen] at hnc
      exact List.eq_nil_of_length_eq_zero (by omega)
    by_cases c0 : h < 128
    · exact first_small g o c w h t _ (by simp) hc c0
    · by_cases c1 : h < 144
      · obtain ⟨z, rfl⟩ : ∃ z, h = 128 + z := ⟨h - 128, by omega⟩
        by_cases c2 : 8 < z ∨ t.length < z
        · exact first_badP g o c w z t _ hlen (by omega) hc (by omega) c2
        · by_cases c3 : 1 < c
          · exact first_goodP g o c w z t _ hlen hnc hcm' hr hb c3 (by omega) (by omega)
          · have hc1 : c = 1 := by omega
            subst hc1
            obtain rfl := hone rfl
            obtain rfl : z = 0 := by simp at c2; omega
            have hv : fstV [128 + 0] = .tuple #[.int .i64 0, .int .i64 0, .int .i64 10] := by
              have : firstN [128 + 0] = none := by decide +kernel
              exact fstV_none this
            rw [hv]
            exact first_oneP g o w hr
      · obtain ⟨z, rfl⟩ : ∃ z, h = 144 + z := ⟨h - 144, by omega⟩
        by_cases c2 : 8 < z ∨ t.length < z
        · exact first_badN g o c w z t _ hlen (by omega) hc (by omega) c2
        · by_cases c3 : 1 < c
          · exact first_goodN g o c w z t _ hlen hnc hcm' hr hb c3 (by omega) (by omega)
          · have hc1 : c = 1 := by omega
            subst hc1
            obtain rfl := hone rfl
            obtain rfl : z = 0 := by simp at c2; omega
            have hv : fstV [144 + 0] = .tuple #[.int .i64 (-1), .int .i64 1, .int .i64 0] := by
              have : firstN [144 + 0] = some (-1, 1) := by decide +kernel
              exact fstV_some this
            rw [hv]
            exact first_oneN g o w hr

end Go.Proofs.Ytpccbobomppdbaa
