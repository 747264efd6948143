/- Package count: Share, what it divides and sorts by being handed in. -/
import Derived.Test.YtochhjdjfgiaeaaNAdd
import Derived.Shelf.Bits.Mul64
import Derived.Laws.MakeOwn
namespace Go.Proofs
open Go.Shelf
def Try.lays264_ren : Go.Shelf.Ren := ⟨fun | 264 => 28 | n => n, fun | 53 => 50 | 46 => 88 | n => n, fun | n => n⟩
theorem Try.lays264 : Go.Proofs.Lays.n264 Try.prog Try.lays264_ren := {
  mixed := by kernel_rfl
  f264 := Try.func28.trans (congrArg some (by kernel_rfl))
  t46 := Try.underlying88
  a46 := Try.isAgg88
  z46 := Try.sizeOf88
  v46 := Try.zeroValue88
  t53 := Try.underlying50
  a53 := Try.isAgg50
  z53 := Try.sizeOf50
  v53 := Try.zeroValue50 }
theorem Try.bits_Mul64 (x y : Nat) (hx : x < 18446744073709551616) (hy : y < 18446744073709551616) (w : World) :
    Calls Try.prog 28 #[.int .u64 x, .int .u64 y] w fun e w' => e = .returned (.tuple #[.int .u64 ((x * y / 18446744073709551616 : Nat) : Int), .int .u64 ((x * y % 18446744073709551616 : Nat) : Int)]) ∧ w' = w := Any.bits_Mul64 Try.lays264 x y hx hy w
end Go.Proofs
namespace Go.Proofs.Ytochhjdjfgiaeaa
open Go.RowKit

theorem Try.infoInt : (Try.prog.info? 3).map (fun i => (i.zero, i.size, i.bytes)) = some (some (.int .i64 0), 1, 8) := by kernel_rfl
theorem Try.infoPart : (Try.prog.info? 56).map (fun i => (i.zero, i.size, i.bytes)) = some (some (.agg #[.int .i64 0, .int .u64 0]), 2, 16) := by kernel_rfl
theorem info_parts' {o : Option TypeInfo} {z : Value} {s b : Nat} (h : o.map (fun i => (i.zero, i.size, i.bytes)) = some (some z, s, b)) : ∃ i, o = some i ∧ i.zero = some z ∧ i.size = s ∧ i.bytes = b := by
  cases o with
  | none => cases h
  | some i =>
    simp only [Option.map_some, Option.some.injEq, Prod.mk.injEq] at h
    exact ⟨i, rfl, h.1, h.2.1, h.2.2⟩

/-- A part: whose it is, and what was cut off it. -/
def encQ (p : Nat × Nat) : List Value := [.int .i64 (p.1 : Int), .int .u64 (p.2 : Int)]
/-- What each gets at first, of the first k. -/
def oL (n S : Nat) (ws : List Nat) (k : Nat) : List Int := (List.range ws.length).map fun i => if i < k then ((n * ws.getD i 0 / S : Nat) : Int) else 0
def pL (n S : Nat) (ws : List Nat) (k : Nat) : List (Nat × Nat) := (List.range k).map fun i => (i, n * ws.getD i 0 % S)
def qS (n S : Nat) (ws : List Nat) (k : Nat) : Nat := ((List.range k).map fun i => n * ws.getD i 0 / S).sum
/-- One more for each of these. -/
def bump (o : List Int) (l : List (Nat × Nat)) : List Int := l.foldl (fun o p => o.set p.1 (o.getD p.1 0 + 1)) o
theorem oL_len (n S : Nat) (ws : List Nat) (k : Nat) : (oL n S ws k).length = ws.length := by simp [oL]
theorem oL_zero (n S : Nat) (ws : List Nat) : oL n S ws 0 = List.replicate ws.length 0 := by
  apply List.ext_getElem
  · simp [oL]
  · intro i h1 h2; simp [oL]
theorem oL_succ (n S : Nat) (ws : List Nat) (k : Nat) (hk : k < ws.length) : oL n S ws (k + 1) = (oL n S ws k).set k ((n * ws.getD k 0 / S : Nat) : Int) := by
  apply List.ext_getElem
  · simp [oL]
  · intro i h1 h2
    have hi : i < ws.length := by simpa [oL] using h1
    by_cases h : i = k
    · subst h; simp [oL]
    · rw [List.getElem_set_ne (by omega)]
      simp only [oL, List.getElem_map, List.getElem_range]
      by_cases h' : i < k
      · rw [if_pos (by omega), if_pos h']
      · rw [if_neg (by omega), if_neg h']
theorem pL_len (n S : Nat) (ws : List Nat) (k : Nat) : (pL n S ws k).length = k := by simp [pL]
theorem pL_succ (n S : Nat) (ws : List Nat) (k : Nat) : pL n S ws (k + 1) = pL n S ws k ++ [(k, n * ws.getD k 0 % S)] := by simp [pL, List.range_succ]
theorem qS_succ (n S : Nat) (ws : List Nat) (k : Nat) : qS n S ws (k + 1) = qS n S ws k + n * ws.getD k 0 / S := by simp [qS, List.range_succ]
theorem qS_mono (n S : Nat) (ws : List Nat) (k m : Nat) (h : k ≤ m) : qS n S ws k ≤ qS n S ws m := by
  induction m with
  | zero => obtain rfl : k = 0 := by omega
            exact Nat.le_refl _
  | succ m ih =>
    by_cases hm : k = m + 1
    · subst hm; exact Nat.le_refl _
    · rw [qS_succ]
      exact Nat.le_trans (ih (by omega)) (Nat.le_add_right _ _)
theorem made_one (v : Value) (m : Nat) : madeCells #[v] m = (List.replicate m v).toArray := by
  apply Array.ext
  · simp [size_madeCells]
  · intro i h1 h2
    simp [madeCells, Nat.mod_one]
theorem rd_row (w : World) (T : TypeId) (xs : List Value) (size n : Nat) (h : xs.length = n * size) : Rd (w.alloc (.cells xs.toArray T)) size (some ⟨w.heap.size, 0, none⟩) n xs :=
  ⟨h, fun _ => ⟨_, _, rfl, by simp, fun j u hu => by
    rw [cell_at (block_new w (.cells xs.toArray T)), Nat.zero_add]
    simpa using hu⟩⟩
theorem sum_take_succ (ws : List Nat) (k : Nat) (h : k < ws.length) : (ws.take (k + 1)).sum = (ws.take k).sum + ws[k] := by
  rw [List.take_succ_eq_append_getElem h, List.sum_append]; simp
theorem mem_le_sum (ws : List Nat) (x : Nat) (h : x ∈ ws) : x ≤ ws.sum := by
  induction ws with
  | nil => simp at h
  | cons a l ih =>
    rw [List.sum_cons]
    rcases List.mem_cons.1 h with e | e
    · omega
    · have := ih e; omega
theorem sum_take_le (ws : List Nat) (k : Nat) : (ws.take k).sum ≤ ws.sum := by
  have := List.take_append_drop k ws
  have h : ws.sum = (ws.take k).sum + (ws.drop k).sum := by rw [← List.sum_append, this]
  omega
theorem sum_bound (ws : List Nat) (h : ∀ x ∈ ws, x ≤ 1099511627776) : ws.sum ≤ ws.length * 1099511627776 := by
  induction ws with
  | nil => simp
  | cons a l ih =>
    have h1 := h a (by simp)
    have h2 := ih fun x hx => h x (by simp [hx])
    simp only [List.sum_cons, List.length_cons, Nat.succ_mul]
    omega

theorem bump_len (o : List Int) (l : List (Nat × Nat)) : (bump o l).length = o.length := by
  induction l generalizing o with
  | nil => rfl
  | cons p l ih => simp only [bump, List.foldl_cons] at ih ⊢; rw [ih]; simp
theorem bump_succ (o : List Int) (l : List (Nat × Nat)) (p : Nat × Nat) : bump o (l ++ [p]) = (bump o l).set p.1 ((bump o l).getD p.1 0 + 1) := by simp [bump, List.foldl_append]
theorem bump_bound (M : Int) (l : List (Nat × Nat)) : ∀ o : List Int, (∀ x ∈ o, 0 ≤ x ∧ x ≤ M) → 0 ≤ M → ∀ x ∈ bump o l, 0 ≤ x ∧ x ≤ M + l.length := by
  induction l generalizing M with
  | nil => intro o h _ x hx; simpa using h x hx
  | cons p l ih =>
    intro o h hM x hx
    have := ih (M + 1) (o.set p.1 (o.getD p.1 0 + 1)) (fun y hy => by
      rcases List.mem_or_eq_of_mem_set hy with e | e
      · have := h y e; omega
      · have : 0 ≤ o.getD p.1 0 ∧ o.getD p.1 0 ≤ M := by
          by_cases hp : p.1 < o.length
          · have := h o[p.1] (List.getElem_mem hp)
            simpa [hp] using this
          · simp [hp]; omega
        omega) (by omega) x hx
    simp only [List.length_cons]
    omega
theorem oL_bound (n S : Nat) (ws : List Nat) (k : Nat) (h : ∀ x ∈ ws, x ≤ S) : ∀ x ∈ oL n S ws k, 0 ≤ x ∧ x ≤ (n : Int) := by
  intro x hx
  obtain ⟨i, hi, rfl⟩ := List.mem_map.1 hx
  have hi' : i < ws.length := by simpa using hi
  split
  · have h1 : n * ws.getD i 0 / S ≤ n := by
      apply Nat.div_le_of_le_mul
      rw [Nat.mul_comm S n]
      exact Nat.mul_le_mul_left n (by simpa [hi'] using h ws[i] (List.getElem_mem hi'))
    exact ⟨Int.natCast_nonneg _, Int.ofNat_le.2 h1⟩
  · omega
theorem flatQ_at (l : List (Nat × Nat)) (k j : Nat) (hk : k < l.length) (hj : j < 2) : (l.flatMap encQ)[k * 2 + j]? = (encQ l[k])[j]? := by
  induction l generalizing k with
  | nil => simp at hk
  | cons z l ih =>
    cases k with
    | zero => rw [List.flatMap_cons, List.getElem?_append_left (by simp [encQ]; omega)]; simp
    | succ k => rw [List.flatMap_cons, List.getElem?_append_right (by simp [encQ]; omega), show (k + 1) * 2 + j - (encQ z).length = k * 2 + j by simp [encQ]; omega, ih k (by simpa using hk)]; simp

set_option maxRecDepth 100000 in
set_option maxHeartbeats 2000000 in
theorem share_core (n S left : Nat) (ws : List Nat) (sp : List (Nat × Nat)) (A : Option Addr) (c : Nat) (w : World) (hn : n ≤ 1099511627776) (hws : ∀ x ∈ ws, x ≤ 1099511627776) (hS : ws.sum = S) (hS0 : 0 < S) (hl : 0 < ws.length ∧ ws.length ≤ 64)
    (hr : Rd w 1 A ws.length (ws.map fun x : Nat => i64v (x : Int))) (hq : n = qS n S ws ws.length + left) (hlf : left ≤ ws.length)
    (hdiv : ∀ x ∈ ws, ∀ W, Calls Try.prog 29 #[.int .u64 ((n * x / 18446744073709551616 : Nat) : Int), .int .u64 ((n * x % 18446744073709551616 : Nat) : Int), .int .u64 (S : Int)] W fun e W' => e = .returned (.tuple #[.int .u64 ((n * x / S : Nat) : Int), .int .u64 ((n * x % S : Nat) : Int)]) ∧ Below W.heap.size W W')
    (hspl : sp.length = ws.length) (hsp : ∀ p ∈ sp, p.1 < ws.length)
    (hsort : ∀ W v, w.heap.size ≤ W.heap.size → W.ownsRow w.heap.size 56 2 v ws.length ((pL n S ws ws.length).flatMap encQ) → Calls Try.prog 30 #[v, .func (.func 31) #[] #[]] W fun e W' => e = .returned (.tuple #[]) ∧ W'.ownsRow w.heap.size 56 2 v ws.length (sp.flatMap encQ) ∧ Fr w.heap.size [56] [] W W') :
    Calls Try.prog 16 #[.int .i64 (n : Int), .slice A ws.length c] w fun e w' => ∃ g, e = .returned (.tuple #[.slice (some ⟨g, 0, none⟩) ws.length ws.length, .int .i64 0]) ∧ w'.heap[g]? = some (.cells ((bump (oL n S ws ws.length) (sp.take left)).map i64v).toArray 3 (0, 0)) ∧ w.heap.size ≤ g ∧ Below w.heap.size w w' := by
  obtain ⟨i0, hi0, hz0, hz1, hz2⟩ := info_parts' Try.infoInt
  have hlen := hl.1
  have hlen2 := hl.2
  have HR := Lib.hid hr
  have HN : Hid (Rd (w.alloc (.cells #[.int .i64 (n : Int)] 3)) 1 (some ⟨w.heap.size, 0, none⟩) 1 ([(n : Int)].map i64v)) := Lib.hid (rd_fresh w 3 [.int .i64 (n : Int)])
  have hb1 : Below w.heap.size w (w.alloc (.cells #[.int .i64 (n : Int)] 3)) := (Below.refl _ w).alloc (Nat.le_refl _) _
  have HB1 := Lib.hid hb1
  have hno1 : noneN [(n : Int)] = false := by simp [noneN, mayN]; omega
  have hno2 : noneN (ws.map fun x : Nat => (x : Int)) = false := by
    unfold noneN
    rw [List.any_eq_false]
    intro x hx
    obtain ⟨y, hy, rfl⟩ := List.mem_map.1 hx
    have := hws y hy
    simp [mayN]; omega
  have HNO1 := Lib.hid hno1
  have HNO2 := Lib.hid hno2
  have HWS := Lib.hid hws
  have HSu := Lib.hid hS
  have HQ := Lib.hid hq
  have HDiv := Lib.hid hdiv
  have HSort := Lib.hid hsort
  have HSP := Lib.hid hsp
  have HSPL := Lib.hid hspl
  have hsb : S ≤ 70368744177664 := by have := sum_bound ws hws; omega
  have HSB := Lib.hid hsb
  have he0 : ((ws.length : Int) == 0) = false := by rw [beq_eq_false_iff_ne]; omega
  clear hb1 hno1 hno2 hws hS hq hdiv hsort hsp hspl hr hl hsb
  go_enter Try.func16, Try.ntmps16
  go_wp2_with fail
  refine (none_any _ 1 [(n : Int)] _ (by simp) HN.out).mono ?_
  rintro e w1 ⟨rfl, rfl⟩
  rw [HNO1.out]
  go_wp2_with fail
  have hna := none_any A c (ws.map fun x : Nat => (x : Int)) (w.alloc (.cells #[.int .i64 (n : Int)] 3)) (by rw [List.length_map]; omega) (by simpa [Function.comp_def] using HR.out.below HB1.out)
  rw [List.length_map] at hna
  refine hna.mono ?_
  clear hna
  rintro e w1 ⟨rfl, rfl⟩
  rw [HNO2.out]
  have HRB := Lib.hid (HR.out.below HB1.out)
  obtain ⟨w1, hw1⟩ : ∃ w1, w.alloc (.cells #[.int .i64 (n : Int)] 3) = w1 := ⟨_, rfl⟩
  rw [hw1] at HB1 HRB ⊢
  clear hw1 HN
  go_wp2_with fail
  go_loopw [6, 39] (fun m i wr => ∃ k : Nat, k ≤ ws.length ∧ i = .int .i64 k ∧ m = .int .u64 ((ws.take k).sum : Nat) ∧ w1 = wr) (fun _ i _ => ws.length - (intOf i).toNat)
  case atStart => exact ⟨0, Nat.zero_le _, rfl, rfl, rfl⟩
  case round =>
    obtain ⟨k, hk, rfl, rfl, rfl⟩ := hrel
    by_cases hlt : k < ws.length
    · obtain ⟨g, o, rfl, hg, hcell⟩ := HRB.out.2 (by omega)
      have c0 : w1.cell? ⟨g, o + k, none⟩ = some (.int .i64 (ws[k] : Nat)) := hcell k _ (by simp [hlt, i64v])
      have hwk := HWS.out ws[k] (List.getElem_mem hlt)
      have hs1 := sum_take_succ ws k hlt
      have hs2 := sum_take_le ws (k + 1)
      have hsu := HSu.out
      have hsbb := HSB.out
      obtain ⟨x, hx⟩ : ∃ x, ws[k] = x := ⟨_, rfl⟩
      obtain ⟨s, hs⟩ : ∃ s, (ws.take k).sum = s := ⟨_, rfl⟩
      rw [hx] at c0 hwk hs1
      rw [hs] at hs1 ⊢
      have hsx : s + x ≤ 70368744177664 := by omega
      have hwr : IntKind.u64.wrap ((s : Int) + (x : Int)) = ((s + x : Nat) : Int) := by rw [IntKind.wrap_u64]; omega
      have hwx : IntKind.u64.wrap (x : Int) = (x : Int) := by rw [IntKind.wrap_u64]; omega
      have HS1 := Lib.hid hs1
      clear hcell hs1 hs2 hsu hsbb hx hs
      go_wp2
      go_roundw
      case rel => exact ⟨k + 1, hlt, by go_num, by rw [HS1.out, Int.natCast_add], trivial⟩
      case measure => simp [intOf]; omega
    · have hkl : k = ws.length := by omega
      subst hkl
      have hs : (ws.take ws.length).sum = S := by rw [List.take_length]; exact HSu.out
      rw [hs]
      have hS1 : ((S : Int) == 0) = false := by simp; omega
      clear hs hlt hk
      have hmk := run_makeSlice (P := Try.prog) w1 31 3 i0 (.int .i64 0) Try.underlying31 hi0 hz0 .i64 .i64 (ws.length : Int) (ws.length : Int) (by omega) (Int.le_refl _) (by rw [hz1]; omega) (by rw [hz2]; omega) (by omega)
      simp only [Int.toNat_natCast, hz1, Nat.mul_one, Value.cells, made_one] at hmk
      obtain ⟨w2, hw2⟩ : ∃ w2, w1.alloc (.cells (List.replicate ws.length (Value.int .i64 0)).toArray 3) = w2 := ⟨_, rfl⟩
      rw [hw2] at hmk
      have hb12 : Below w1.heap.size w1 w2 := by rw [← hw2]; exact (Below.refl _ w1).alloc (Nat.le_refl _) _
      have ho2 : w2.heap[w1.heap.size]? = some (.cells ((oL n S ws 0).map i64v).toArray 3 (0, 0)) := by rw [← hw2, oL_zero, List.map_replicate]; exact block_new w1 _
      have HB2 := Lib.hid (HB1.out.trans (hb12.mono HB1.out.size))
      have HO2 := Lib.hid ho2
      have HG1 : Hid (w.heap.size ≤ w1.heap.size) := Lib.hid HB1.out.size
      obtain ⟨go, hgo⟩ : ∃ go, w1.heap.size = go := ⟨_, rfl⟩
      rw [hgo] at hmk HO2 HG1
      clear hw2 hb12 ho2 hgo hi0 hz0 hz1 hz2
      go_wp2_with fail
      go_loopw [10, 11, 56] (fun l v i wr => ∃ k : Nat, k ≤ ws.length ∧ i = .int .i64 k ∧ l = .int .i64 ((n : Int) - (qS n S ws k : Nat)) ∧ wr.ownsRow w.heap.size 56 2 v k ((pL n S ws k).flatMap encQ) ∧ wr.heap[go]? = some (.cells ((oL n S ws k).map i64v).toArray 3 (0, 0)) ∧ Below w.heap.size w wr) (fun _ _ i _ => ws.length - (intOf i).toNat)
      case atStart =>
        refine ⟨0, Nat.zero_le _, rfl, by simp [qS], ?_, HO2.out, HB2.out⟩
        exact World.ownsRow_nil _ _ _ _
      case round =>
        obtain ⟨k, hk, rfl, rfl, hown, hout, hbw⟩ := hrel
        by_cases hlt : k < ws.length
        · obtain ⟨g, o, rfl, hg, hcell⟩ := HR.out.2 (by omega)
          have c0 : wr.cell? ⟨g, o + k, none⟩ = some (.int .i64 (ws[k] : Nat)) := (hbw.cell (p := ⟨g, o + k, none⟩) hg).trans (hcell k _ (by simp [hlt, i64v]))
          have hwk := HWS.out ws[k] (List.getElem_mem hlt)
          have hxs : ws[k] ≤ S := by rw [← HSu.out]; exact mem_le_sum _ _ (List.getElem_mem hlt)
          have hdv := HDiv.out ws[k] (List.getElem_mem hlt)
          have hos := oL_succ n S ws k hlt
          have hps := pL_succ n S ws k
          have hqs := qS_succ n S ws k
          have hqm := qS_mono n S ws (k + 1) ws.length hlt
          have hqt := HQ.out
          have hgd : ws.getD k 0 = ws[k] := by simp [hlt]
          rw [hgd] at hos hps hqs
          obtain ⟨x, hx⟩ : ∃ x, ws[k] = x := ⟨_, rfl⟩
          rw [hx] at c0 hwk hxs hdv hos hps hqs
          have hqx : n * x / S ≤ n := by
            apply Nat.div_le_of_le_mul
            rw [Nat.mul_comm S n]
            exact Nat.mul_le_mul_left n hxs
          have hrx : n * x % S < S := Nat.mod_lt _ hS0
          obtain ⟨q, hq⟩ : ∃ q, n * x / S = q := ⟨_, rfl⟩
          obtain ⟨r, hrr⟩ : ∃ r, n * x % S = r := ⟨_, rfl⟩
          rw [hq] at hqx hdv hos hqs
          rw [hrr] at hrx hdv hps
          obtain ⟨Q, hQ⟩ : ∃ Q, qS n S ws k = Q := ⟨_, rfl⟩
          rw [hQ] at hqs ⊢
          have hQn : Q + q ≤ n := by omega
          have HDV := Lib.hid hdv
          have HMUL := Lib.hid (fun W => Try.bits_Mul64 n x (by omega) (by omega) W)
          have hwn : IntKind.u64.wrap (n : Int) = (n : Int) := by rw [IntKind.wrap_u64]; omega
          have hwx : IntKind.u64.wrap (x : Int) = (x : Int) := by rw [IntKind.wrap_u64]; omega
          have hwq : IntKind.i64.wrap (q : Int) = (q : Int) := IntWalk.i64_in _ (by omega)
          have HOS := Lib.hid hos
          have HPS := Lib.hid hps
          have HQS := Lib.hid hqs
          obtain ⟨Av, cv, rfl, _, hcv, _, _⟩ := own_slice hown
          have hcv' : cv ≤ 9223372036854775807 := by unfold maxLen at hcv; omega
          have HOW := Lib.hid hown
          have HOUT := Lib.hid hout
          have HBW := Lib.hid hbw
          have olen := oL_len n S ws k
          have d0 : ∃ y, wr.cell? ⟨go, k, none⟩ = some (.int .i64 y) := ⟨(oL n S ws k)[k]'(by rw [olen]; exact hlt), by rw [cell_at hout]; simp [i64v, olen, hlt]⟩
          obtain ⟨y, d0⟩ := d0
          have d1 : wr.frozen? ⟨go, k, none⟩ = false := frozen_at hout k
          obtain ⟨H, hH⟩ : ∃ H, n * x / 18446744073709551616 = H := ⟨_, rfl⟩
          obtain ⟨L, hL⟩ : ∃ L, n * x % 18446744073709551616 = L := ⟨_, rfl⟩
          rw [hH, hL] at HMUL HDV
          clear hcell hwk hxs hdv hos hps hqs hqm hqt hgd hx hq hrr hQ hown hout hbw olen hH hL hcv
          go_wp2_with fail
          refine (HMUL.out _).mono ?_
          rintro e w3 ⟨rfl, hw3⟩
          obtain rfl := hw3.symm
          go_wp2_with fail
          refine (HDV.out _).mono ?_
          rintro e w4 ⟨rfl, hb4⟩
          have hown4 := (Fr.of_below (B := 0) (T := []) (S := []) hb4).own HOW.out (by simp) (by simp)
          have hout4 := (hb4.block go (lt_of_block HOUT.out)).trans HOUT.out
          have hbw4 := HBW.out.trans (hb4.mono HBW.out.size)
          clear HOW HOUT HBW hb4 c0 d0 d1
          have HOW := Lib.hid hown4
          have HOUT := Lib.hid hout4
          have HBW := Lib.hid hbw4
          have d0 : ∃ y, w4.cell? ⟨go, k, none⟩ = some (.int .i64 y) := ⟨(oL n S ws k)[k]'(by rw [oL_len]; exact hlt), by rw [cell_at hout4]; simp [i64v, oL_len, hlt]⟩
          obtain ⟨y, d0⟩ := d0
          have d1 : w4.frozen? ⟨go, k, none⟩ = false := frozen_at hout4 k
          clear hown4 hout4 hbw4
          have fs : Fr w.heap.size [] [go] w4 (w4.setCell ⟨go, k, none⟩ (.int .i64 (q : Int))) := (Fr.refl w4).setCell (p := ⟨go, k, none⟩) _ HG1.out (.inl (by simp))
          have os : (w4.setCell ⟨go, k, none⟩ (.int .i64 (q : Int))).ownsRow w.heap.size 56 2 (.slice Av k cv) k ((pL n S ws k).flatMap encQ) := fs.own HOW.out (by simp) (fun j hj => by
            simp
            intro e
            exact own_ne HOW.out HOUT.out (by decide) (by rw [hj, e]))
          have hbs := block_set HOUT.out k (.int .i64 (q : Int))
          obtain ⟨ws4, hws4⟩ : ∃ ws4, w4.setCell ⟨go, k, none⟩ (.int .i64 (q : Int)) = ws4 := ⟨_, rfl⟩
          rw [hws4] at fs os hbs
          have HWS4 := Lib.hid hws4
          have HFS := Lib.hid fs
          have bA : Below ws4.heap.size ws4 (ws4.alloc (.cells #[.int .i64 (k : Int), .int .u64 (r : Int)] 56)) := (Below.refl _ _).alloc (Nat.le_refl _) _
          have HOSA := Lib.hid ((Fr.of_below (B := 0) (T := []) (S := []) bA).own os (by simp) (by simp))
          have hze : ws4.heap.size = w4.heap.size := by rw [← hws4]; simp
          have hrn := rd_row ws4 56 [.int .i64 (k : Int), .int .u64 (r : Int)] 2 1 rfl
          rw [hze] at hrn
          have HRN := Lib.hid hrn
          clear hze hrn
          have HBA := Lib.hid bA
          have HBS4 := Lib.hid hbs
          have hsz4 : w.heap.size ≤ ws4.heap.size := Nat.le_trans HBW.out.size fs.size
          obtain ⟨i1, hi1, hy0, hy1, hy2⟩ := info_parts' Try.infoPart
          clear fs os hbs hws4 bA
          go_wp2_with (first
            | (at_builtin
               rw [HWS4.out]
               refine wpList_append_rd _ rfl (.tmp 85) (.tmp 89) 51 rfl w.heap.size 56 i1 (.agg #[.int .i64 0, .int .u64 0]) 2 16 Try.underlying51 hi1 hy0 hy1 hy2 rfl (by decide) (.slice Av k cv) _ _ rfl HOSA.out (some ⟨w4.heap.size, 0, none⟩) 1 1 [.int .i64 (k : Int), .int .u64 (r : Int)] rfl HRN.out (by simp [Value.oneCell']) (by unfold maxLen; omega) (by omega) (by simp; omega) ?_
               intro v5 w5 hown5 hgrow5 _
               have HO5 := Lib.hid hown5
               have F5 := Lib.hid ((Fr.of_below (B := w.heap.size) (T := [56]) (S := []) HBA.out).grown hgrow5 (fun j hj => by
                 obtain ⟨hbs, cs, hc⟩ := own_block HOSA.out hj
                 exact ⟨hbs, .inr ⟨cs, _, _, hc, by simp⟩⟩))
               clear hown5 hgrow5))
          go_roundw
          case rel =>
            refine ⟨k + 1, hlt, by go_num, ?_, ?_, ?_, ?_⟩
            · rw [HQS.out, Int.natCast_add]
              congr 1
              omega
            · rw [HPS.out, List.flatMap_append]
              exact HO5.out
            · rw [HOS.out, List.map_set]
              refine (F5.out.block go (by rw [← HWS4.out]; simp; exact lt_of_block HOUT.out) (.inr ⟨?_, by simp⟩)).trans ?_
              · intro cs t f h
                rw [HBS4.out] at h
                simp only [Option.some.injEq, Obj.cells.injEq] at h
                rw [← h.2.1]
                decide
              · rw [HBS4.out]; simp [i64v]
            · exact HBW.out.trans ((HFS.out.below HBW.out.size).trans (F5.out.below (Nat.le_trans HBW.out.size HFS.out.size)))
          case measure => simp [intOf]; omega
        · have hkl : k = ws.length := by omega
          subst hkl
          obtain ⟨Av, cv, rfl, hcl, hcv, hrd, hoff⟩ := own_slice hown
          obtain ⟨gp, hgp⟩ : ∃ gp, Av = some ⟨gp, 0, none⟩ := by
            obtain ⟨g, o, e, _⟩ := hrd.2 hlen
            have := (hoff _ e).2.1
            simp only at this
            subst this
            exact ⟨g, e⟩
          subst hgp
          have hcv' : cv ≤ 9223372036854775807 := by unfold maxLen at hcv; omega
          have HS5 := Lib.hid (HSort.out wr (.slice (some ⟨gp, 0, none⟩) ws.length cv) hbw.size hown)
          have HOUT := Lib.hid hout
          have HBW := Lib.hid hbw
          have hleft : (n : Int) - (qS n S ws ws.length : Nat) = (left : Int) := by have := HQ.out; omega
          rw [hleft]
          clear hcv hrd hoff hown hout hbw hleft hlt hk
          go_wp2_with fail
          refine HS5.out.mono ?_
          rintro e w5 ⟨rfl, hown5, hf5⟩
          obtain ⟨_, _, hv5, _, _, hr5, _⟩ := own_slice hown5
          cases hv5
          have HR5 := Lib.hid hr5
          have HO5 := Lib.hid (show w5.heap[go]? = some (.cells ((bump (oL n S ws ws.length) (sp.take 0)).map i64v).toArray 3 (0, 0)) from (hf5.block go (lt_of_block HOUT.out) (.inr ⟨fun cs t f h => by
            rw [HOUT.out] at h
            simp only [Option.some.injEq, Obj.cells.injEq] at h
            rw [← h.2.1]
            decide, by simp⟩)).trans HOUT.out)
          have HB5 := Lib.hid (HBW.out.trans (hf5.below HBW.out.size))
          have hgpn : gp ≠ go := fun e => by
            obtain ⟨_, cs, h⟩ := own_block hown5 (k := gp) rfl
            exact block_ne h HO5.out (by decide) e
          have hll : (left : Int) ≤ (ws.length : Int) := by omega
          have hl0 : (0 : Int) ≤ (left : Int) := by omega
          have hlc : (left : Int) ≤ (cv : Int) := by omega
          clear hown5 hf5 hr5
          go_wp2_with fail
          go_loopw [98] (fun i wl => ∃ j : Nat, j ≤ left ∧ i = .int .i64 j ∧ wl.heap[go]? = some (.cells ((bump (oL n S ws ws.length) (sp.take j)).map i64v).toArray 3 (0, 0)) ∧ Rd wl 2 (some ⟨gp, 0, none⟩) ws.length (sp.flatMap encQ) ∧ Below w.heap.size w wl) (fun i _ => left - (intOf i).toNat)
          case atStart => exact ⟨0, Nat.zero_le _, rfl, HO5.out, HR5.out, HB5.out⟩
          case round =>
            obtain ⟨j, hj, rfl, hout, hrow, hbw⟩ := hrel
            by_cases hlt : j < left
            · have hjs : j < sp.length := by rw [HSPL.out]; omega
              have hpi := HSP.out sp[j] (List.getElem_mem hjs)
              obtain ⟨g', o', e', hg', hcell⟩ := hrow.2 hlen
              cases e'
              have c0 : wr.cell? ⟨gp, j * 2, none⟩ = some (.int .i64 (sp[j].1 : Nat)) := by
                have := hcell (j * 2 + 0) _ (by rw [flatQ_at sp j 0 hjs (by omega)]; rfl)
                simpa using this
              have c1 : wr.cell? ⟨gp, j * 2 + 1, none⟩ = some (.int .u64 (sp[j].2 : Nat)) := by
                have := hcell (j * 2 + 1) _ (by rw [flatQ_at sp j 1 hjs (by omega)]; rfl)
                simpa using this
              have hbs := bump_succ (oL n S ws ws.length) (sp.take j) sp[j]
              have hbl : (bump (oL n S ws ws.length) (sp.take j)).length = ws.length := by rw [bump_len, oL_len]
              have hbb := bump_bound (n : Int) (sp.take j) (oL n S ws ws.length) (oL_bound n S ws ws.length (fun x hx => by rw [← HSu.out]; exact mem_le_sum _ _ hx)) (by omega)
              rw [← List.take_succ_eq_append_getElem hjs] at hbs
              obtain ⟨B, hB⟩ : ∃ B, bump (oL n S ws ws.length) (sp.take j) = B := ⟨_, rfl⟩
              rw [hB] at hbs hbl hbb hout
              obtain ⟨⟨pi, pr⟩, hp⟩ : ∃ p, sp[j] = p := ⟨_, rfl⟩
              rw [hp] at hpi c0 c1 hbs
              simp only at hpi c0 c1 hbs
              have hpb : pi < B.length := by rw [hbl]; exact hpi
              have hyb := hbb B[pi] (List.getElem_mem hpb)
              have hgd : B.getD pi 0 = B[pi] := by simp [hpb]
              have d0 : wr.cell? ⟨go, pi, none⟩ = some (.int .i64 B[pi]) := by rw [cell_at hout]; simp [i64v, hpb]
              have d1 : wr.frozen? ⟨go, pi, none⟩ = false := frozen_at hout pi
              rw [hgd] at hbs
              obtain ⟨y, hy⟩ : ∃ y, B[pi] = y := ⟨_, rfl⟩
              rw [hy] at hbs hyb d0
              have hyl : (sp.take j).length ≤ 64 := by rw [List.length_take]; omega
              have hy1 : -9223372036854775808 ≤ y + 1 ∧ y + 1 ≤ 9223372036854775807 := by omega
              have hs1 := block_set hout pi (.int .i64 (y + 1))
              have hf1 : Fr w.heap.size [] [go] wr (wr.setCell ⟨go, pi, none⟩ (.int .i64 (y + 1))) := (Fr.refl wr).setCell (p := ⟨go, pi, none⟩) _ HG1.out (.inl (by simp))
              have hrow1 : Rd (wr.setCell ⟨go, pi, none⟩ (.int .i64 (y + 1))) 2 (some ⟨gp, 0, none⟩) ws.length (sp.flatMap encQ) := hrow.keep (by simp) (fun a ha => by cases ha; exact Below.heap_setCell wr ⟨go, pi, none⟩ _ gp hgpn)
              have HOUT1 := Lib.hid hs1
              have HF1 := Lib.hid hf1
              have HROW1 := Lib.hid hrow1
              have HBS1 := Lib.hid hbs
              have HBW1 := Lib.hid hbw
              have hpl : (pi : Int) < (ws.length : Int) := by omega
              have hplt := lt_of_block hout
              clear hcell hbs hbl hbb hB hp hpb hgd hy hyl hs1 hf1 hrow1 hrow hbw hout hpi
              go_wp2_with fail
              go_roundw
              case rel =>
                have bA : Below (wr.setCell ⟨go, pi, none⟩ (.int .i64 (y + 1))).heap.size (wr.setCell ⟨go, pi, none⟩ (.int .i64 (y + 1))) ((wr.setCell ⟨go, pi, none⟩ (.int .i64 (y + 1))).alloc (.cells #[.int .i64 (pi : Int), .int .u64 (pr : Int)] 56)) := (Below.refl _ _).alloc (Nat.le_refl _) _
                refine ⟨j + 1, hlt, by go_num, ?_, HROW1.out.below bA, ?_⟩
                · rw [HBS1.out, List.map_set]
                  refine (bA.block go (lt_of_block HOUT1.out)).trans ?_
                  rw [HOUT1.out]
                  simp [i64v]
                · exact HBW1.out.trans ((HF1.out.below HBW1.out.size).trans (bA.mono (Nat.le_trans HBW1.out.size HF1.out.size)))
              case measure => simp [intOf]; omega
            · have hjl : j = left := by omega
              subst hjl
              have HOUT1 := Lib.hid hout
              have HBW1 := Lib.hid hbw
              clear hout hrow hbw hj
              go_wp2
              go_ret2
              exact ⟨go, rfl, HOUT1.out, Nat.le_trans HG1.out (Nat.le_refl _), HBW1.out⟩
end Go.Proofs.Ytochhjdjfgiaeaa
