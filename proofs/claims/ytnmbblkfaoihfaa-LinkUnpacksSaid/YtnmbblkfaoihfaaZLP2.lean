/- Joined: append onto a row of the call's own, from whatever slice. No program is named here. Plain facts on numbers as bytes: the digits of a number, the cell of a number, the first number of bytes. No program is named here. math/bits.Len64 of the library at this translation, by the kit's shelf in its plain mode: for every 64-bit number. -/
import Derived.Test.YtnmbblkfaoihfaaZLP1
import Derived.Lib.BitFns
import Derived.Shelf.Strconv.Itoa0
import Derived.Test.YtnmbblkfaoihfaaProg
namespace Go.Proofs.Ytnmbblkfaoihfaa
open Go.RowKit

section
variable {P : Program} (w : World)

theorem run_append_rd (base : Nat) (t ty e : TypeId) (i : TypeInfo) (z : Value) (size bytes : Nat) (ht : P.underlying t = some (.slice e)) (hi : P.info? e = some i) (hz : i.zero = some z)
    (hsize : i.size = size) (hby : i.bytes = bytes) (hzs : z.cells.size = size) (hsz : 0 < size)
    (v : Value) (n : Nat) (xs : List Value) (hown : w.ownsRow base e size v n xs)
    (A : Option Addr) (m c : Nat) (news : List Value) (hr : Rd w size A m news) (h1 : ∀ u ∈ news, u.oneCell' = true)
    (h63 : n + m ≤ maxLen) (hbytes : (n + m) * bytes ≤ 140737488355328) (hbase : base ≤ w.heap.size) :
    ∃ v' w', (Builtin.append_ #[t, t] ty #[v, .slice A m c]).run P w = .ok v' w' ∧ w'.ownsRow base e size v' (n + m) (xs ++ news) ∧ w.grownBy w' v.ownBlock ∧ (v' = .slice none 0 0 → v = .slice none 0 0 ∧ m = 0) := by
  by_cases hm : m = 0
  · subst hm
    have hn : news = [] := List.eq_nil_of_length_eq_zero (by simpa using hr.1)
    subst hn
    cases A with
    | none =>
      refine ⟨v, w, ?_, by simpa using hown, World.grownBy.refl w _, fun h => ⟨h, rfl⟩⟩
      rcases hown.2 with ⟨rfl, rfl⟩ | ⟨g, cap, cur, rfl, _, _, hnc, _⟩
      · simp [Builtin.append_, run_underlying ht, sizeOf, typeInfo, hi, Builtin.lenOf, Builtin.firstCells]
      · simp [Builtin.append_, run_underlying ht, sizeOf, typeInfo, hi, Builtin.lenOf, Builtin.firstCells, hnc, storeCells]
    | some a =>
      obtain ⟨v', w', h2, h3, h4, h5⟩ := run_append_own (P := P) w base t ty e i z size bytes ht hi hz hsize hby hzs hsz v n xs hown a 0 c [] (by simp) (by simp) (by simp) h63 hbytes hbase
      exact ⟨v', w', h2, h3, h4, h5.1⟩
  · obtain ⟨g, o, rfl, hg, hc⟩ := hr.2 (by omega)
    obtain ⟨v', w', h2, h3, h4, h5⟩ := run_append_own (P := P) w base t ty e i z size bytes ht hi hz hsize hby hzs hsz v n xs hown ⟨g, o, none⟩ m c news hr.1 (fun j u hu => by
      have := hc j u hu
      have e : (⟨g, o, none⟩ : Addr).add j = ⟨g, o + j, none⟩ := by unfold Addr.add; split <;> simp_all
      rw [e]; exact this) h1 h63 hbytes hbase
    exact ⟨v', w', h2, h3, h4, h5.1⟩

theorem wp_append_rd {o : Oper} {a : Act} {K : Act → World → Prop} {Q : Exit → Act → World → Prop} (s x : Operand) (t : TypeId)
    (ho : o.op = .call { callee := .builtin .append, args := #[s, x], argTypes := #[t, t] })
    (base : Nat) (e : TypeId) (i : TypeInfo) (z : Value) (size bytes : Nat) (ht : P.underlying t = some (.slice e)) (hi : P.info? e = some i) (hz : i.zero = some z)
    (hsize : i.size = size) (hby : i.bytes = bytes) (hzs : z.cells.size = size) (hsz : 0 < size)
    (v : Value) (n : Nat) (xs : List Value) (hs : a.eval s = v) (hown : w.ownsRow base e size v n xs)
    (A : Option Addr) (m c : Nat) (news : List Value) (hx : a.eval x = .slice A m c) (hr : Rd w size A m news) (h1 : ∀ u ∈ news, u.oneCell' = true)
    (h63 : n + m ≤ maxLen) (hbytes : (n + m) * bytes ≤ 140737488355328) (hbase : base ≤ w.heap.size)
    (h : ∀ v' w', w'.ownsRow base e size v' (n + m) (xs ++ news) → w.grownBy w' v.ownBlock → (v' = .slice none 0 0 → v = .slice none 0 0 ∧ m = 0) → K (a.put o.dst v') w') : o.wp P a w K Q := by
  obtain ⟨v', w', hrun, h2, h3, h4⟩ := run_append_rd (P := P) w base t o.type e i z size bytes ht hi hz hsize hby hzs hsz v n xs hown A m c news hr h1 h63 hbytes hbase
  unfold Oper.wp execOp
  simp only [ho, resolve, invoke, builtin, Sem.run_bind, Sem.run_pure, Result.andThen_ok, List.map_toArray, List.map_cons, List.map_nil, hs, hx, hrun]
  exact h v' w' h2 h3 h4

theorem wpList_append_rd {ops : Array Oper} {rest : List Oper} {o : Oper} {a : Act} {Q : Exit → Act → World → Prop} (hgd : o.guard = none) (s x : Operand) (t : TypeId)
    (ho : o.op = .call { callee := .builtin .append, args := #[s, x], argTypes := #[t, t] })
    (base : Nat) (e : TypeId) (i : TypeInfo) (z : Value) (size bytes : Nat) (ht : P.underlying t = some (.slice e)) (hi : P.info? e = some i) (hz : i.zero = some z)
    (hsize : i.size = size) (hby : i.bytes = bytes) (hzs : z.cells.size = size) (hsz : 0 < size)
    (v : Value) (n : Nat) (xs : List Value) (hs : a.eval s = v) (hown : w.ownsRow base e size v n xs)
    (A : Option Addr) (m c : Nat) (news : List Value) (hx : a.eval x = .slice A m c) (hr : Rd w size A m news) (h1 : ∀ u ∈ news, u.oneCell' = true)
    (h63 : n + m ≤ maxLen) (hbytes : (n + m) * bytes ≤ 140737488355328) (hbase : base ≤ w.heap.size)
    (h : ∀ v' w', w'.ownsRow base e size v' (n + m) (xs ++ news) → w.grownBy w' v.ownBlock → (v' = .slice none 0 0 → v = .slice none 0 0 ∧ m = 0) → wpList P ops Q rest (a.put o.dst v') w') : wpList P ops Q (o :: rest) a w :=
  wpList_plain hgd fun _ hK => wp_append_rd w s x t ho base e i z size bytes ht hi hz hsize hby hzs hsz v n xs hs hown A m c news hx hr h1 h63 hbytes hbase fun v' w' h2 h3 h4 => hK _ _ (h v' w' h2 h3 h4)

theorem step_append_rd {ops : Array Oper} {o : Oper} {a : Act} {K : Act → World → Prop} {Q : Exit → Act → World → Prop} {E : Prop} (hgd : o.guard = none) (s x : Operand) (t : TypeId)
    (ho : o.op = .call { callee := .builtin .append, args := #[s, x], argTypes := #[t, t] })
    (base : Nat) (e : TypeId) (i : TypeInfo) (z : Value) (size bytes : Nat) (ht : P.underlying t = some (.slice e)) (hi : P.info? e = some i) (hz : i.zero = some z)
    (hsize : i.size = size) (hby : i.bytes = bytes) (hzs : z.cells.size = size) (hsz : 0 < size)
    (v : Value) (n : Nat) (xs : List Value) (hs : a.eval s = v) (hown : w.ownsRow base e size v n xs)
    (A : Option Addr) (m c : Nat) (news : List Value) (hx : a.eval x = .slice A m c) (hr : Rd w size A m news) (h1 : ∀ u ∈ news, u.oneCell' = true)
    (h63 : n + m ≤ maxLen) (hbytes : (n + m) * bytes ≤ 140737488355328) (hbase : base ≤ w.heap.size)
    (h : ∀ v' w', w'.ownsRow base e size v' (n + m) (xs ++ news) → w.grownBy w' v.ownBlock → (v' = .slice none 0 0 → v = .slice none 0 0 ∧ m = 0) → K (a.put o.dst v') w') :
    if Region.wanted o (yielded ops a.tmps) = true then Oper.wp P o a w K Q else E := by
  have hw : Region.wanted o (yielded ops a.tmps) = true := by simp [Region.wanted, hgd]
  rw [if_pos hw]
  exact wp_append_rd w s x t ho base e i z size bytes ht hi hz hsize hby hzs hsz v n xs hs hown A m c news hx hr h1 h63 hbytes hbase h
end

theorem Rd.take {w : World} {size : Nat} {A : Option Addr} {n : Nat} {xs : List Value} (h : Rd w size A n xs) {k : Nat} (hk : k ≤ n) : Rd w size A k (xs.take (k * size)) := by
  refine ⟨?_, fun hk0 => ?_⟩
  · rw [List.length_take, h.1]
    exact Nat.min_eq_left (Nat.mul_le_mul_right _ hk)
  · obtain ⟨g, o, ha, hg, hc⟩ := h.2 (by omega)
    refine ⟨g, o, ha, hg, fun j u hu => ?_⟩
    rw [List.getElem?_take] at hu
    split at hu
    · exact hc j u hu
    · cases hu
/-- s[k:], whatever the walk has made of its address where the capacity ends. -/
theorem Rd.drop {w : World} {size : Nat} {g o : Nat} {n : Nat} {xs : List Value} (h : Rd w size (some ⟨g, o, none⟩) n xs) {k : Nat} (hk : k ≤ n) {A : Option Addr} (hA : k < n → A = some ⟨g, o + k * size, none⟩) : Rd w size A (n - k) (xs.drop (k * size)) := by
  refine ⟨by rw [List.length_drop, h.1, Nat.sub_mul], fun hk0 => ?_⟩
  obtain ⟨g', o', ha, hg, hc⟩ := h.2 (by omega)
  cases ha
  refine ⟨g, o + k * size, hA (by omega), hg, fun j u hu => ?_⟩
  rw [List.getElem?_drop] at hu
  have := hc _ u hu
  rwa [← Nat.add_assoc] at this
theorem Rd.keep {w w' : World} {size n : Nat} {A : Option Addr} {xs : List Value} (h : Rd w size A n xs) (hsz : w.heap.size ≤ w'.heap.size) (hk : ∀ a, A = some a → w'.heap[a.block]? = w.heap[a.block]?) : Rd w' size A n xs :=
  ⟨h.1, fun hn => by
    obtain ⟨g, o, e, hg, hc⟩ := h.2 hn
    exact ⟨g, o, e, Nat.lt_of_lt_of_le hg hsz, fun j u hu => (World.cell?_of_block (a := ⟨g, o + j, none⟩) (hk ⟨g, o, none⟩ e)).trans (hc j u hu)⟩⟩
theorem own_pos {w : World} {base : Nat} {e : TypeId} {size n : Nat} {v : Value} {xs : List Value} (h : w.ownsRow base e size v n xs) (hn : 0 < n) : ∃ g c, v = .slice (some ⟨g, 0, none⟩) n c := by
  rcases h.2 with ⟨_, h0⟩ | ⟨g, cap, cur, rfl, _⟩
  · omega
  · exact ⟨g, cap, rfl⟩
end Go.Proofs.Ytnmbblkfaoihfaa

namespace Go.Proofs.Ytnmbblkfaoihfaa

/-- The digits of a number to the base 256, the highest first, without noughts ahead (at most f of them). -/
def digF : Nat → Nat → List Nat
  | 0, _ => []
  | f + 1, u => if u = 0 then [] else digF f (u / 256) ++ [u % 256]
def dig (u : Nat) : List Nat := digF 8 u

theorem digF_zero (f : Nat) : digF f 0 = [] := by cases f <;> simp [digF]
theorem digF_length (f u : Nat) (h : u < 256 ^ f) : (Lib.bitLenAux (8 * f) u + 7) / 8 = (digF f u).length := by
  induction f generalizing u with
  | zero => simp [digF, Lib.bitLenAux]
  | succ f ih =>
    by_cases h0 : u = 0
    · subst h0
      rw [digF_zero]
      have : 8 * (f + 1) = (8 * f + 7) + 1 := by omega
      rw [this]
      simp [Lib.bitLenAux]
    · have hq : u / 256 < 256 ^ f := by
        rw [Nat.div_lt_iff_lt_mul (by omega), ← Nat.pow_succ]
        exact h
      have h1 := ih (u / 256) hq
      rw [digF, if_neg h0, List.length_append, ← h1]
      -- eight halvings, or fewer where nothing is left
      have e8 : 8 * (f + 1) = 8 * f + 1 + 1 + 1 + 1 + 1 + 1 + 1 + 1 := by omega
      rw [e8]
      have hdiv : u / 2 / 2 / 2 / 2 / 2 / 2 / 2 / 2 = u / 256 := by omega
      simp only [Lib.bitLenAux, hdiv, List.length_singleton]
      by_cases c1 : u / 2 = 0
      · have : u / 256 = 0 := by omega
        rw [this]
        have hz : ∀ g, Lib.bitLenAux g 0 = 0 := fun g => by cases g <;> simp [Lib.bitLenAux]
        simp [h0, c1, hz]
      · by_cases c2 : u / 2 / 2 = 0
        · have : u / 256 = 0 := by omega
          rw [this]
          have hz : ∀ g, Lib.bitLenAux g 0 = 0 := fun g => by cases g <;> simp [Lib.bitLenAux]
          simp [h0, c1, c2, hz]
        · by_cases c3 : u / 2 / 2 / 2 = 0
          · have : u / 256 = 0 := by omega
            rw [this]
            have hz : ∀ g, Lib.bitLenAux g 0 = 0 := fun g => by cases g <;> simp [Lib.bitLenAux]
            simp [h0, c1, c2, c3, hz]
          · by_cases c4 : u / 2 / 2 / 2 / 2 = 0
            · have : u / 256 = 0 := by omega
              rw [this]
              have hz : ∀ g, Lib.bitLenAux g 0 = 0 := fun g => by cases g <;> simp [Lib.bitLenAux]
              simp [h0, c1, c2, c3, c4, hz]
            · by_cases c5 : u / 2 / 2 / 2 / 2 / 2 = 0
              · have : u / 256 = 0 := by omega
                rw [this]
                have hz : ∀ g, Lib.bitLenAux g 0 = 0 := fun g => by cases g <;> simp [Lib.bitLenAux]
                simp [h0, c1, c2, c3, c4, c5, hz]
              · by_cases c6 : u / 2 / 2 / 2 / 2 / 2 / 2 = 0
                · have : u / 256 = 0 := by omega
                  rw [this]
                  have hz : ∀ g, Lib.bitLenAux g 0 = 0 := fun g => by cases g <;> simp [Lib.bitLenAux]
                  simp [h0, c1, c2, c3, c4, c5, c6, hz]
                · by_cases c7 : u / 2 / 2 / 2 / 2 / 2 / 2 / 2 = 0
                  · have : u / 256 = 0 := by omega
                    rw [this]
                    have hz : ∀ g, Lib.bitLenAux g 0 = 0 := fun g => by cases g <;> simp [Lib.bitLenAux]
                    simp [h0, c1, c2, c3, c4, c5, c6, c7, hz]
                  · simp only [h0, c1, c2, c3, c4, c5, c6, c7, if_false]
                    omega
theorem dig_length (u : Nat) (h : u < 18446744073709551616) : (Lib.bitLen u + 7) / 8 = (dig u).length := digF_length 8 u (by simpa using h)
theorem digF_le (f u : Nat) : (digF f u).length ≤ f := by
  induction f generalizing u with
  | zero => simp [digF]
  | succ f ih =>
    rw [digF]
    split
    · simp
    · have := ih (u / 256)
      simp
      omega
theorem dig_le (u : Nat) : (dig u).length ≤ 8 := digF_le 8 u
theorem digF_lt (f u : Nat) : ∀ b ∈ digF f u, b < 256 := by
  induction f generalizing u with
  | zero => simp [digF]
  | succ f ih =>
    rw [digF]
    split
    · simp
    · intro b hb
      rcases List.mem_append.1 hb with hb | hb
      · exact ih _ b hb
      · simp at hb; omega
theorem dig_lt (u : Nat) : ∀ b ∈ dig u, b < 256 := digF_lt 8 u
/-- The number that bytes make. -/
def val (l : List Nat) : Nat := l.foldl (fun a b => a * 256 + b) 0
theorem val_snoc (l : List Nat) (b : Nat) : val (l ++ [b]) = val l * 256 + b := by simp [val]
theorem val_digF (f u : Nat) (h : u < 256 ^ f) : val (digF f u) = u := by
  induction f generalizing u with
  | zero => simp at h; subst h; simp [digF, val]
  | succ f ih =>
    rw [digF]
    split
    · subst_vars; simp [val]
    · rw [val_snoc, ih (u / 256) (by rw [Nat.div_lt_iff_lt_mul (by omega), ← Nat.pow_succ]; exact h)]
      omega
theorem val_dig (u : Nat) (h : u < 18446744073709551616) : val (dig u) = u := val_digF 8 u (by simpa using h)
/-- The j-th digit from the end. -/
theorem digF_get (f u : Nat) (h : u < 256 ^ f) (j : Nat) (hj : j < (digF f u).length) : (digF f u)[(digF f u).length - 1 - j]'(by omega) = u / 256 ^ j % 256 := by
  induction f generalizing u j with
  | zero => simp [digF] at hj
  | succ f ih =>
    by_cases h0 : u = 0
    · subst h0; rw [digF_zero] at hj; simp at hj
    · have hq : u / 256 < 256 ^ f := by rw [Nat.div_lt_iff_lt_mul (by omega), ← Nat.pow_succ]; exact h
      have e : digF (f + 1) u = digF f (u / 256) ++ [u % 256] := by rw [digF, if_neg h0]
      have hl : (digF (f + 1) u).length = (digF f (u / 256)).length + 1 := by rw [e]; simp
      cases j with
      | zero =>
        simp only [e, List.length_append, List.length_singleton, Nat.add_sub_cancel, Nat.sub_zero]
        rw [List.getElem_append_right (Nat.le_refl _)]
        simp
      | succ j =>
        have hj' : j < (digF f (u / 256)).length := by omega
        have := ih (u / 256) hq j hj'
        simp only [e, List.length_append, List.length_singleton, Nat.add_sub_cancel]
        rw [List.getElem_append_left (by omega)]
        have e2 : (digF f (u / 256)).length - (j + 1) = (digF f (u / 256)).length - 1 - j := by omega
        simp only [e2]
        rw [this, Nat.pow_succ, Nat.mul_comm, ← Nat.div_div_eq_div_mul]
theorem digF_pos (f u : Nat) (h : u < 256 ^ f) (h0 : 0 < u) : 0 < (digF f u).length := by
  cases f with
  | zero => simp at h; omega
  | succ f => rw [digF, if_neg (by omega)]; simp
/-- The first of the last k digits, with the others behind it: what a loop from the highest digit on has written. -/
def digTo (u k : Nat) : List Nat := (dig u).take k
theorem digTo_succ (u k : Nat) (h : u < 18446744073709551616) (hk : k < (dig u).length) : digTo u (k + 1) = digTo u k ++ [u / 256 ^ ((dig u).length - 1 - k) % 256] := by
  unfold digTo
  rw [List.take_succ_eq_append_getElem hk]
  have := digF_get 8 u (by simpa using h) ((dig u).length - 1 - k) (by unfold dig at hk ⊢; omega)
  congr 2
  unfold dig at hk this ⊢
  rw [← this]
  congr 1
  omega

/-- The cell of a number. -/
def numB (n : Int) : List Nat :=
  if 0 ≤ n ∧ n < 128 then [n.toNat] else if 0 ≤ n then (128 + (dig n.toNat).length) :: dig n.toNat else (144 + (dig (-1 - n).toNat).length) :: dig (-1 - n).toNat
/-- A 64-bit number. -/
def I64 (n : Int) : Prop := -9223372036854775808 ≤ n ∧ n ≤ 9223372036854775807
theorem numB_lt (n : Int) : ∀ b ∈ numB n, b < 256 := by
  unfold numB
  split
  · intro b hb; simp at hb; omega
  · split
    · intro b hb
      rcases List.mem_cons.1 hb with rfl | hb
      · have := dig_le n.toNat; omega
      · exact dig_lt _ b hb
    · intro b hb
      rcases List.mem_cons.1 hb with rfl | hb
      · have := dig_le (-1 - n).toNat; omega
      · exact dig_lt _ b hb
theorem numB_length (n : Int) : 1 ≤ (numB n).length ∧ (numB n).length ≤ 9 := by
  unfold numB
  split
  · simp
  · split
    · have := dig_le n.toNat; simp; omega
    · have := dig_le (-1 - n).toNat; simp; omega
end Go.Proofs.Ytnmbblkfaoihfaa

namespace Go.Proofs
open Go.Shelf
def Try.lays129_ren : Go.Shelf.Ren := ⟨fun | 129 => 71 | n => n, fun | 53 => 124 | 3 => 3 | 4 => 4 | 46 => 126 | 5 => 5 | 9 => 9 | n => n, fun | n => n⟩
theorem Try.lays129 : Go.Proofs.Lays.n129 Try.prog Try.lays129_ren := {
  mixed := by kernel_rfl
  f129 := Try.func71.trans (congrArg some (by kernel_rfl))
  t3 := Try.underlying3
  a3 := Try.isAgg3
  z3 := Try.sizeOf3
  v3 := Try.zeroValue3
  t4 := Try.underlying4
  a4 := Try.isAgg4
  z4 := Try.sizeOf4
  v4 := Try.zeroValue4
  t5 := Try.underlying5
  a5 := Try.isAgg5
  z5 := Try.sizeOf5
  v5 := Try.zeroValue5
  t9 := Try.underlying9
  a9 := Try.isAgg9
  z9 := Try.sizeOf9
  v9 := Try.zeroValue9
  t46 := Try.underlying126
  a46 := Try.isAgg126
  z46 := Try.sizeOf126
  v46 := Try.zeroValue126
  t53 := Try.underlying124
  a53 := Try.isAgg124
  z53 := Try.sizeOf124
  v53 := Try.zeroValue124 }
/-- bits.Len64: "Len64 returns the minimum number of bits required to represent x; the result is 0 for x == 0.": IT RETURNS 'Lib.bitLen x'; the world is as it was. ('h0', 'h1': x is a uint64.) (LAID: no walk: one application.) -/
theorem Try.bits_Len64 (x : Int) (w : World) (h0 : 0 ≤ x) (h1 : x ≤ 18446744073709551615) :
    Calls Try.prog 71 #[.int .u64 x] w fun e w' => e = .returned (.int .i64 (Lib.bitLen x.toNat)) ∧ w' = w := Any.bits_Len64 Try.lays129 x w h0 h1
end Go.Proofs
