/- Joined: More memory words: several cells of one block set one behind the other; a slice cleared. No program is named here. append onto a row of the call's own, from whatever slice. No program is named here. Lists of goods, by definition: what may be, sums, what both have, what one has more. items.Good and the reference's. -/
import Derived.Test.YtpccbobomppdbaaZR1
import Derived.Deep.RegionLaw
import Derived.Lib.SliceRun
import Derived.Lib.Hide
import Derived.Lib.Strings
import Derived.Test.YtpccbobomppdbaaRows
import Derived.Laws.RangeString
import Derived.Laws.RangeAny
namespace Go.Proofs.Ytpccbobomppdbaa
open Go.RowKit

/-- The cells of a block behind several stores in a row. -/
def over : Array Value → Nat → List Value → Array Value
  | cs, _, [] => cs
  | cs, o, v :: r => over (cs.setIfInBounds o v) (o + 1) r
theorem over_size : ∀ (vs : List Value) (cs : Array Value) (o : Nat), (over cs o vs).size = cs.size
  | [], _, _ => rfl
  | v :: r, cs, o => by rw [over, over_size r]; simp
theorem over_get : ∀ (vs : List Value) (cs : Array Value) (o j : Nat), o + vs.length ≤ cs.size → (over cs o vs)[j]? = if o ≤ j ∧ j < o + vs.length then vs[j - o]? else cs[j]?
  | [], cs, o, j, _ => by
    rw [over, if_neg]
    simp
  | v :: r, cs, o, j, h => by
    simp only [List.length_cons] at h
    rw [over, over_get r _ (o + 1) j (by simp; omega)]
    simp only [List.length_cons]
    by_cases h1 : o + 1 ≤ j ∧ j < o + 1 + r.length
    · rw [if_pos h1, if_pos (by omega)]
      obtain ⟨d, rfl⟩ : ∃ d, j = o + 1 + d := ⟨j - (o + 1), by omega⟩
      rw [show o + 1 + d - (o + 1) = d from by omega, show o + 1 + d - o = d + 1 from by omega]
      rfl
    · rw [if_neg h1]
      by_cases h2 : j = o
      · subst h2
        rw [if_pos (by omega), Array.getElem?_setIfInBounds_self_of_lt (by omega)]
        simp
      · rw [if_neg (by omega), Array.getElem?_setIfInBounds_ne (by omega)]
theorem block_over {k : Nat} {t : TypeId} {f : Nat × Nat} : ∀ (vs : List Value) (cs : Array Value) (o : Nat) (w : World), w.heap[k]? = some (.cells cs t f) → (w.setCells k o vs).heap[k]? = some (.cells (over cs o vs) t f)
  | [], _, _, _, h => h
  | v :: r, cs, o, _, h => block_over r (cs.setIfInBounds o v) (o + 1) _ (block_set h o v)
theorem Fr.setCells {B : Nat} {T : List TypeId} {S : List Nat} {a : World} {k : Nat} (hB : B ≤ k) : ∀ (vs : List Value) (o : Nat) (w : World), Fr B T S a w → (k ∈ S ∨ ∃ cs t f, w.heap[k]? = some (.cells cs t f) ∧ t ∈ T) → Fr B T S a (w.setCells k o vs)
  | [], _, _, h, _ => h
  | v :: r, o, w, h, ht => Fr.setCells hB r (o + 1) _ (h.setCell (p := ⟨k, o, none⟩) v hB ht) (by
      rcases ht with ht | ⟨cs, t, f, he, ht⟩
      · exact .inl ht
      · exact .inr ⟨_, t, f, block_set he o v, ht⟩)
theorem take_over {cs : Array Value} {o : Nat} {vs xs : List Value} {n : Nat} (hn : n = o + vs.length) (hx : o ≤ xs.length) (hs : n ≤ cs.size) (ht : cs.toList.take xs.length = xs) : (over cs o vs).toList.take n = xs.take o ++ vs := by
  have hxs : xs.length ≤ cs.size := by
    have := congrArg List.length ht
    simp at this
    omega
  apply List.ext_getElem?
  intro j
  rw [List.getElem?_take]
  by_cases hj : j < n
  · rw [if_pos hj, Array.getElem?_toList, over_get _ _ _ _ (by omega)]
    by_cases h1 : o ≤ j
    · rw [if_pos (by omega), List.getElem?_append_right (by simp; omega)]
      simp
      rw [Nat.min_eq_left hx]
    · rw [if_neg (by omega), List.getElem?_append_left (by simp; omega), List.getElem?_take, if_pos (by omega), ← ht, List.getElem?_take, if_pos (by omega), Array.getElem?_toList]
  · rw [if_neg hj, List.getElem?_eq_none]
    simp
    omega

/-- 'clear(s)' of a slice of n > 0 elements of several cells each. -/
theorem run_clear_many {P : Program} (w : World) (t e : TypeId) (z : Value) (ht : P.underlying t = some (.slice e)) (hv : ∀ w, (zeroValue e).run P w = .ok z w) (h1 : ∀ u ∈ z.cells, u.oneCell' = true) (b o n c : Nat) (hn : 0 < n)
    (hc : ∀ j, j < n * z.cells.size → (w.cell? ⟨b, o + j, none⟩).isSome = true) (hf : ∀ j, j < n * z.cells.size → w.frozen? ⟨b, o + j, none⟩ = false) :
    ∃ vs : List Value, vs.length = n * z.cells.size ∧ ∀ ty, (Builtin.clear_ #[t] ty #[.slice (some ⟨b, o, none⟩) n c]).run P w = .ok (.tuple #[]) (w.setCells b o vs) := by
  obtain ⟨vs, hvs⟩ : ∃ vs, (Builtin.zeroCells z.cells n).toList = vs := ⟨_, rfl⟩
  have hl : vs.length = n * z.cells.size := by rw [← hvs]; simp [Builtin.zeroCells]
  have hone : ∀ u ∈ vs, u.oneCell' = true := by
    intro u hu
    rw [← hvs] at hu
    simp [Builtin.zeroCells] at hu
    obtain ⟨i, hi, rfl⟩ := hu
    by_cases h0 : z.cells.size = 0
    · rw [h0] at hi; omega
    · have hm : i % z.cells.size < z.cells.size := Nat.mod_lt _ (by omega)
      have := h1 z.cells[i % z.cells.size] (by simp)
      simpa [hm] using this
  have hst := run_storeCells_cells (P := P) b o vs 0 w (by simpa [hl] using hc) (by simpa [hl] using hf) hone
  simp only [Nat.add_zero] at hst
  obtain ⟨m, rfl⟩ : ∃ m, n = m + 1 := ⟨n - 1, by omega⟩
  exact ⟨vs, hl, fun ty => by simp [Builtin.clear_, run_underlying ht, hv, hvs, hst]⟩
end Go.Proofs.Ytpccbobomppdbaa

namespace Go.Proofs.Ytpccbobomppdbaa
open Go.RowKit

section
variable {P : Program} (w : World)

theorem run_append_rd (base : Nat) (t ty e : TypeId) (i : TypeInfo) (z : Value) (size bytes : Nat) (ht : P.underlying t = some (.slice e)) (hi : P.info? e = some i) (hz : i.zero = some z)
    (hsize : i.size = size) (hby : i.bytes = bytes) (hzs : z.cells.size = size) (hsz : 0 < size)
    (v : Value) (n : Nat) (xs : List Value) (hown : w.ownsRow base e size v n xs)
    (A : Option Addr) (m c : Nat) (news : List Value) (hr : Rd w size A m news) (h1 : ∀ u ∈ news, u.oneCell' = true)
    (h63 : n + m ≤ maxLen) (hbytes : (n + m) * bytes ≤ 140737488355328) (hbase : base ≤ w.heap.size) :
    ∃ v' w', (Builtin.append_ #[t, t] ty #[v, .slice A m c]).run P w = .ok v' w' ∧ w'.ownsRow base e size v' (n + m) (xs ++ news) ∧ w.grownBy w' v.ownBlock ∧ (v' = .slice none 0 0 → v = .slice none 0 0 ∧ m = 0) := by
  by_cases hm : m = 0
  · subst hm
    have hn : news = [] := List.eq_nil_of_length_eq_zero (by simpa using hr.1)
    subst hn
    cases A with
    | none =>
      refine ⟨v, w, ?_, by simpa using hown, World.grownBy.refl w _, fun h => ⟨h, rfl⟩⟩
      rcases hown.2 with ⟨rfl, rfl⟩ | ⟨g, cap, cur, rfl, _, _, hnc, _⟩
      · simp [Builtin.append_, run_underlying ht, sizeOf, typeInfo, hi, Builtin.lenOf, Builtin.firstCells]
      · simp [Builtin.append_, run_underlying ht, sizeOf, typeInfo, hi, Builtin.lenOf, Builtin.firstCells, hnc, storeCells]
    | some a =>
      obtain ⟨v', w', h2, h3, h4, h5⟩ := run_append_own (P := P) w base t ty e i z size bytes ht hi hz hsize hby hzs hsz v n xs hown a 0 c [] (by simp) (by simp) (by simp) h63 hbytes hbase
      exact ⟨v', w', h2, h3, h4, h5.1⟩
  · obtain ⟨g, o, rfl, hg, hc⟩ := hr.2 (by omega)
    obtain ⟨v', w', h2, h3, h4, h5⟩ := run_append_own (P := P) w base t ty e i z size bytes ht hi hz hsize hby hzs hsz v n xs hown ⟨g, o, none⟩ m c news hr.1 (fun j u hu => by
      have := hc j u hu
      have e : (⟨g, o, none⟩ : Addr).add j = ⟨g, o + j, none⟩ := by unfold Addr.add; split <;> simp_all
      rw [e]; exact this) h1 h63 hbytes hbase
    exact ⟨v', w', h2, h3, h4, h5.1⟩

theorem wp_append_rd {o : Oper} {a : Act} {K : Act → World → Prop} {Q : Exit → Act → World → Prop} (s x : Operand) (t : TypeId)
    (ho : o.op = .call { callee := .builtin .append, args := #[s, x], argTypes := #[t, t] })
    (base : Nat) (e : TypeId) (i : TypeInfo) (z : Value) (size bytes : Nat) (ht : P.underlying t = some (.slice e)) (hi : P.info? e = some i) (hz : i.zero = some z)
    (hsize : i.size = size) (hby : i.bytes = bytes) (hzs : z.cells.size = size) (hsz : 0 < size)
    (v : Value) (n : Nat) (xs : List Value) (hs : a.eval s = v) (hown : w.ownsRow base e size v n xs)
    (A : Option Addr) (m c : Nat) (news : List Value) (hx : a.eval x = .slice A m c) (hr : Rd w size A m news) (h1 : ∀ u ∈ news, u.oneCell' = true)
    (h63 : n + m ≤ maxLen) (hbytes : (n + m) * bytes ≤ 140737488355328) (hbase : base ≤ w.heap.size)
    (h : ∀ v' w', w'.ownsRow base e size v' (n + m) (xs ++ news) → w.grownBy w' v.ownBlock → (v' = .slice none 0 0 → v = .slice none 0 0 ∧ m = 0) → K (a.put o.dst v') w') : o.wp P a w K Q := by
  obtain ⟨v', w', hrun, h2, h3, h4⟩ := run_append_rd (P := P) w base t o.type e i z size bytes ht hi hz hsize hby hzs hsz v n xs hown A m c news hr h1 h63 hbytes hbase
  unfold Oper.wp execOp
  simp only [ho, resolve, invoke, builtin, Sem.run_bind, Sem.run_pure, Result.andThen_ok, List.map_toArray, List.map_cons, List.map_nil, hs, hx, hrun]
  exact h v' w' h2 h3 h4

theorem wpList_append_rd {ops : Array Oper} {rest : List Oper} {o : Oper} {a : Act} {Q : Exit → Act → World → Prop} (hgd : o.guard = none) (s x : Operand) (t : TypeId)
    (ho : o.op = .call { callee := .builtin .append, args := #[s, x], argTypes := #[t, t] })
    (base : Nat) (e : TypeId) (i : TypeInfo) (z : Value) (size bytes : Nat) (ht : P.underlying t = some (.slice e)) (hi : P.info? e = some i) (hz : i.zero = some z)
    (hsize : i.size = size) (hby : i.bytes = bytes) (hzs : z.cells.size = size) (hsz : 0 < size)
    (v : Value) (n : Nat) (xs : List Value) (hs : a.eval s = v) (hown : w.ownsRow base e size v n xs)
    (A : Option Addr) (m c : Nat) (news : List Value) (hx : a.eval x = .slice A m c) (hr : Rd w size A m news) (h1 : ∀ u ∈ news, u.oneCell' = true)
    (h63 : n + m ≤ maxLen) (hbytes : (n + m) * bytes ≤ 140737488355328) (hbase : base ≤ w.heap.size)
    (h : ∀ v' w', w'.ownsRow base e size v' (n + m) (xs ++ news) → w.grownBy w' v.ownBlock → (v' = .slice none 0 0 → v = .slice none 0 0 ∧ m = 0) → wpList P ops Q rest (a.put o.dst v') w') : wpList P ops Q (o :: rest) a w :=
  wpList_plain hgd fun _ hK => wp_append_rd w s x t ho base e i z size bytes ht hi hz hsize hby hzs hsz v n xs hs hown A m c news hx hr h1 h63 hbytes hbase fun v' w' h2 h3 h4 => hK _ _ (h v' w' h2 h3 h4)

theorem step_append_rd {ops : Array Oper} {o : Oper} {a : Act} {K : Act → World → Prop} {Q : Exit → Act → World → Prop} {E : Prop} (hgd : o.guard = none) (s x : Operand) (t : TypeId)
    (ho : o.op = .call { callee := .builtin .append, args := #[s, x], argTypes := #[t, t] })
    (base : Nat) (e : TypeId) (i : TypeInfo) (z : Value) (size bytes : Nat) (ht : P.underlying t = some (.slice e)) (hi : P.info? e = some i) (hz : i.zero = some z)
    (hsize : i.size = size) (hby : i.bytes = bytes) (hzs : z.cells.size = size) (hsz : 0 < size)
    (v : Value) (n : Nat) (xs : List Value) (hs : a.eval s = v) (hown : w.ownsRow base e size v n xs)
    (A : Option Addr) (m c : Nat) (news : List Value) (hx : a.eval x = .slice A m c) (hr : Rd w size A m news) (h1 : ∀ u ∈ news, u.oneCell' = true)
    (h63 : n + m ≤ maxLen) (hbytes : (n + m) * bytes ≤ 140737488355328) (hbase : base ≤ w.heap.size)
    (h : ∀ v' w', w'.ownsRow base e size v' (n + m) (xs ++ news) → w.grownBy w' v.ownBlock → (v' = .slice none 0 0 → v = .slice none 0 0 ∧ m = 0) → K (a.put o.dst v') w') :
    if Region.wanted o (yielded ops a.tmps) = true then Oper.wp P o a w K Q else E := by
  have hw : Region.wanted o (yielded ops a.tmps) = true := by simp [Region.wanted, hgd]
  rw [if_pos hw]
  exact wp_append_rd w s x t ho base e i z size bytes ht hi hz hsize hby hzs hsz v n xs hs hown A m c news hx hr h1 h63 hbytes hbase h
end

theorem Rd.take {w : World} {size : Nat} {A : Option Addr} {n : Nat} {xs : List Value} (h : Rd w size A n xs) {k : Nat} (hk : k ≤ n) : Rd w size A k (xs.take (k * size)) := by
  refine ⟨?_, fun hk0 => ?_⟩
  · rw [List.length_take, h.1]
    exact Nat.min_eq_left (Nat.mul_le_mul_right _ hk)
  · obtain ⟨g, o, ha, hg, hc⟩ := h.2 (by omega)
    refine ⟨g, o, ha, hg, fun j u hu => ?_⟩
    rw [List.getElem?_take] at hu
    split at hu
    · exact hc j u hu
    · cases hu
/-- s[k:], whatever the walk has made of its address where the capacity ends. -/
theorem Rd.drop {w : World} {size : Nat} {g o : Nat} {n : Nat} {xs : List Value} (h : Rd w size (some ⟨g, o, none⟩) n xs) {k : Nat} (hk : k ≤ n) {A : Option Addr} (hA : k < n → A = some ⟨g, o + k * size, none⟩) : Rd w size A (n - k) (xs.drop (k * size)) := by
  refine ⟨by rw [List.length_drop, h.1, Nat.sub_mul], fun hk0 => ?_⟩
  obtain ⟨g', o', ha, hg, hc⟩ := h.2 (by omega)
  cases ha
  refine ⟨g, o + k * size, hA (by omega), hg, fun j u hu => ?_⟩
  rw [List.getElem?_drop] at hu
  have := hc _ u hu
  rwa [← Nat.add_assoc] at this
theorem Rd.keep {w w' : World} {size n : Nat} {A : Option Addr} {xs : List Value} (h : Rd w size A n xs) (hsz : w.heap.size ≤ w'.heap.size) (hk : ∀ a, A = some a → w'.heap[a.block]? = w.heap[a.block]?) : Rd w' size A n xs :=
  ⟨h.1, fun hn => by
    obtain ⟨g, o, e, hg, hc⟩ := h.2 hn
    exact ⟨g, o, e, Nat.lt_of_lt_of_le hg hsz, fun j u hu => (World.cell?_of_block (a := ⟨g, o + j, none⟩) (hk ⟨g, o, none⟩ e)).trans (hc j u hu)⟩⟩
theorem own_pos {w : World} {base : Nat} {e : TypeId} {size n : Nat} {v : Value} {xs : List Value} (h : w.ownsRow base e size v n xs) (hn : 0 < n) : ∃ g c, v = .slice (some ⟨g, 0, none⟩) n c := by
  rcases h.2 with ⟨_, h0⟩ | ⟨g, cap, cur, rfl, _⟩
  · omega
  · exact ⟨g, cap, rfl⟩
end Go.Proofs.Ytpccbobomppdbaa

namespace Go.Proofs.Ytpccbobomppdbaa
open Go.RowKit

/-- A good and how many. -/
structure It where
  good : ByteArray
  n : Int
def encI (z : It) : List Value := [.string z.good, .int .i64 z.n]
/-- A letter of a good. -/
def okC (c : UInt8) : Bool := (decide (97 ≤ c.toNat) && decide (c.toNat ≤ 122)) || (decide (48 ≤ c.toNat) && decide (c.toNat ≤ 57)) || decide (c.toNat = 45)
theorem okC_iff (c : UInt8) : okC c = true ↔ (97 ≤ c.toNat ∧ c.toNat ≤ 122) ∨ (48 ≤ c.toNat ∧ c.toNat ≤ 57) ∨ c.toNat = 45 := by
  simp [okC, or_assoc]
def goodS (s : ByteArray) : Bool := s.toList.all okC && decide (1 ≤ s.size) && decide (s.size ≤ 16)
/-- The lexical order of texts. -/
def ltS (a b : ByteArray) : Bool := Op.bytesLess a.toList b.toList
theorem bytesLess_lt : ∀ (x y : List UInt8), Op.bytesLess x y = decide (x < y)
  | [], [] => by simp [Op.bytesLess]
  | _ :: _, [] => by simp [Op.bytesLess]
  | [], _ :: _ => by simp [Op.bytesLess]
  | a :: x, b :: y => by
    rw [Op.bytesLess, bytesLess_lt x y]
    simp only [List.cons_lt_cons_iff]
    by_cases h1 : a < b <;> by_cases h2 : a = b <;> by_cases h3 : x < y <;> simp [h1, h2, h3]
theorem toList_inj {a b : ByteArray} (h : a.toList = b.toList) : a = b := by
  rw [Lib.toList_data, Lib.toList_data] at h
  cases a; cases b
  simp only at h
  congr
  exact Array.toList_inj.1 h
theorem ltS_irrefl (a : ByteArray) : ltS a a = false := by
  unfold ltS; rw [bytesLess_lt]; simp
theorem ltS_trans {a b c : ByteArray} (h1 : ltS a b = true) (h2 : ltS b c = true) : ltS a c = true := by
  unfold ltS at *
  rw [bytesLess_lt] at *
  simp only [decide_eq_true_eq] at *
  exact List.lt_trans h1 h2
theorem ltS_total (a b : ByteArray) : ltS a b = true ∨ a = b ∨ ltS b a = true := by
  unfold ltS
  simp only [bytesLess_lt, decide_eq_true_eq]
  by_cases h : a.toList < b.toList
  · exact .inl h
  · have h1 : b.toList ≤ a.toList := List.not_lt.1 h
    by_cases e : a = b
    · exact .inr (.inl e)
    · refine .inr (.inr ?_)
      rcases Classical.em (b.toList < a.toList) with h2 | h2
      · exact h2
      · exact absurd (toList_inj (List.le_antisymm (List.not_lt.1 h2) h1)) e
/-- 'a <= b', as the code asks it. -/
theorem leS_iff (a b : ByteArray) : (Op.bytesLess a.toList b.toList || a.toList == b.toList) = !ltS b a := by
  by_cases h : ltS b a = true
  · rw [h]
    have h1 : ltS a b = false := by
      by_cases h2 : ltS a b = true
      · have := ltS_trans h h2; rw [ltS_irrefl] at this; cases this
      · simpa using h2
    have h2 : (a.toList == b.toList) = false := by
      simp only [beq_eq_false_iff_ne]
      intro e
      rw [toList_inj e, ltS_irrefl] at h
      cases h
    unfold ltS at h1
    rw [h1, h2]; rfl
  · have h' : ltS b a = false := by simpa using h
    rw [h']
    rcases ltS_total a b with h1 | rfl | h1
    · unfold ltS at h1; rw [h1]; rfl
    · simp
    · exact absurd h1 h
/-- May the item at k be? -/
def okItem (z : It) : Bool := goodS z.good && decide (1 ≤ z.n) && decide (z.n ≤ 1099511627776)
def okAt (l : List It) (k : Nat) : Bool :=
  match l[k]? with
  | none => false
  | some z => okItem z && (match k with | 0 => true | j + 1 => match l[j]? with | none => false | some x => ltS x.good z.good)
/-- May a list be? -/
def mayI (l : List It) : Bool := (List.range l.length).all (okAt l) && decide (l.length ≤ 16)
theorem mayI_all {l : List It} (h : ∀ k, k < l.length → okAt l k = true) : mayI l = decide (l.length ≤ 16) := by
  unfold mayI
  rw [List.all_eq_true.2 (fun k hk => h k (List.mem_range.1 hk))]
  rfl
theorem mayI_bad {l : List It} {k : Nat} (hk : k < l.length) (h : okAt l k = false) : mayI l = false := by
  unfold mayI
  rw [List.all_eq_false.2 ⟨k, List.mem_range.2 hk, by rw [h]; simp⟩]
  rfl
theorem mayI_at {l : List It} (h : mayI l = true) : l.length ≤ 16 ∧ ∀ k, k < l.length → okAt l k = true := by
  unfold mayI at h
  simp only [Bool.and_eq_true, decide_eq_true_eq] at h
  exact ⟨h.2, fun k hk => List.all_eq_true.1 h.1 k (List.mem_range.2 hk)⟩
theorem okAt_zero {l : List It} (h : 0 < l.length) : okAt l 0 = okItem l[0] := by
  unfold okAt
  rw [List.getElem?_eq_getElem h]
  simp
theorem okAt_succ {l : List It} {k : Nat} (h : k + 1 < l.length) : okAt l (k + 1) = (okItem l[k + 1] && ltS l[k].good l[k + 1].good) := by
  unfold okAt
  rw [List.getElem?_eq_getElem h]
  simp [List.getElem?_eq_getElem (show k < l.length by omega)]
theorem okAt_item {l : List It} {k : Nat} (hk : k < l.length) (h : okAt l k = true) : okItem l[k] = true := by
  cases k with
  | zero => rw [okAt_zero hk] at h; exact h
  | succ k => rw [okAt_succ hk] at h; simp only [Bool.and_eq_true] at h; exact h.1
theorem okItem_iff {z : It} : okItem z = true ↔ goodS z.good = true ∧ 1 ≤ z.n ∧ z.n ≤ 1099511627776 := by
  simp [okItem, and_assoc]
/-- How many of a good. -/
def ofI : List It → ByteArray → Int
  | [], _ => 0
  | x :: l, g => (if x.good.toList == g.toList then x.n else 0) + ofI l g
theorem ofI_snoc (l : List It) (x : It) (g : ByteArray) : ofI (l ++ [x]) g = if x.good.toList == g.toList then ofI l g + x.n else ofI l g := by
  induction l with
  | nil => by_cases h : (x.good.toList == g.toList) = true <;> simp [ofI, h]
  | cons y l ih => simp only [List.cons_append, ofI]; rw [ih]; by_cases h : (x.good.toList == g.toList) = true <;> simp [h] <;> omega
theorem ofI_bd {l : List It} (g : ByteArray) (h : ∀ x ∈ l, 1 ≤ x.n ∧ x.n ≤ 1099511627776) : 0 ≤ ofI l g ∧ ofI l g ≤ 1099511627776 * l.length := by
  induction l with
  | nil => simp [ofI]
  | cons x l ih =>
    have h1 := ih (fun y hy => h y (by simp [hy]))
    have h2 := h x (by simp)
    simp only [List.length_cons, ofI]
    split <;> omega
/-- What is made of each good of a list. -/
def eachI (f : Int → Int → Int) (b : List It) : List It → List It
  | [] => []
  | x :: l => if 0 < f x.n (ofI b x.good) then ⟨x.good, f x.n (ofI b x.good)⟩ :: eachI f b l else eachI f b l
theorem eachI_snoc (f : Int → Int → Int) (b : List It) : ∀ (l : List It) (x : It), eachI f b (l ++ [x]) = if 0 < f x.n (ofI b x.good) then eachI f b l ++ [⟨x.good, f x.n (ofI b x.good)⟩] else eachI f b l
  | [], x => by simp only [List.nil_append, eachI]
  | y :: l, x => by
    have ih := eachI_snoc f b l x
    simp only [List.cons_append, eachI]
    rw [ih]
    split <;> split <;> rfl
def meetI (a b : List It) : List It := eachI (fun n o => min n o) b a
def restI (a b : List It) : List It := eachI (fun n o => n - o) b a
/-- A list of items that may be read. -/
def RdI (W : World) (v : Value) (l : List It) : Prop := ∃ A c, v = .slice A l.length c ∧ l.length ≤ c ∧ c ≤ maxLen ∧ Rd W 2 A l.length (l.flatMap encI)
theorem RdI.below {W W' : World} {v : Value} {l : List It} (h : RdI W v l) (b : Below W.heap.size W W') : RdI W' v l := by
  obtain ⟨A, c, h1, h2, h3, h4⟩ := h
  exact ⟨A, c, h1, h2, h3, h4.below b⟩
theorem RdI.nil (W : World) : RdI W (.slice none 0 0) [] := ⟨none, 0, rfl, Nat.le_refl _, Nat.zero_le _, Rd.nil⟩
theorem encI_len (z : It) : (encI z).length = 2 := rfl
theorem flatI_len (l : List It) : (l.flatMap encI).length = l.length * 2 := by
  induction l with
  | nil => rfl
  | cons z l ih => rw [List.flatMap_cons, List.length_append, ih, encI_len, List.length_cons]; omega
theorem flatI_at (zs : List It) (k j : Nat) (hk : k < zs.length) (hj : j < 2) : (zs.flatMap encI)[k * 2 + j]? = (encI zs[k])[j]? := by
  induction zs generalizing k with
  | nil => simp at hk
  | cons z zs ih =>
    cases k with
    | zero => rw [List.flatMap_cons, List.getElem?_append_left (by rw [encI_len]; omega)]; simp
    | succ k => rw [List.flatMap_cons, List.getElem?_append_right (by rw [encI_len]; omega), encI_len, show (k + 1) * 2 + j - 2 = k * 2 + j by omega, ih k (by simpa using hk)]; simp
/-- The item at k. -/
theorem rdi_at {W : World} {A : Option Addr} {l : List It} {k : Nat} (h : Rd W 2 A l.length (l.flatMap encI)) (hk : k < l.length) : ∃ g o, A = some ⟨g, o, none⟩ ∧ g < W.heap.size ∧ W.cell? ⟨g, o + k * 2, none⟩ = some (.string l[k].good) ∧ W.cell? ⟨g, o + k * 2 + 1, none⟩ = some (.int .i64 l[k].n) := by
  obtain ⟨g, o, e, hg, hc⟩ := h.2 (by omega)
  exact ⟨g, o, e, hg, hc (k * 2 + 0) _ ((flatI_at l k 0 hk (by omega)).trans rfl), by rw [Nat.add_assoc]; exact hc (k * 2 + 1) _ ((flatI_at l k 1 hk (by omega)).trans rfl)⟩
end Go.Proofs.Ytpccbobomppdbaa

namespace Go.Proofs.Ytpccbobomppdbaa
open Go.RowKit

theorem good_end {s : ByteArray} (h : ∀ j (hj : j < s.size), okC (s[j]'hj) = true) : goodS s = (decide (1 ≤ s.size) && decide (s.size ≤ 16)) := by
  unfold goodS
  rw [List.all_eq_true.2 (fun c hc => ?_)]
  · rfl
  · rw [Lib.toList_data] at hc
    obtain ⟨j, hj, rfl⟩ := List.getElem_of_mem hc
    exact h j (by simpa using hj)
theorem good_bad {s : ByteArray} {j : Nat} (hj : j < s.size) (h : okC (s[j]'hj) = false) : goodS s = false := by
  unfold goodS
  rw [List.all_eq_false.2 ⟨s[j]'hj, by rw [Lib.toList_data]; exact List.getElem_mem (l := s.data.toList) (n := j) (by simpa using hj), by rw [h]; simp⟩]
  rfl

set_option maxRecDepth 100000 in
set_option maxHeartbeats 1000000 in
theorem good_any (s : ByteArray) (w : World) (hs : s.size ≤ 9223372036854775807) :
    Calls Try.prog 58 #[.string s] w fun e w' => e = .returned (.bool (goodS s)) ∧ ∃ pos, w' = w.iter s pos := by
  go_enter Try.func58, Try.ntmps58
  go_wp2
  go_loopw [] (fun w' => ∃ pos : Nat, w' = w.iter s pos ∧ pos ≤ s.size ∧ ∀ j (hj : j < s.size), j < pos → okC (s[j]'hj) = true) (fun w' => s.size - w'.iterPos w.heap.size)
  case atStart => exact ⟨0, rfl, Nat.zero_le _, fun j _ h => absurd h (by omega)⟩
  case round =>
    obtain ⟨pos, rfl, hp, hq⟩ := hrel
    have HQ := Lib.hid hq
    clear hq
    by_cases hlt : pos < s.size
    · obtain ⟨c, hc⟩ : ∃ c, s[pos]'hlt = c := ⟨_, rfl⟩
      by_cases ha : c.toNat < 128
      · have hnx : ∀ ty, (Instr.next (.pointer (some ⟨w.heap.size, 0, none⟩)) true ty).run Try.prog (w.iter s pos) = _ := fun ty => run_next_any w s pos ty hlt
        rw [decode_ascii s pos hlt (by rw [hc]; exact ha)] at hnx
        simp only [hc] at hnx
        cases hk : okC c
        · have hbad := good_bad hlt (by rw [hc]; exact hk)
          have hk' : ¬ ((97 ≤ c.toNat ∧ c.toNat ≤ 122) ∨ (48 ≤ c.toNat ∧ c.toNat ≤ 57) ∨ c.toNat = 45) := fun h => by rw [(okC_iff c).2 h] at hk; cases hk
          have HBAD := Lib.hid hbad
          obtain ⟨X, hX⟩ : ∃ X : Int, (c.toNat : Int) = X := ⟨_, rfl⟩
          have hx : (X < 45) ∨ (45 < X ∧ X < 48) ∨ (57 < X ∧ X < 97) ∨ (122 < X) := by omega
          rw [hX] at hnx
          clear hX hc hk hbad hk' ha
          have e45 : (X != 45) = true := by simp; omega
          rcases hx with q1 | ⟨q1, q2⟩ | ⟨q1, q2⟩ | q1
          · go_wp2
            go_ret
            exact ⟨ret_bool HBAD.out.symm, _, rfl⟩
          · go_wp2
            go_ret
            exact ⟨ret_bool HBAD.out.symm, _, rfl⟩
          · go_wp2
            go_ret
            exact ⟨ret_bool HBAD.out.symm, _, rfl⟩
          · go_wp2
            go_ret
            exact ⟨ret_bool HBAD.out.symm, _, rfl⟩
        · have hk' := (okC_iff c).1 hk
          have HOK : Hid (okC (s[pos]'hlt) = true) := Lib.hid (by rw [hc]; exact hk)
          obtain ⟨X, hX⟩ : ∃ X : Int, (c.toNat : Int) = X := ⟨_, rfl⟩
          have hx : (97 ≤ X ∧ X ≤ 122) ∨ (48 ≤ X ∧ X ≤ 57) ∨ X = 45 := by omega
          rw [hX] at hnx
          clear hX hc hk hk' ha
          rcases hx with ⟨q1, q2⟩ | ⟨q1, q2⟩ | rfl
          · go_wp2
            go_roundw
            case rel =>
              refine ⟨pos + 1, rfl, by omega, fun j hj hj2 => ?_⟩
              rcases Nat.lt_or_ge j pos with h | h
              · exact HQ.out j hj h
              · obtain rfl : j = pos := by omega
                exact HOK.out
            case measure => simp; omega
          · go_wp2
            go_roundw
            case rel =>
              refine ⟨pos + 1, rfl, by omega, fun j hj hj2 => ?_⟩
              rcases Nat.lt_or_ge j pos with h | h
              · exact HQ.out j hj h
              · obtain rfl : j = pos := by omega
                exact HOK.out
            case measure => simp; omega
          · go_wp2
            go_roundw
            case rel =>
              refine ⟨pos + 1, rfl, by omega, fun j hj hj2 => ?_⟩
              rcases Nat.lt_or_ge j pos with h | h
              · exact HQ.out j hj h
              · obtain rfl : j = pos := by omega
                exact HOK.out
            case measure => simp; omega
      · have hnx : ∀ ty, (Instr.next (.pointer (some ⟨w.heap.size, 0, none⟩)) true ty).run Try.prog (w.iter s pos) = _ := fun ty => run_next_any w s pos ty hlt
        have hd := decode_high s pos hlt (by rw [hc]; omega)
        have hbad := good_bad hlt (show okC (s[pos]'hlt) = false by
          rw [hc]
          cases hk : okC c
          · rfl
          · have := (okC_iff c).1 hk; omega)
        have HBAD := Lib.hid hbad
        obtain ⟨X, hX⟩ : ∃ X : Int, ((Utf8.decode s pos).1 : Int) = X := ⟨_, rfl⟩
        have q1 : 122 < X := by omega
        have e45 : (X != 45) = true := by simp; omega
        rw [hX] at hnx
        clear hX hc ha hbad hd
        go_wp2
        go_ret
        exact ⟨ret_bool HBAD.out.symm, _, rfl⟩
    · have hnx : ∀ ty, (Instr.next (.pointer (some ⟨w.heap.size, 0, none⟩)) true ty).run Try.prog (w.iter s pos) = _ := fun ty => run_next_end w s pos ty hlt
      have hgo := good_end (s := s) (fun j hj => HQ.out j hj (by omega))
      by_cases h1 : s.size = 0
      · have hl : s.toList = [] := by
          rw [Lib.toList_data]
          exact List.eq_nil_of_length_eq_zero (by simpa using h1)
        have hl2 : (s.toList.isEmpty) = true := by rw [hl]; rfl
        have HGO : Hid (goodS s = false) := Lib.hid (by rw [hgo, h1]; rfl)
        clear hgo
        go_wp2
        go_ret
        exact ⟨ret_bool HGO.out.symm, _, rfl⟩
      · have hl2 : (s.toList.isEmpty) = false := by
          rw [Lib.toList_data]
          cases h : s.data.toList with
          | nil => exact absurd (by have := congrArg List.length h; simpa using this) h1
          | cons a l => rfl
        have hl : ¬ s.toList = [] := fun h => by rw [h] at hl2; cases hl2
        have HGO : Hid (goodS s = decide ((s.size : Int) ≤ 16)) := Lib.hid (by rw [hgo, show decide (1 ≤ s.size) = true from decide_eq_true (by omega), Bool.true_and]; exact decide_eq_decide.2 (by omega))
        clear hgo
        go_wp2
        go_ret
        exact ⟨ret_bool HGO.out.symm, _, rfl⟩

set_option maxRecDepth 100000 in
set_option maxHeartbeats 1000000 in
theorem xgood_any (s : ByteArray) (w : World) (hs : s.size ≤ 9223372036854775807) :
    Calls Try.prog 65 #[.string s] w fun e w' => e = .returned (.bool (goodS s)) ∧ w = w' := by
  go_enter Try.func65, Try.ntmps65
  go_wp2
  go_loop [3] (fun i => ∃ k : Nat, k ≤ s.size ∧ i = .int .i64 k ∧ ∀ j (hj : j < s.size), j < k → okC (s[j]'hj) = true) (fun i => s.size - (intOf i).toNat)
  case atStart => exact ⟨0, Nat.zero_le _, rfl, fun j _ h => absurd h (by omega)⟩
  case round =>
    obtain ⟨k, hk, rfl, hq⟩ := hrel
    have HQ := Lib.hid hq
    clear hq
    by_cases hlt : k < s.size
    · obtain ⟨c, hc⟩ : ∃ c, s[k]'hlt = c := ⟨_, rfl⟩
      cases hok : okC c
      · have hbad := good_bad hlt (by rw [hc]; exact hok)
        have hk' : ¬ ((97 ≤ c.toNat ∧ c.toNat ≤ 122) ∨ (48 ≤ c.toNat ∧ c.toNat ≤ 57) ∨ c.toNat = 45) := fun h => by rw [(okC_iff c).2 h] at hok; cases hok
        have HBAD := Lib.hid hbad
        have hx : ((c.toNat : Int) < 45) ∨ (45 < (c.toNat : Int) ∧ (c.toNat : Int) < 48) ∨ (57 < (c.toNat : Int) ∧ (c.toNat : Int) < 97) ∨ (122 < (c.toNat : Int)) := by omega
        have e45 : ((c.toNat : Int) == 45) = false := by simp; omega
        clear hok hbad hk'
        rcases hx with q1 | ⟨q1, q2⟩ | ⟨q1, q2⟩ | q1
        · go_wp2
          go_ret
          exact ⟨ret_bool HBAD.out.symm, rfl⟩
        · go_wp2
          go_ret
          exact ⟨ret_bool HBAD.out.symm, rfl⟩
        · have d1 : decide ((c.toNat : Int) ≤ 57) = false := by simp; omega
          go_wp2
          go_ret
          exact ⟨ret_bool HBAD.out.symm, rfl⟩
        · have d1 : decide ((c.toNat : Int) ≤ 57) = false := by simp; omega
          have d2 : decide ((c.toNat : Int) ≤ 122) = false := by simp; omega
          go_wp2
          go_ret
          exact ⟨ret_bool HBAD.out.symm, rfl⟩
      · have hk' := (okC_iff c).1 hok
        have HOK : Hid (okC (s[k]'hlt) = true) := Lib.hid (by rw [hc]; exact hok)
        clear hok
        rcases hk' with ⟨q1, q2⟩ | ⟨q1, q2⟩ | q1
        · go_wp2
          go_round
          case rel =>
            refine ⟨k + 1, by omega, by go_num, fun j hj hj2 => ?_⟩
            rcases Nat.lt_or_ge j k with h | h
            · exact HQ.out j hj h
            · obtain rfl : j = k := by omega
              exact HOK.out
          case measure => simp [intOf]; omega
        · go_wp2
          go_round
          case rel =>
            refine ⟨k + 1, by omega, by go_num, fun j hj hj2 => ?_⟩
            rcases Nat.lt_or_ge j k with h | h
            · exact HQ.out j hj h
            · obtain rfl : j = k := by omega
              exact HOK.out
          case measure => simp [intOf]; omega
        · go_wp2
          go_round
          case rel =>
            refine ⟨k + 1, by omega, by go_num, fun j hj hj2 => ?_⟩
            rcases Nat.lt_or_ge j k with h | h
            · exact HQ.out j hj h
            · obtain rfl : j = k := by omega
              exact HOK.out
          case measure => simp [intOf]; omega
    · have hgo := good_end (s := s) (fun j hj => HQ.out j hj (by omega))
      by_cases h1 : 1 ≤ s.size
      · have HGO : Hid (goodS s = decide ((s.size : Int) ≤ 16)) := Lib.hid (by rw [hgo, show decide (1 ≤ s.size) = true from decide_eq_true (by omega), Bool.true_and]; exact decide_eq_decide.2 (by omega))
        clear hgo
        go_wp2
        go_ret
        exact ⟨ret_bool HGO.out.symm, rfl⟩
      · have HGO : Hid (goodS s = false) := Lib.hid (by rw [hgo]; simp; omega)
        clear hgo
        go_wp2
        go_ret
        exact ⟨ret_bool HGO.out.symm, rfl⟩
end Go.Proofs.Ytpccbobomppdbaa
