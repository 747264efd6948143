/- Makers, takers and lists of byte slices in memory. -/
import Derived.Test.YtjgdcdojigcefaaSlA
import Derived.Test.YtjgdcdojigcefaaCNum
import Derived.Test.YtjgdcdojigcefaaCPlain
import Derived.Test.YtjgdcdojigcefaaStr
import Derived.Maps.AppendAt
import Derived.Lib.AppendZeros
import Derived.Lib.AppendStr
namespace Go.Proofs.Ytjgdcdojigcefaa
open Go.RowKit

theorem u8_one' (bs : List Nat) : ∀ u ∈ bs.map u8v, u.oneCell' = true := by
  intro u hu
  obtain ⟨b, _, rfl⟩ := List.mem_map.1 hu
  rfl
theorem Bs.nil (w : World) : Bs w (.slice none 0 0) [] := ⟨none, 0, rfl, Nat.le_refl _, Nat.zero_le _, by simp, fun h => absurd h (by simp)⟩
theorem Bs.keep {w w' : World} {v : Value} {bs : List Nat} {S : List Nat} (h : Bs w v bs) (f : Fr 0 [] S w w') (hS : ∀ k, v.ownBlock = some k → k ∉ S) (hv : ∀ A n c, v = .slice A n c → ∀ a, A = some a → a.off = 0) : Bs w' v bs := by
  obtain ⟨A, c, rfl, h2, h3, h4⟩ := h
  refine ⟨A, c, rfl, h2, h3, h4.1, fun hn => ?_⟩
  obtain ⟨g, o, rfl, hg, hc⟩ := h4.2 hn
  have ho : o = 0 := hv _ _ _ rfl _ rfl
  subst ho
  have hb : w'.heap[g]? = w.heap[g]? := f.block g hg (.inr ⟨by simp, hS g rfl⟩)
  exact ⟨g, 0, rfl, Nat.lt_of_lt_of_le hg f.size, fun j u hu => (World.cell?_of_block (a := ⟨g, 0 + j, none⟩) hb).trans (hc j u hu)⟩
theorem Rd.frame {w w' : World} {n : Nat} {A : Option Addr} {size : Nat} {xs : List Value} {S : List Nat} (h : Rd w size A n xs) (f : Fr 0 [] S w w') (hS : 0 < n → ∀ a, A = some a → a.block ∉ S) : Rd w' size A n xs := by
  refine ⟨h.1, fun hn => ?_⟩
  obtain ⟨g, o, rfl, hg, hc⟩ := h.2 hn
  have hb : w'.heap[g]? = w.heap[g]? := f.block g hg (.inr ⟨by simp, hS hn _ rfl⟩)
  exact ⟨g, o, rfl, Nat.lt_of_lt_of_le hg f.size, fun j u hu => (World.cell?_of_block (a := ⟨g, o + j, none⟩) hb).trans (hc j u hu)⟩
theorem Fr.keep0 {w w' : World} {S : List Nat} (h : Fr 0 [] S w w') {k : Nat} {o : Obj} (hk : w.heap[k]? = some o) (hs : k ∉ S) : w'.heap[k]? = some o :=
  (h.block k (Array.getElem?_eq_some_iff.1 hk).1 (.inr ⟨by simp, hs⟩)).trans hk

/-- A maker at block p, whose bytes lie in block G. -/
def IsM (w : World) (p : Nat) (G : Option Nat) (s : List Nat × Bool) : Prop :=
  ∃ v, w.heap[p]? = some (.cells #[v, .bool s.2] 75 (0, 0)) ∧ w.ownsRow 0 5 1 v s.1.length (s.1.map u8v) ∧ v.ownBlock = G
/-- A taker (or the reference's maker) at block p, whose bytes lie in block D. -/
def IsT (w : World) (T : TypeId) (p : Nat) (D : Option Nat) (s : List Nat × Bool) : Prop :=
  ∃ A c, w.heap[p]? = some (.cells #[.slice A s.1.length c, .bool s.2] T (0, 0)) ∧ s.1.length ≤ c ∧ c ≤ maxLen ∧ Rd w 1 A s.1.length (s.1.map u8v) ∧ (0 < s.1.length → ∀ a, A = some a → D = some a.block) ∧ (∀ b ∈ s.1, b < 256) ∧ SlA A c

theorem IsM.keep {w w' : World} {p : Nat} {G : Option Nat} {s : List Nat × Bool} {S : List Nat} (h : IsM w p G s) (f : Fr 0 [] S w w') (hp : p ∉ S) (hG : ∀ g, G = some g → g ∉ S) : IsM w' p G s := by
  obtain ⟨v, h1, h2, h3⟩ := h
  refine ⟨v, f.keep0 h1 hp, ?_, h3⟩
  exact f.own h2 (by simp) (fun k hk => hG k (h3 ▸ hk))
theorem IsT.keep {w w' : World} {T : TypeId} {p : Nat} {D : Option Nat} {s : List Nat × Bool} {S : List Nat} (h : IsT w T p D s) (f : Fr 0 [] S w w') (hp : p ∉ S) (hD : ∀ d, D = some d → d ∉ S) : IsT w' T p D s := by
  obtain ⟨A, c, h1, h2, h3, h4, h5, h6, h7⟩ := h
  exact ⟨A, c, f.keep0 h1 hp, h2, h3, h4.frame f (fun hn a ha => hD _ (h5 hn a ha)), h5, h6, h7⟩
theorem IsM.below {w w' : World} {p : Nat} {G : Option Nat} {s : List Nat × Bool} (h : IsM w p G s) (b : Below w.heap.size w w') : IsM w' p G s := h.keep (S := []) (Fr.of_below b) (by simp) (by simp)
theorem IsT.below {w w' : World} {T : TypeId} {p : Nat} {D : Option Nat} {s : List Nat × Bool} (h : IsT w T p D s) (b : Below w.heap.size w w') : IsT w' T p D s := h.keep (S := []) (Fr.of_below b) (by simp) (by simp)
theorem IsM.lt {w : World} {p : Nat} {G : Option Nat} {s : List Nat × Bool} (h : IsM w p G s) : p < w.heap.size := by
  obtain ⟨v, h1, _⟩ := h
  exact lt_of_block h1
theorem IsM.own_lt {w : World} {p g : Nat} {s : List Nat × Bool} (h : IsM w p (some g) s) : g < w.heap.size ∧ g ≠ p := by
  obtain ⟨v, h1, h2, h3⟩ := h
  obtain ⟨_, cs, hc⟩ := own_block h2 h3
  exact ⟨lt_of_block hc, (block_ne hc h1 (by decide))⟩
theorem IsT.lt {w : World} {T : TypeId} {p : Nat} {D : Option Nat} {s : List Nat × Bool} (h : IsT w T p D s) : p < w.heap.size := by
  obtain ⟨A, c, h1, _⟩ := h
  exact lt_of_block h1

/-- What a maker's call leaves. -/
def RetM (p : Nat) (G : Option Nat) (s : List Nat × Bool) (w : World) (e : Ending) (w' : World) : Prop :=
  ∃ G', e = .returned (.pointer (some ⟨p, 0, none⟩)) ∧ IsM w' p G' s ∧ Fr 0 [] (p :: G.toList) w w' ∧ (G' = G ∨ ∃ g, G' = some g ∧ w.heap.size ≤ g)
/-- What a taker's call leaves. -/
def RetT (T : TypeId) (p : Nat) (D : Option Nat) (val : Value) (s : List Nat × Bool) (w : World) (e : Ending) (w' : World) : Prop :=
  e = .returned val ∧ IsT w' T p D s ∧ Fr 0 [] [p] w w'
/-- A slice of byte slices. -/
def Bss (w : World) (v : Value) (l : List (List Nat)) : Prop :=
  ∃ A c hs, v = .slice A l.length c ∧ l.length ≤ c ∧ c ≤ maxLen ∧ Rd w 1 A l.length hs ∧ ∀ j (h : j < l.length) u, hs[j]? = some u → Bs w u l[j]
theorem Bss.below {w w' : World} {v : Value} {l : List (List Nat)} (h : Bss w v l) (b : Below w.heap.size w w') : Bss w' v l := by
  obtain ⟨A, c, hs, h1, h2, h3, h4, h5⟩ := h
  exact ⟨A, c, hs, h1, h2, h3, h4.below b, fun j hj u hu => (h5 j hj u hu).below b⟩

section
variable {P : Program} (w : World)
theorem run_append_rd_at (base : Nat) (t ty e : TypeId) (i : TypeInfo) (z : Value) (size bytes : Nat) (ht : P.underlying t = some (.slice e)) (hi : P.info? e = some i) (hz : i.zero = some z)
    (hsize : i.size = size) (hby : i.bytes = bytes) (hzs : z.cells.size = size) (hsz : 0 < size)
    (v : Value) (n : Nat) (xs : List Value) (hown : w.ownsRow base e size v n xs)
    (A : Option Addr) (m c : Nat) (news : List Value) (hr : Rd w size A m news) (h1 : ∀ u ∈ news, u.oneCell' = true)
    (h63 : n + m ≤ maxLen) (hbytes : (n + m) * bytes ≤ 140737488355328) (hbase : base ≤ w.heap.size) :
    ∃ v' w', (Builtin.append_ #[t, t] ty #[v, .slice A m c]).run P w = .ok v' w' ∧ w'.ownsRow base e size v' (n + m) (xs ++ news) ∧ w.grownBy w' v.ownBlock ∧ (v'.ownBlock = v.ownBlock ∨ v'.ownBlock = some w.heap.size) := by
  by_cases hm : m = 0
  · subst hm
    have hn : news = [] := List.eq_nil_of_length_eq_zero (by simpa using hr.1)
    subst hn
    cases A with
    | none =>
      refine ⟨v, w, ?_, by simpa using hown, World.grownBy.refl w _, .inl rfl⟩
      rcases hown.2 with ⟨rfl, rfl⟩ | ⟨g, cap, cur, rfl, _, _, hnc, _⟩
      · simp [Builtin.append_, run_underlying ht, sizeOf, typeInfo, hi, Builtin.lenOf, Builtin.firstCells]
      · simp [Builtin.append_, run_underlying ht, sizeOf, typeInfo, hi, Builtin.lenOf, Builtin.firstCells, hnc, storeCells]
    | some a =>
      obtain ⟨v', w', h2, h3, h4, _, h5⟩ := run_append_own_at (P := P) w base t ty e i z size bytes ht hi hz hsize hby hzs hsz v n xs hown a 0 c [] (by simp) (by simp) (by simp) h63 hbytes hbase
      exact ⟨v', w', h2, h3, h4, h5⟩
  · obtain ⟨g, o, rfl, hg, hc⟩ := hr.2 (by omega)
    obtain ⟨v', w', h2, h3, h4, _, h5⟩ := run_append_own_at (P := P) w base t ty e i z size bytes ht hi hz hsize hby hzs hsz v n xs hown ⟨g, o, none⟩ m c news hr.1 (fun j u hu => by
      have := hc j u hu
      have e : (⟨g, o, none⟩ : Addr).add j = ⟨g, o + j, none⟩ := by unfold Addr.add; split <;> simp_all
      rw [e]; exact this) h1 h63 hbytes hbase
    exact ⟨v', w', h2, h3, h4, h5⟩

theorem wp_append_rd_at {o : Oper} {a : Act} {K : Act → World → Prop} {Q : Exit → Act → World → Prop} (s x : Operand) (t : TypeId)
    (ho : o.op = .call { callee := .builtin .append, args := #[s, x], argTypes := #[t, t] })
    (base : Nat) (e : TypeId) (i : TypeInfo) (z : Value) (size bytes : Nat) (ht : P.underlying t = some (.slice e)) (hi : P.info? e = some i) (hz : i.zero = some z)
    (hsize : i.size = size) (hby : i.bytes = bytes) (hzs : z.cells.size = size) (hsz : 0 < size)
    (v : Value) (n : Nat) (xs : List Value) (hs : a.eval s = v) (hown : w.ownsRow base e size v n xs)
    (A : Option Addr) (m c : Nat) (news : List Value) (hx : a.eval x = .slice A m c) (hr : Rd w size A m news) (h1 : ∀ u ∈ news, u.oneCell' = true)
    (h63 : n + m ≤ maxLen) (hbytes : (n + m) * bytes ≤ 140737488355328) (hbase : base ≤ w.heap.size)
    (h : ∀ v' w', w'.ownsRow base e size v' (n + m) (xs ++ news) → w.grownBy w' v.ownBlock → (v'.ownBlock = v.ownBlock ∨ v'.ownBlock = some w.heap.size) → K (a.put o.dst v') w') : o.wp P a w K Q := by
  obtain ⟨v', w', hrun, h2, h3, h4⟩ := run_append_rd_at (P := P) w base t o.type e i z size bytes ht hi hz hsize hby hzs hsz v n xs hown A m c news hr h1 h63 hbytes hbase
  unfold Oper.wp execOp
  simp only [ho, resolve, invoke, builtin, Sem.run_bind, Sem.run_pure, Result.andThen_ok, List.map_toArray, List.map_cons, List.map_nil, hs, hx, hrun]
  exact h v' w' h2 h3 h4

theorem wpList_append_rd_at {ops : Array Oper} {rest : List Oper} {o : Oper} {a : Act} {Q : Exit → Act → World → Prop} (hgd : o.guard = none) (s x : Operand) (t : TypeId)
    (ho : o.op = .call { callee := .builtin .append, args := #[s, x], argTypes := #[t, t] })
    (base : Nat) (e : TypeId) (i : TypeInfo) (z : Value) (size bytes : Nat) (ht : P.underlying t = some (.slice e)) (hi : P.info? e = some i) (hz : i.zero = some z)
    (hsize : i.size = size) (hby : i.bytes = bytes) (hzs : z.cells.size = size) (hsz : 0 < size)
    (v : Value) (n : Nat) (xs : List Value) (hs : a.eval s = v) (hown : w.ownsRow base e size v n xs)
    (A : Option Addr) (m c : Nat) (news : List Value) (hx : a.eval x = .slice A m c) (hr : Rd w size A m news) (h1 : ∀ u ∈ news, u.oneCell' = true)
    (h63 : n + m ≤ maxLen) (hbytes : (n + m) * bytes ≤ 140737488355328) (hbase : base ≤ w.heap.size)
    (h : ∀ v' w', w'.ownsRow base e size v' (n + m) (xs ++ news) → w.grownBy w' v.ownBlock → (v'.ownBlock = v.ownBlock ∨ v'.ownBlock = some w.heap.size) → wpList P ops Q rest (a.put o.dst v') w') : wpList P ops Q (o :: rest) a w :=
  wpList_plain hgd fun _ hK => wp_append_rd_at w s x t ho base e i z size bytes ht hi hz hsize hby hzs hsz v n xs hs hown A m c news hx hr h1 h63 hbytes hbase fun v' w' h2 h3 h4 => hK _ _ (h v' w' h2 h3 h4)
end
end Go.Proofs.Ytjgdcdojigcefaa
