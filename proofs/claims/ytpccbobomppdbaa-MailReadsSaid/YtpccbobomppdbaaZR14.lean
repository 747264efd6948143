/- Joined: The address of a slice value. No program is named here. Makers, takers and lists of byte slices in memory. The contracts of slices.Grow, slices.Concat and slices.Clone at bytes: new memory that holds what was read. The contracts of cells.Maker: what each call makes of a maker that lies in memory. -/
import Derived.Test.YtpccbobomppdbaaZR1
import Derived.Test.YtpccbobomppdbaaZR3
import Derived.Maps.AppendAt
import Derived.Lib.AppendZeros
import Derived.Lib.AppendStr
namespace Go.Proofs.Ytpccbobomppdbaa
open Go.RowKit

/-- The address of a slice value: nil, without room; or a cell of a block. -/
def SlA (A : Option Addr) (c : Nat) : Prop := c = 0 ∨ ∃ g o, A = some ⟨g, o, none⟩
theorem SlA.of_own {w : World} {base : Nat} {e : TypeId} {size n m c : Nat} {A : Option Addr} {xs : List Value} (h : w.ownsRow base e size (.slice A m c) n xs) : SlA A c := by
  rcases h.2 with ⟨h, _⟩ | ⟨g, cap, cur, h, _⟩
  · injection h with h1 h2 h3; exact .inl h3
  · injection h with h1 h2 h3; exact .inr ⟨g, 0, h1⟩
end Go.Proofs.Ytpccbobomppdbaa

namespace Go.Proofs.Ytpccbobomppdbaa
open Go.RowKit

theorem u8_one' (bs : List Nat) : ∀ u ∈ bs.map u8v, u.oneCell' = true := by
  intro u hu
  obtain ⟨b, _, rfl⟩ := List.mem_map.1 hu
  rfl
theorem Bs.nil (w : World) : Bs w (.slice none 0 0) [] := ⟨none, 0, rfl, Nat.le_refl _, Nat.zero_le _, by simp, fun h => absurd h (by simp)⟩
theorem Bs.keep {w w' : World} {v : Value} {bs : List Nat} {S : List Nat} (h : Bs w v bs) (f : Fr 0 [] S w w') (hS : ∀ k, v.ownBlock = some k → k ∉ S) (hv : ∀ A n c, v = .slice A n c → ∀ a, A = some a → a.off = 0) : Bs w' v bs := by
  obtain ⟨A, c, rfl, h2, h3, h4⟩ := h
  refine ⟨A, c, rfl, h2, h3, h4.1, fun hn => ?_⟩
  obtain ⟨g, o, rfl, hg, hc⟩ := h4.2 hn
  have ho : o = 0 := hv _ _ _ rfl _ rfl
  subst ho
  have hb : w'.heap[g]? = w.heap[g]? := f.block g hg (.inr ⟨by simp, hS g rfl⟩)
  exact ⟨g, 0, rfl, Nat.lt_of_lt_of_le hg f.size, fun j u hu => (World.cell?_of_block (a := ⟨g, 0 + j, none⟩) hb).trans (hc j u hu)⟩
theorem Rd.frame {w w' : World} {n : Nat} {A : Option Addr} {size : Nat} {xs : List Value} {S : List Nat} (h : Rd w size A n xs) (f : Fr 0 [] S w w') (hS : 0 < n → ∀ a, A = some a → a.block ∉ S) : Rd w' size A n xs := by
  refine ⟨h.1, fun hn => ?_⟩
  obtain ⟨g, o, rfl, hg, hc⟩ := h.2 hn
  have hb : w'.heap[g]? = w.heap[g]? := f.block g hg (.inr ⟨by simp, hS hn _ rfl⟩)
  exact ⟨g, o, rfl, Nat.lt_of_lt_of_le hg f.size, fun j u hu => (World.cell?_of_block (a := ⟨g, o + j, none⟩) hb).trans (hc j u hu)⟩
theorem Fr.keep0 {w w' : World} {S : List Nat} (h : Fr 0 [] S w w') {k : Nat} {o : Obj} (hk : w.heap[k]? = some o) (hs : k ∉ S) : w'.heap[k]? = some o :=
  (h.block k (Array.getElem?_eq_some_iff.1 hk).1 (.inr ⟨by simp, hs⟩)).trans hk

/-- A maker at block p, whose bytes lie in block G. -/
def IsM (w : World) (p : Nat) (G : Option Nat) (s : List Nat × Bool) : Prop :=
  ∃ v, w.heap[p]? = some (.cells #[v, .bool s.2] 88 (0, 0)) ∧ w.ownsRow 0 5 1 v s.1.length (s.1.map u8v) ∧ v.ownBlock = G
/-- A taker (or the reference's maker) at block p, whose bytes lie in block D. -/
def IsT (w : World) (T : TypeId) (p : Nat) (D : Option Nat) (s : List Nat × Bool) : Prop :=
  ∃ A c, w.heap[p]? = some (.cells #[.slice A s.1.length c, .bool s.2] T (0, 0)) ∧ s.1.length ≤ c ∧ c ≤ maxLen ∧ Rd w 1 A s.1.length (s.1.map u8v) ∧ (0 < s.1.length → ∀ a, A = some a → D = some a.block) ∧ (∀ b ∈ s.1, b < 256) ∧ SlA A c

theorem IsM.keep {w w' : World} {p : Nat} {G : Option Nat} {s : List Nat × Bool} {S : List Nat} (h : IsM w p G s) (f : Fr 0 [] S w w') (hp : p ∉ S) (hG : ∀ g, G = some g → g ∉ S) : IsM w' p G s := by
  obtain ⟨v, h1, h2, h3⟩ := h
  refine ⟨v, f.keep0 h1 hp, ?_, h3⟩
  exact f.own h2 (by simp) (fun k hk => hG k (h3 ▸ hk))
theorem IsT.keep {w w' : World} {T : TypeId} {p : Nat} {D : Option Nat} {s : List Nat × Bool} {S : List Nat} (h : IsT w T p D s) (f : Fr 0 [] S w w') (hp : p ∉ S) (hD : ∀ d, D = some d → d ∉ S) : IsT w' T p D s := by
  obtain ⟨A, c, h1, h2, h3, h4, h5, h6, h7⟩ := h
  exact ⟨A, c, f.keep0 h1 hp, h2, h3, h4.frame f (fun hn a ha => hD _ (h5 hn a ha)), h5, h6, h7⟩
theorem IsM.below {w w' : World} {p : Nat} {G : Option Nat} {s : List Nat × Bool} (h : IsM w p G s) (b : Below w.heap.size w w') : IsM w' p G s := h.keep (S := []) (Fr.of_below b) (by simp) (by simp)
theorem IsT.below {w w' : World} {T : TypeId} {p : Nat} {D : Option Nat} {s : List Nat × Bool} (h : IsT w T p D s) (b : Below w.heap.size w w') : IsT w' T p D s := h.keep (S := []) (Fr.of_below b) (by simp) (by simp)
theorem IsM.lt {w : World} {p : Nat} {G : Option Nat} {s : List Nat × Bool} (h : IsM w p G s) : p < w.heap.size := by
  obtain ⟨v, h1, _⟩ := h
  exact lt_of_block h1
theorem IsM.own_lt {w : World} {p g : Nat} {s : List Nat × Bool} (h : IsM w p (some g) s) : g < w.heap.size ∧ g ≠ p := by
  obtain ⟨v, h1, h2, h3⟩ := h
  obtain ⟨_, cs, hc⟩ := own_block h2 h3
  exact ⟨lt_of_block hc, (block_ne hc h1 (by decide))⟩
theorem IsT.lt {w : World} {T : TypeId} {p : Nat} {D : Option Nat} {s : List Nat × Bool} (h : IsT w T p D s) : p < w.heap.size := by
  obtain ⟨A, c, h1, _⟩ := h
  exact lt_of_block h1

/-- What a maker's call leaves. -/
def RetM (p : Nat) (G : Option Nat) (s : List Nat × Bool) (w : World) (e : Ending) (w' : World) : Prop :=
  ∃ G', e = .returned (.pointer (some ⟨p, 0, none⟩)) ∧ IsM w' p G' s ∧ Fr 0 [] (p :: G.toList) w w' ∧ (G' = G ∨ ∃ g, G' = some g ∧ w.heap.size ≤ g)
/-- What a taker's call leaves. -/
def RetT (T : TypeId) (p : Nat) (D : Option Nat) (val : Value) (s : List Nat × Bool) (w : World) (e : Ending) (w' : World) : Prop :=
  e = .returned val ∧ IsT w' T p D s ∧ Fr 0 [] [p] w w'
/-- A slice of byte slices. -/
def Bss (w : World) (v : Value) (l : List (List Nat)) : Prop :=
  ∃ A c hs, v = .slice A l.length c ∧ l.length ≤ c ∧ c ≤ maxLen ∧ Rd w 1 A l.length hs ∧ ∀ j (h : j < l.length) u, hs[j]? = some u → Bs w u l[j]
theorem Bss.below {w w' : World} {v : Value} {l : List (List Nat)} (h : Bss w v l) (b : Below w.heap.size w w') : Bss w' v l := by
  obtain ⟨A, c, hs, h1, h2, h3, h4, h5⟩ := h
  exact ⟨A, c, hs, h1, h2, h3, h4.below b, fun j hj u hu => (h5 j hj u hu).below b⟩

section
variable {P : Program} (w : World)
theorem run_append_rd_at (base : Nat) (t ty e : TypeId) (i : TypeInfo) (z : Value) (size bytes : Nat) (ht : P.underlying t = some (.slice e)) (hi : P.info? e = some i) (hz : i.zero = some z)
    (hsize : i.size = size) (hby : i.bytes = bytes) (hzs : z.cells.size = size) (hsz : 0 < size)
    (v : Value) (n : Nat) (xs : List Value) (hown : w.ownsRow base e size v n xs)
    (A : Option Addr) (m c : Nat) (news : List Value) (hr : Rd w size A m news) (h1 : ∀ u ∈ news, u.oneCell' = true)
    (h63 : n + m ≤ maxLen) (hbytes : (n + m) * bytes ≤ 140737488355328) (hbase : base ≤ w.heap.size) :
    ∃ v' w', (Builtin.append_ #[t, t] ty #[v, .slice A m c]).run P w = .ok v' w' ∧ w'.ownsRow base e size v' (n + m) (xs ++ news) ∧ w.grownBy w' v.ownBlock ∧ (v'.ownBlock = v.ownBlock ∨ v'.ownBlock = some w.heap.size) := by
  by_cases hm : m = 0
  · subst hm
    have hn : news = [] := List.eq_nil_of_length_eq_zero (by simpa using hr.1)
    subst hn
    cases A with
    | none =>
      refine ⟨v, w, ?_, by simpa using hown, World.grownBy.refl w _, .inl rfl⟩
      rcases hown.2 with ⟨rfl, rfl⟩ | ⟨g, cap, cur, rfl, _, _, hnc, _⟩
      · simp [Builtin.append_, run_underlying ht, sizeOf, typeInfo, hi, Builtin.lenOf, Builtin.firstCells]
      · simp [Builtin.append_, run_underlying ht, sizeOf, typeInfo, hi, Builtin.lenOf, Builtin.firstCells, hnc, storeCells]
    | some a =>
      obtain ⟨v', w', h2, h3, h4, _, h5⟩ := run_append_own_at (P := P) w base t ty e i z size bytes ht hi hz hsize hby hzs hsz v n xs hown a 0 c [] (by simp) (by simp) (by simp) h63 hbytes hbase
      exact ⟨v', w', h2, h3, h4, h5⟩
  · obtain ⟨g, o, rfl, hg, hc⟩ := hr.2 (by omega)
    obtain ⟨v', w', h2, h3, h4, _, h5⟩ := run_append_own_at (P := P) w base t ty e i z size bytes ht hi hz hsize hby hzs hsz v n xs hown ⟨g, o, none⟩ m c news hr.1 (fun j u hu => by
      have := hc j u hu
      have e : (⟨g, o, none⟩ : Addr).add j = ⟨g, o + j, none⟩ := by unfold Addr.add; split <;> simp_all
      rw [e]; exact this) h1 h63 hbytes hbase
    exact ⟨v', w', h2, h3, h4, h5⟩

theorem wp_append_rd_at {o : Oper} {a : Act} {K : Act → World → Prop} {Q : Exit → Act → World → Prop} (s x : Operand) (t : TypeId)
    (ho : o.op = .call { callee := .builtin .append, args := #[s, x], argTypes := #[t, t] })
    (base : Nat) (e : TypeId) (i : TypeInfo) (z : Value) (size bytes : Nat) (ht : P.underlying t = some (.slice e)) (hi : P.info? e = some i) (hz : i.zero = some z)
    (hsize : i.size = size) (hby : i.bytes = bytes) (hzs : z.cells.size = size) (hsz : 0 < size)
    (v : Value) (n : Nat) (xs : List Value) (hs : a.eval s = v) (hown : w.ownsRow base e size v n xs)
    (A : Option Addr) (m c : Nat) (news : List Value) (hx : a.eval x = .slice A m c) (hr : Rd w size A m news) (h1 : ∀ u ∈ news, u.oneCell' = true)
    (h63 : n + m ≤ maxLen) (hbytes : (n + m) * bytes ≤ 140737488355328) (hbase : base ≤ w.heap.size)
    (h : ∀ v' w', w'.ownsRow base e size v' (n + m) (xs ++ news) → w.grownBy w' v.ownBlock → (v'.ownBlock = v.ownBlock ∨ v'.ownBlock = some w.heap.size) → K (a.put o.dst v') w') : o.wp P a w K Q := by
  obtain ⟨v', w', hrun, h2, h3, h4⟩ := run_append_rd_at (P := P) w base t o.type e i z size bytes ht hi hz hsize hby hzs hsz v n xs hown A m c news hr h1 h63 hbytes hbase
  unfold Oper.wp execOp
  simp only [ho, resolve, invoke, builtin, Sem.run_bind, Sem.run_pure, Result.andThen_ok, List.map_toArray, List.map_cons, List.map_nil, hs, hx, hrun]
  exact h v' w' h2 h3 h4

theorem wpList_append_rd_at {ops : Array Oper} {rest : List Oper} {o : Oper} {a : Act} {Q : Exit → Act → World → Prop} (hgd : o.guard = none) (s x : Operand) (t : TypeId)
    (ho : o.op = .call { callee := .builtin .append, args := #[s, x], argTypes := #[t, t] })
    (base : Nat) (e : TypeId) (i : TypeInfo) (z : Value) (size bytes : Nat) (ht : P.underlying t = some (.slice e)) (hi : P.info? e = some i) (hz : i.zero = some z)
    (hsize : i.size = size) (hby : i.bytes = bytes) (hzs : z.cells.size = size) (hsz : 0 < size)
    (v : Value) (n : Nat) (xs : List Value) (hs : a.eval s = v) (hown : w.ownsRow base e size v n xs)
    (A : Option Addr) (m c : Nat) (news : List Value) (hx : a.eval x = .slice A m c) (hr : Rd w size A m news) (h1 : ∀ u ∈ news, u.oneCell' = true)
    (h63 : n + m ≤ maxLen) (hbytes : (n + m) * bytes ≤ 140737488355328) (hbase : base ≤ w.heap.size)
    (h : ∀ v' w', w'.ownsRow base e size v' (n + m) (xs ++ news) → w.grownBy w' v.ownBlock → (v'.ownBlock = v.ownBlock ∨ v'.ownBlock = some w.heap.size) → wpList P ops Q rest (a.put o.dst v') w') : wpList P ops Q (o :: rest) a w :=
  wpList_plain hgd fun _ hK => wp_append_rd_at w s x t ho base e i z size bytes ht hi hz hsize hby hzs hsz v n xs hs hown A m c news hx hr h1 h63 hbytes hbase fun v' w' h2 h3 h4 => hK _ _ (h v' w' h2 h3 h4)
end
end Go.Proofs.Ytpccbobomppdbaa

namespace Go.Proofs.Ytpccbobomppdbaa
open Go.RowKit

theorem Bs.own_n {w : World} {B e : Nat} {v : Value} {n : Nat} {bs : List Nat} (h : w.ownsRow B e 1 v n (bs.map u8v)) : Bs w v bs := by
  have : bs.length = n := by simpa using h.1
  subst this
  exact Bs.of_own h
/-- New memory with nothing in it yet, and room. -/
def RetOwn (w : World) (e : Ending) (w' : World) : Prop := ∃ v, e = .returned v ∧ w'.ownsRow w.heap.size 5 1 v 0 [] ∧ Below w.heap.size w w'
/-- Bytes in new memory that belong to the caller. -/
def RetO (bs : List Nat) (w : World) (e : Ending) (w' : World) : Prop := ∃ v, e = .returned v ∧ w'.ownsRow w.heap.size 5 1 v bs.length (bs.map u8v) ∧ Below w.heap.size w w'
theorem own_of_cells (w : World) (cur : Array Value) (cap : Nat) (hm : cap ≤ maxLen) (hs : cur.size = cap) : (w.alloc (.cells cur 5)).ownsRow w.heap.size 5 1 (.slice (some ⟨w.heap.size, 0, none⟩) 0 cap) 0 [] :=
  ⟨rfl, .inr ⟨w.heap.size, cap, cur, rfl, Nat.le_refl _, block_new _ _, Nat.zero_le _, hm, by omega, by simp⟩⟩

set_option maxRecDepth 100000 in
set_option maxHeartbeats 400000 in
theorem grow_zero (w : World) : Calls Try.prog 83 #[.slice none 0 0, .int .i64 0] w (RetOwn w) := by
  go_enter Try.func83, Try.ntmps83
  go_wp2
  go_ret
  exact ⟨_, rfl, World.ownsRow_nil _ _ _ _, Below.refl _ _⟩

set_option maxRecDepth 100000 in
set_option maxHeartbeats 400000 in
theorem grow_pos (n : Nat) (w : World) (h0 : 0 < n) (h1 : n ≤ 140737488355328) : Calls Try.prog 83 #[.slice none 0 0, .int .i64 n] w (RetOwn w) := by
  obtain ⟨i0, hi0, hz0, hz1, hz2⟩ := info_parts Try.infoByte
  have hrun := fun (ty : TypeId) => Lib.run_append_nil_zeros (P := Try.prog) w 31 3 ty 5 i0 (.int .u8 0) .i64 .i64 Try.underlying31 Try.underlying3 hi0 hz0 n h0 (by omega) (by omega) (by rw [hz2]; omega)
  obtain ⟨c, hc⟩ : ∃ c, grownCap w n 0 5 = c := ⟨_, rfl⟩
  have hcn : n ≤ c := by rw [← hc]; exact grownCap_ge w n 0 _
  have hcm : c ≤ maxLen := by rw [← hc]; exact grownCap_le_maxLen w n 0 _ (by unfold maxLen; omega)
  rw [hc] at hrun
  obtain ⟨C, hC⟩ : ∃ C, Builtin.zeroCells (Value.int .u8 0).cells n ++ Builtin.zeroCells (Value.int .u8 0).cells (c - n) = C := ⟨_, rfl⟩
  have hCs : C.size = c := by rw [← hC]; simp [Builtin.zeroCells, Value.cells]; omega
  rw [hC] at hrun
  have HR := Lib.hid hrun
  have HC := Lib.hid hCs
  have HM := Lib.hid hcm
  clear hC hc hrun hCs hcm hi0 hz0 hz1 hz2
  go_enter Try.func83, Try.ntmps83
  go_wp2_with (at_builtin; refine Lib.wpList_append_run _ rfl (.tmp 20) (.tmp 21) 31 3 rfl _ _ rfl rfl _ _ (HR.out _) ?_)
  go_ret
  exact ⟨_, rfl, own_of_cells w.drew C c HM.out HC.out, ((Below.refl w.heap.size w).drew).alloc (Nat.le_refl _) _⟩

theorem grow_any (n : Nat) (w : World) (h1 : n ≤ 140737488355328) : Calls Try.prog 83 #[.slice none 0 0, .int .i64 n] w (RetOwn w) := by
  by_cases h0 : n = 0
  · subst h0; exact grow_zero w
  · exact grow_pos n w (by omega) h1

/-- The first k of a list of byte lists, as one; behind a name, and its length. -/
def cat (l : List (List Nat)) (k : Nat) : List Nat := (l.take k).flatten
def catN (l : List (List Nat)) (k : Nat) : Nat := (cat l k).length
theorem cat_succ (l : List (List Nat)) (k : Nat) (h : k < l.length) : cat l (k + 1) = cat l k ++ l[k] := by
  unfold cat
  rw [List.take_succ_eq_append_getElem h, List.flatten_append]
  congr 1
  exact List.append_nil _
theorem catN_succ (l : List (List Nat)) (k : Nat) (h : k < l.length) : catN l (k + 1) = catN l k + (l[k]).length := by unfold catN; rw [cat_succ l k h, List.length_append]
theorem cat_all (l : List (List Nat)) : cat l l.length = l.flatten := by unfold cat; rw [List.take_length]
theorem catN_le (l : List (List Nat)) (k : Nat) : catN l k ≤ l.flatten.length := by
  have : (l.take k).flatten.length + (l.drop k).flatten.length = l.flatten.length := by
    rw [← List.length_append, ← List.flatten_append, List.take_append_drop]
  unfold catN cat
  omega
theorem catN_all (l : List (List Nat)) : catN l l.length = l.flatten.length := by unfold catN; rw [cat_all]
/-- What holds in the second loop of Concat. -/
def CatRel (w : World) (l : List (List Nat)) (v i : Value) (wr : World) : Prop := ∃ k, k ≤ l.length ∧ i = .int .i64 k ∧ wr.ownsRow w.heap.size 5 1 v (catN l k) ((cat l k).map u8v) ∧ Below w.heap.size w wr

set_option maxRecDepth 100000 in
set_option maxHeartbeats 2000000 in
theorem concat_any (v : Value) (l : List (List Nat)) (w : World) (hv : Bss w v l) (ht : l.flatten.length ≤ 140737488355328) :
    Calls Try.prog 78 #[v] w (RetO l.flatten w) := by
  obtain ⟨i0, hi0, hz0, hz1, hz2⟩ := info_parts Try.infoByte
  obtain ⟨A, c, hs, rfl, hlc, hcm, hr, hbs⟩ := hv
  have hlm : l.length ≤ 9223372036854775807 := by unfold maxLen at hcm; omega
  have hl0 : hs.length = l.length := by simpa using hr.1
  have hcell : ∀ k (h : k < l.length), ∃ g o Ak ck, A = some ⟨g, o, none⟩ ∧ g < w.heap.size ∧ w.cell? ⟨g, o + k, none⟩ = some (.slice Ak (l[k]).length ck) ∧ (l[k]).length ≤ ck ∧ ck ≤ maxLen ∧ Rd w 1 Ak (l[k]).length ((l[k]).map u8v) := by
    intro k hk
    obtain ⟨g, o, ha, hg, hc⟩ := hr.2 (by omega)
    obtain ⟨Ak, ck, e1, e2, e3, e4⟩ := hbs k hk hs[k] (by simp [hl0, hk])
    exact ⟨g, o, Ak, ck, ha, hg, by rw [hc k hs[k] (by simp [hl0, hk]), e1], e2, e3, e4⟩
  have HC := Lib.hid hcell
  clear hcell hbs hr hl0 hcm
  go_enter Try.func78, Try.ntmps78
  go_wp2_with fail
  go_loop [3, 11] (fun s i => ∃ k : Nat, k ≤ l.length ∧ i = .int .i64 k ∧ s = .int .i64 (catN l k)) (fun _ i => l.length - (intOf i).toNat)
  case atStart => exact ⟨0, Nat.zero_le _, rfl, rfl⟩
  case round =>
    obtain ⟨k, hk, rfl, rfl⟩ := hrel
    have b1 := catN_le l k
    by_cases hlt : k < l.length
    · obtain ⟨g, o, Ak, ck, rfl, hg, hc, _, _, _⟩ := HC.out k hlt
      have b2 := catN_le l (k + 1)
      have hsum := catN_succ l k hlt
      rw [hsum] at b2
      obtain ⟨T, hT⟩ : ∃ T, l.flatten.length = T := ⟨_, rfl⟩
      rw [hT] at ht b1 b2
      obtain ⟨m, hm⟩ : ∃ m, (l[k]).length = m := ⟨_, rfl⟩
      simp only [hm] at *
      have HS := Lib.hid hsum
      clear hsum hT hm
      go_wp2_with fail
      go_round
      case rel => exact ⟨k + 1, hlt, by go_num, by rw [HS.out]; go_num⟩
      case measure => simp [intOf]; omega
    · obtain rfl : k = l.length := by omega
      rw [catN_all] at b1 ⊢
      clear b1
      obtain ⟨T, hT⟩ : ∃ T, l.flatten.length = T := ⟨_, rfl⟩
      rw [hT] at ht
      simp only [hT]
      have HT := Lib.hid hT
      clear hT
      go_wp2_with fail
      refine (grow_any T w ht).mono ?_
      rintro e w1 ⟨v1, rfl, ho1, hb1⟩
      have HO1 := Lib.hid ho1
      clear ho1
      go_wp2_with fail
      go_loopw [6, 27] (fun v i wr => CatRel w l v i wr) (fun _ i _ => l.length - (intOf i).toNat)
      case atStart => exact ⟨0, Nat.zero_le _, rfl, HO1.out, hb1⟩
      case round =>
        obtain ⟨k, hk, rfl, ho, hb⟩ := hrel
        have HO := Lib.hid ho
        clear ho HO1 hb1
        by_cases hlt : k < l.length
        · obtain ⟨g, o, Ak, ck, rfl, hg, hc0, hck, hckm, hrk⟩ := HC.out k hlt
          have hc : wr.cell? ⟨g, o + k, none⟩ = some (.slice Ak (l[k]).length ck) := (hb.cell (p := ⟨g, o + k, none⟩) hg).trans hc0
          have b2 := catN_le l (k + 1)
          have hsum := catN_succ l k hlt
          rw [hsum, HT.out] at b2
          have HS := Lib.hid hsum
          have HR := Lib.hid (hrk.below (hb.mono (Nat.le_refl _) : Below w.heap.size w wr))
          clear hsum hc0 hrk hckm
          go_wp2_with (at_builtin
                       refine wpList_append_rd_at _ rfl (.tmp 31) (.tmp 32) 31 rfl w.heap.size 5 i0 (.int .u8 0) 1 1 Try.underlying31 hi0 hz0 hz1 hz2 rfl (by decide) u6 _ _ rfl HO.out Ak (l[k]).length ck ((l[k]).map u8v) rfl HR.out (u8_one' _) (by unfold maxLen; omega) (by omega) hb.size ?_
                       intro v5 w5 hown5 hgrow5 _
                       have HO5 := Lib.hid hown5
                       have HG5 := Lib.hid hgrow5
                       clear hown5 hgrow5)
          go_roundw
          case rel =>
            have f5 : Fr w.heap.size [5] [] wr w5 := (Fr.refl wr).grown HG5.out (fun j hj => by
              obtain ⟨hb, cs, hc⟩ := own_block HO.out hj
              exact ⟨hb, .inr ⟨cs, _, _, hc, by simp⟩⟩)
            refine ⟨k + 1, hlt, by go_num, ?_, hb.trans (f5.below hb.size)⟩
            have := HO5.out
            rw [HS.out, cat_succ l k hlt, List.map_append]
            exact this
          case measure => simp [intOf]; omega
        · obtain rfl : k = l.length := by omega
          go_wp2
          go_ret
          refine ⟨_, rfl, ?_, hb⟩
          have := HO.out
          rwa [catN_all, cat_all] at this

set_option maxRecDepth 100000 in
set_option maxHeartbeats 1000000 in
theorem clone_any (v : Value) (bs : List Nat) (w : World) (hv : Bs w v bs) (ht : bs.length ≤ 140737488355328) : Calls Try.prog 56 #[v] w (RetO bs w) := by
  obtain ⟨i0, hi0, hz0, hz1, hz2⟩ := info_parts Try.infoByte
  obtain ⟨A, c, rfl, hlc, hcm, hr⟩ := hv
  cases A with
  | none =>
    have h0 : bs = [] := by
      cases bs with
      | nil => rfl
      | cons b bs =>
        obtain ⟨g, o, ha, _⟩ := hr.2 (by simp)
        cases ha
    subst h0
    clear hr hcm hlc
    have hnil := fun w => Lib.run_eql_slice_nil (P := Try.prog) w 31 5 none 0 c 0 0 Try.underlying31
    go_enter Try.func56, Try.ntmps56
    go_wp2
    go_ret
    exact ⟨_, rfl, World.ownsRow_nil _ _ _ _, Below.refl _ _⟩
  | some a =>
    have HR := Lib.hid hr
    have hnil := fun w => Lib.run_eql_slice_nil (P := Try.prog) w 31 5 (some a) bs.length c 0 0 Try.underlying31
    clear hr
    go_enter Try.func56, Try.ntmps56
    go_wp2_with (at_builtin
                 refine wpList_append_rd_at _ rfl (.tmp 5) (.tmp 6) 31 rfl w.heap.size 5 i0 (.int .u8 0) 1 1 Try.underlying31 hi0 hz0 hz1 hz2 rfl (by decide) (.slice (some ⟨w.heap.size, 0, none⟩) 0 0) 0 [] rfl (own_of_cells w #[] 0 (Nat.zero_le _) rfl) (some a) bs.length c (bs.map u8v) rfl (HR.out.below ((Below.refl _ _).alloc (Nat.le_refl _) _)) (u8_one' _) (by unfold maxLen; omega) (by omega) (by simp) ?_
                 intro v5 w5 hown5 hgrow5 _
                 have HO5 := Lib.hid hown5
                 have HG5 := Lib.hid hgrow5
                 clear hown5 hgrow5)
    go_ret
    have f5 : Fr w.heap.size [5] [] w w5 := ((Fr.refl w).alloc _).grown HG5.out (fun j hj => by
      simp [Value.ownBlock] at hj
      subst hj
      exact ⟨Nat.le_refl _, .inr ⟨_, _, _, block_new _ _, by simp⟩⟩)
    exact ⟨_, rfl, by simpa using HO5.out, f5.below (Nat.le_refl _)⟩
end Go.Proofs.Ytpccbobomppdbaa

namespace Go.Proofs.Ytpccbobomppdbaa
open Go.RowKit

set_option maxHeartbeats 400000 in
theorem new_any (w : World) : Calls Try.prog 19 #[] w fun e w' => e = .returned (.pointer (some ⟨w.heap.size, 0, none⟩)) ∧ IsM w' w.heap.size none ([], false) ∧ Below w.heap.size w w' := by
  go_enter Try.func19, Try.ntmps19
  go_wp2
  go_ret
  exact ⟨rfl, ⟨_, block_new _ _, World.ownsRow_nil _ _ _ _, rfl⟩, (Below.refl _ _).alloc (Nat.le_refl _) _⟩

set_option maxHeartbeats 400000 in
theorem put_nil (v : Value) (w : World) : Calls Try.prog 52 #[.pointer none, v] w fun e w' => e = .returned (.pointer none) ∧ w = w' := by
  go_enter Try.func52, Try.ntmps52
  go_wp2
  go_ret
  exact ⟨rfl, rfl⟩

theorem IsM.of_set {w : World} {p : Nat} {v : Value} {l l' : Bool} {bs : List Nat} (h : w.heap[p]? = some (.cells #[v, .bool l] 88 (0, 0))) (ho : w.ownsRow 0 5 1 v bs.length (bs.map u8v)) :
    IsM (w.setCell ⟨p, 1, none⟩ (.bool l')) p v.ownBlock (bs, l') ∧ Fr 0 [] (p :: v.ownBlock.toList) w (w.setCell ⟨p, 1, none⟩ (.bool l')) := by
  have f : Fr 0 [] [p] w (w.setCell ⟨p, 1, none⟩ (.bool l')) := (Fr.refl w).setCell (p := ⟨p, 1, none⟩) _ (Nat.zero_le _) (.inl (by simp))
  refine ⟨⟨v, ?_, f.own ho (by simp) (fun k hk => ?_), rfl⟩, f.mono (Nat.le_refl _) (by simp) (by simp)⟩
  · rw [block_set h]; rfl
  · have := own_ne ho h (by decide)
    simp
    rintro rfl
    exact this hk

set_option maxRecDepth 100000 in
set_option maxHeartbeats 1000000 in
theorem put_over (p : Nat) (G : Option Nat) (s : List Nat × Bool) (v : Value) (l : List (List Nat)) (w : World) (hM : IsM w p G s) (hv : Bss w v l) (ht : l.flatten.length ≤ 140737488355328) (hl : s.2 = true ∨ 262144 - (s.1.length : Int) < l.flatten.length) :
    Calls Try.prog 52 #[.pointer (some ⟨p, 0, none⟩), v] w (RetM p G (s.1, true) w) := by
  obtain ⟨bs, lg⟩ := s
  obtain ⟨vm, hp, ho, rfl⟩ := hM
  simp only at hl hp ho
  obtain ⟨A, c, rfl, hnc, hcm, _, _⟩ := own_slice ho
  obtain ⟨n, hn⟩ : ∃ n, bs.length = n := ⟨_, rfl⟩
  rw [hn] at hl hp ho hnc
  simp only [hn]
  obtain ⟨T, hT⟩ : ∃ T, l.flatten.length = T := ⟨_, rfl⟩
  rw [hT] at hl
  have HT := Lib.hid hT
  have HN := Lib.hid hn
  have HO := Lib.hid ho
  have HP := Lib.hid hp
  have hnm : n ≤ 9223372036854775807 := by unfold maxLen at hcm; omega
  clear hT hn ho hp hcm
  rcases lg with _ | _
  · have hl' : 262144 - (n : Int) < T := by simpa using hl
    clear hl
    have HTT := Lib.hid ht
    clear ht
    go_enter Try.func52, Try.ntmps52
    go_wp2_with fail
    refine (concat_any v l w hv HTT.out).mono ?_
    rintro e w1 ⟨v1, rfl, ho1, hb1⟩
    obtain ⟨A1, c1, rfl, hnc1, hcm1, _, _⟩ := own_slice ho1
    rw [HT.out] at hnc1 ⊢
    have hp1 := (Fr.of_below (B := 0) (T := []) (S := []) hb1).keep0 HP.out (by simp)
    have c0 : w1.cell? ⟨p, 0, none⟩ = some (.slice A n c) := cell_at hp1 0
    have c1 : w1.cell? ⟨p, 1, none⟩ = some (.bool false) := cell_at hp1 1
    have c2 := frozen_at hp1 1
    have hfin := IsM.of_set (l' := true) hp1 ((Fr.of_below (B := 0) (T := []) (S := []) hb1).own (HN.out ▸ HO.out : w.ownsRow 0 5 1 (.slice A n c) bs.length (bs.map u8v)) (by simp) (by simp))
    have HF := Lib.hid hfin
    have HB := Lib.hid hb1
    have hm1 : T ≤ 9223372036854775807 := by unfold maxLen at hcm1; omega
    clear ho1 hp1 hfin hb1 hcm1
    go_wp2_with fail
    go_ret
    exact ⟨_, rfl, HF.out.1, (Fr.of_below HB.out).trans HF.out.2, .inl rfl⟩
  · clear hl
    go_enter Try.func52, Try.ntmps52
    go_wp2_with fail
    refine (concat_any v l w hv ht).mono ?_
    rintro e w1 ⟨v1, rfl, ho1, hb1⟩
    have hp1 := (Fr.of_below (B := 0) (T := []) (S := []) hb1).keep0 HP.out (by simp)
    have c0 : w1.cell? ⟨p, 0, none⟩ = some (.slice A n c) := cell_at hp1 0
    have c1 : w1.cell? ⟨p, 1, none⟩ = some (.bool true) := cell_at hp1 1
    have c2 := frozen_at hp1 1
    have hfin := IsM.of_set (l' := true) hp1 ((Fr.of_below (B := 0) (T := []) (S := []) hb1).own (HN.out ▸ HO.out : w.ownsRow 0 5 1 (.slice A n c) bs.length (bs.map u8v)) (by simp) (by simp))
    have HF := Lib.hid hfin
    have HB := Lib.hid hb1
    clear ho1 hp1 hfin hb1
    go_wp2_with fail
    go_ret
    exact ⟨_, rfl, HF.out.1, (Fr.of_below HB.out).trans HF.out.2, .inl rfl⟩

set_option maxRecDepth 100000 in
set_option maxHeartbeats 1000000 in
theorem put_room (p : Nat) (G : Option Nat) (bs : List Nat) (v : Value) (l : List (List Nat)) (w : World) (hM : IsM w p G (bs, false)) (hv : Bss w v l) (hl : ¬ 262144 - (bs.length : Int) < l.flatten.length) :
    Calls Try.prog 52 #[.pointer (some ⟨p, 0, none⟩), v] w (RetM p G (bs ++ l.flatten, false) w) := by
  obtain ⟨i0, hi0, hz0, hz1, hz2⟩ := info_parts Try.infoByte
  obtain ⟨vm, hp, ho, rfl⟩ := hM
  simp only at hp ho
  obtain ⟨A, c, rfl, hnc, hcm, _, _⟩ := own_slice ho
  obtain ⟨n, hn⟩ : ∃ n, bs.length = n := ⟨_, rfl⟩
  rw [hn] at hl hp ho hnc
  simp only [hn]
  obtain ⟨T, hT⟩ : ∃ T, l.flatten.length = T := ⟨_, rfl⟩
  have HT := Lib.hid hT
  have HN := Lib.hid hn
  have HO := Lib.hid ho
  have HP := Lib.hid hp
  rw [hT] at hl
  clear hT hn ho hp hcm
  go_enter Try.func52, Try.ntmps52
  go_wp2_with fail
  refine (concat_any v l w hv (by rw [HT.out]; omega)).mono ?_
  rintro e w1 ⟨v1, rfl, ho1, hb1⟩
  obtain ⟨A1, k1, rfl, hnc1, hcm1, hr1, _⟩ := own_slice ho1
  rw [HT.out] at hnc1 hr1 ⊢
  have f1 : Fr 0 [] [] w w1 := Fr.of_below hb1
  have hp1 := f1.keep0 HP.out (by simp)
  have ho1' := f1.own HO.out (by simp) (by simp)
  have c0 : w1.cell? ⟨p, 0, none⟩ = some (.slice A n c) := cell_at hp1 0
  have c1 : w1.cell? ⟨p, 1, none⟩ = some (.bool false) := cell_at hp1 1
  have c2 := frozen_at hp1 1
  have hpo : Value.ownBlock (.slice A n c) ≠ some p := own_ne HO.out HP.out (by decide)
  have f2 : Fr 0 [] [p] w1 (w1.setCell ⟨p, 1, none⟩ (.bool false)) := (Fr.refl w1).setCell (p := ⟨p, 1, none⟩) _ (Nat.zero_le _) (.inl (by simp))
  have hp2 : (w1.setCell ⟨p, 1, none⟩ (.bool false)).heap[p]? = some (.cells #[.slice A n c, .bool false] 88 (0, 0)) := by rw [block_set hp1]; rfl
  have ho2 := f2.own ho1' (by simp) (fun k hk => by simp; rintro rfl; exact hpo hk)
  have hr2 : Rd (w1.setCell ⟨p, 1, none⟩ (.bool false)) 1 A1 T (l.flatten.map u8v) := hr1.frame f2 (fun _ a ha => by
    simp
    intro e
    exact own_ne ho1 hp1 (by decide) (by subst ha; rw [← e]; rfl))
  have hdec : decide (262144 - (n : Int) < (T : Int)) = false := by simpa using hl
  have hnm : n + T ≤ 262144 := by omega
  have HF2 := Lib.hid ((Fr.of_below hb1 : Fr 0 [] [p] w w1).trans f2)
  have HP2 := Lib.hid hp2
  have HO2 := Lib.hid ho2
  have HR2 := Lib.hid hr2
  have HPO := Lib.hid hpo
  have HU := Lib.hid (u8_one' l.flatten)
  clear ho1 hp1 ho1' hr1 hb1 hcm1 hpo f2 hp2 ho2 hr2 f1
  go_wp2_with (at_builtin
               refine wpList_append_rd_at _ rfl (.tmp 37) (.tmp 38) 31 rfl 0 5 i0 (.int .u8 0) 1 1 Try.underlying31 hi0 hz0 hz1 hz2 rfl (by decide) (.slice A n c) n _ rfl HO2.out A1 T k1 (l.flatten.map u8v) rfl HR2.out HU.out (by unfold maxLen; omega) (by omega) (Nat.zero_le _) ?_
               intro v5 w5 hown5 hgrow5 hat5
               obtain ⟨A5, k5, rfl, _, _, _, _⟩ := own_slice hown5
               have hp5 := hgrow5.block p (lt_of_block HP2.out) (fun e => HPO.out e.symm)
               rw [HP2.out] at hp5
               have d0 : w5.cell? ⟨p, 0, none⟩ = some (.slice A n c) := cell_at hp5 0
               have d2 := frozen_at hp5 0
               have HP5 := Lib.hid hp5
               have HO5 := Lib.hid hown5
               have HG5 := Lib.hid hgrow5
               have HA5 := Lib.hid hat5
               clear hown5 hgrow5 hat5 hp5 c0 c1 c2)
  go_ret
  have f5 : Fr 0 [] (p :: (Value.ownBlock (.slice A n c)).toList) (w1.setCell ⟨p, 1, none⟩ (.bool false)) w5 := (Fr.refl _).grown HG5.out (fun j hj => ⟨Nat.zero_le _, .inl (by simp [hj])⟩)
  have f6 : Fr 0 [] [p] w5 (w5.setCell ⟨p, 0, none⟩ (.slice A5 (n + T) k5)) := (Fr.refl w5).setCell (p := ⟨p, 0, none⟩) _ (Nat.zero_le _) (.inl (by simp))
  have hsz : w.heap.size ≤ (w1.setCell ⟨p, 1, none⟩ (.bool false)).heap.size := HF2.out.size
  refine ⟨Value.ownBlock (.slice A5 (n + T) k5), rfl, ⟨_, ?_, ?_, rfl⟩, (HF2.out.mono (Nat.le_refl _) (by simp) (by simp)).trans (f5.trans (f6.mono (Nat.le_refl _) (by simp) (by simp))), ?_⟩
  · rw [block_set HP5.out]; rfl
  · have e : (bs ++ l.flatten).length = n + T := by rw [List.length_append, HN.out, HT.out]
    have := f6.own HO5.out (by simp) (fun k hk => by
      simp
      rintro rfl
      exact own_ne HO5.out HP5.out (by decide) hk)
    simp only [e, List.map_append]
    exact this
  · rcases HA5.out with h | h
    · exact .inl h
    · exact .inr ⟨_, h, hsz⟩

theorem put_any (p : Nat) (G : Option Nat) (s : List Nat × Bool) (v : Value) (l : List (List Nat)) (w : World) (hM : IsM w p G s) (hv : Bss w v l) (ht : l.flatten.length ≤ 140737488355328) :
    Calls Try.prog 52 #[.pointer (some ⟨p, 0, none⟩), v] w (RetM p G (putS s l.flatten) w) := by
  by_cases h1 : s.2 = true
  · rw [putS_long h1]; exact put_over p G s v l w hM hv ht (.inl h1)
  · by_cases h2 : 262144 - (s.1.length : Int) < l.flatten.length
    · rw [putS_over h2]; exact put_over p G s v l w hM hv ht (.inr h2)
    · have h3 : s.2 = false := by simpa using h1
      rw [putS_fits h3 h2]
      obtain ⟨bs, lg⟩ := s
      simp only at h3
      subst h3
      exact put_room p G bs v l w hM hv h2
end Go.Proofs.Ytpccbobomppdbaa
