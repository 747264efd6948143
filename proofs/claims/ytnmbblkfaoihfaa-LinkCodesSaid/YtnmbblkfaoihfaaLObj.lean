/- Ends in memory: package link's and the reference's. -/
import Derived.Test.YtnmbblkfaoihfaaLNext
import Derived.Test.YtnmbblkfaoihfaaCCat
import Derived.Test.YtnmbblkfaoihfaaFlow3
namespace Go.Proofs.Ytnmbblkfaoihfaa
open Go.RowKit

theorem own_low {w : World} {B B' e size n : Nat} {v : Value} {xs : List Value} (h : w.ownsRow B e size v n xs) (hB : B' ≤ B) : w.ownsRow B' e size v n xs := by
  refine ⟨h.1, ?_⟩
  rcases h.2 with h | ⟨g, cap, cur, h1, h2, h3⟩
  · exact .inl h
  · exact .inr ⟨g, cap, cur, h1, Nat.le_trans hB h2, h3⟩
/-- An item in memory: what it is, and the value that holds its body. -/
structure LIm where
  it : LIt
  bv : Value
def encL (z : LIm) : List Value := [.int .i64 z.it.seq, z.bv, .int .i64 z.it.tries, .int .i64 z.it.due]
theorem encL_len (z : LIm) : (encL z).length = 4 := rfl
theorem flatL_len (zs : List LIm) : (zs.flatMap encL).length = zs.length * 4 := by
  induction zs with
  | nil => rfl
  | cons z zs ih => rw [List.flatMap_cons, List.length_append, ih, encL_len, List.length_cons]; omega
theorem flatL_at (zs : List LIm) (k j : Nat) (hk : k < zs.length) (hj : j < 4) : (zs.flatMap encL)[k * 4 + j]? = (encL zs[k])[j]? := by
  induction zs generalizing k with
  | nil => simp at hk
  | cons z zs ih =>
    cases k with
    | zero => rw [List.flatMap_cons, List.getElem?_append_left (by rw [encL_len]; omega)]; simp
    | succ k => rw [List.flatMap_cons, List.getElem?_append_right (by rw [encL_len]; omega), encL_len, show (k + 1) * 4 + j - 4 = k * 4 + j by omega, ih k (by simpa using hk)]; simp

/-- An operation that appends what may be read to a row that is the caller's own; where the row lies behind it. -/
theorem exec_append_at {P : Program} {o : Oper} {ρ : Operand → Value} {w : World} {S : World → Prop} {H : Value → World → Prop} (s x : Operand) (t : TypeId)
    (ho : o.op = .call { callee := .builtin .append, args := #[s, x], argTypes := #[t, t] })
    (base : Nat) (e : TypeId) (i : TypeInfo) (z : Value) (size bytes : Nat) (ht : P.underlying t = some (.slice e)) (hi : P.info? e = some i) (hz : i.zero = some z)
    (hsize : i.size = size) (hby : i.bytes = bytes) (hzs : z.cells.size = size) (hsz : 0 < size)
    (v : Value) (n : Nat) (xs : List Value) (hs : ρ s = v) (hown : w.ownsRow base e size v n xs)
    (A : Option Addr) (m c : Nat) (news : List Value) (hx : ρ x = .slice A m c) (hr : Rd w size A m news) (h1 : ∀ u ∈ news, u.oneCell' = true)
    (h63 : n + m ≤ maxLen) (hbytes : (n + m) * bytes ≤ 140737488355328) (hbase : base ≤ w.heap.size)
    (h : ∀ v' w', w'.ownsRow base e size v' (n + m) (xs ++ news) → w.grownBy w' v.ownBlock → (v'.ownBlock = v.ownBlock ∨ v'.ownBlock = some w.heap.size) → S w' ∧ H v' w') :
    ∃ v' w', (execOp ρ o).run P w = .ok (.value v') w' ∧ S w' ∧ H v' w' := by
  obtain ⟨v', w', hrun, h2, h3, h4⟩ := run_append_rd_at (P := P) w base t o.type e i z size bytes ht hi hz hsize hby hzs hsz v n xs hown A m c news hr h1 h63 hbytes hbase
  refine ⟨v', w', ?_, h v' w' h2 h3 h4⟩
  unfold execOp
  simp only [ho, resolve, invoke, builtin, Sem.run_bind, Sem.run_pure, Result.andThen_ok, List.map_toArray, List.map_cons, List.map_nil, hs, hx, hrun]

/-- Bytes in memory that never turn. -/
def ByO (W : World) (v : Value) (bs : List Nat) : Prop := W.ownsRow 0 5 1 v bs.length (bs.map u8v) ∧ ∀ b ∈ bs, b < 256
theorem ByO.bs {W : World} {v : Value} {bs : List Nat} (h : ByO W v bs) : Bs W v bs := Bs.of_own h.1
/-- The numbers that an item bears are in range. -/
def OkI (x : LIt) : Prop := I64 x.seq ∧ 0 ≤ x.tries ∧ x.tries ≤ 9223372036854775807 ∧ I64 x.due
/-- Items in memory. -/
def HeldI (W : World) (T : TypeId) (v : Value) (G : Option Nat) (l : List LIt) : Prop :=
  ∃ zs : List LIm, zs.map (·.it) = l ∧ W.ownsRow 0 T 4 v l.length (zs.flatMap encL) ∧ v.ownBlock = G ∧ ∀ z ∈ zs, ByO W z.bv z.it.body
/-- An end in memory. -/
def IsE (W : World) (T TE : TypeId) (p : Nat) (G : Option Nat) (s : LSt) : Prop :=
  ∃ v, W.heap[p]? = some (.cells #[v, .int .i64 s.sent, .int .i64 s.mark] TE (0, 0)) ∧ HeldI W T v G s.l

theorem ByO.frame {W W' : World} {S : List Nat} {T : List TypeId} {v : Value} {bs : List Nat} (h : ByO W v bs) (f : Fr 0 T S W W') (hT : 5 ∉ T) (hS : ∀ k ∈ S, ∀ cs fz, W.heap[k]? ≠ some (.cells cs 5 fz)) : ByO W' v bs := by
  refine ⟨f.own h.1 hT fun k hk hm => ?_, h.2⟩
  obtain ⟨_, cs, hc⟩ := own_block h.1 hk
  exact hS k hm _ _ hc
theorem ByO.below {W W' : World} {v : Value} {bs : List Nat} (h : ByO W v bs) (b : Below W.heap.size W W') : ByO W' v bs := h.frame (Fr.of_below (T := []) (S := []) b) (by simp) (by simp)
theorem HeldI.below {W W' : World} {T : TypeId} {v : Value} {G : Option Nat} {l : List LIt} (h : HeldI W T v G l) (b : Below W.heap.size W W') : HeldI W' T v G l := by
  obtain ⟨zs, h1, h2, h3, h4⟩ := h
  exact ⟨zs, h1, (Fr.of_below (B := 0) (T := []) (S := []) b).own h2 (by simp) (by simp), h3, fun z hz => (h4 z hz).below b⟩
theorem IsE.below {W W' : World} {T TE : TypeId} {p : Nat} {G : Option Nat} {s : LSt} (h : IsE W T TE p G s) (b : Below W.heap.size W W') : IsE W' T TE p G s := by
  obtain ⟨v, h1, h2⟩ := h
  exact ⟨v, (b.block p (lt_of_block h1)).trans h1, h2.below b⟩
theorem IsE.lt {W : World} {T TE : TypeId} {p : Nat} {G : Option Nat} {s : LSt} (h : IsE W T TE p G s) : p < W.heap.size := by
  obtain ⟨v, h1, _⟩ := h
  exact lt_of_block h1
theorem ByO.far {W W' : World} {n : Nat} {cs : Array Value} {TP : TypeId} {fz : Nat × Nat} {v : Value} {bs : List Nat} (h : ByO W v bs) (f : Fr 0 [] [n] W W') (hn : W.heap[n]? = some (.cells cs TP fz)) (hT : TP ≠ 5) : ByO W' v bs :=
  h.frame f (by simp) fun k hk cs' fz' e => by
    simp at hk
    subst hk
    rw [hn] at e
    injection e with e
    injection e with _ e _
    exact hT e
theorem IsE.far {W W' : World} {n : Nat} {cs : Array Value} {T TE TP : TypeId} {fz : Nat × Nat} {p : Nat} {G : Option Nat} {s : LSt} (h : IsE W T TE p G s) (f : Fr 0 [] [n] W W') (hn : W.heap[n]? = some (.cells cs TP fz)) (h1 : TP ≠ 5) (h2 : TP ≠ T) (h3 : TP ≠ TE) : IsE W' T TE p G s := by
  obtain ⟨v, k1, zs, k2, k3, k4, k5⟩ := h
  have hpn : p ≠ n := fun e => by
    subst e
    rw [hn] at k1
    injection k1 with e
    injection e with _ e _
    exact h3 e
  refine ⟨v, (f.block p (lt_of_block k1) (.inr ⟨fun _ _ _ _ => by simp, by simpa using hpn⟩)).trans k1, zs, k2, f.own k3 (by simp) (fun k hk hm => ?_), k4, fun z hz => (k5 z hz).far f hn h1⟩
  obtain ⟨_, cs2, hc⟩ := own_block k3 hk
  simp at hm
  subst hm
  rw [hn] at hc
  injection hc with e
  injection e with _ e _
  exact h2 e
/-- What a call on an end leaves. -/
def RetE (T TE : TypeId) (p : Nat) (G : Option Nat) (R : Ending → World → Prop) (s : LSt) (w : World) (e : Ending) (w' : World) : Prop :=
  ∃ G', R e w' ∧ IsE w' T TE p G' s ∧ Fr 0 [] (p :: G.toList) w w' ∧ (G' = G ∨ ∃ g, G' = some g ∧ w.heap.size ≤ g)

/-- A packet that is handed over or back. -/
def IsP (W : World) (v : Value) (k : LPk) : Prop := ∃ bv, v = .agg #[.int .i64 k.seq, .int .i64 k.ack, bv] ∧ ByO W bv k.body
theorem IsP.below {W W' : World} {v : Value} {k : LPk} (h : IsP W v k) (b : Below W.heap.size W W') : IsP W' v k := by
  obtain ⟨bv, h1, h2⟩ := h
  exact ⟨bv, h1, h2.below b⟩
/-- A packet that came in, or that is handed back: it may be read. -/
def IsPa (W : World) (v : Value) (k : LPk) : Prop := ∃ bv, v = .agg #[.int .i64 k.seq, .int .i64 k.ack, bv] ∧ Bs W bv k.body ∧ ∀ b ∈ k.body, b < 256
theorem IsPa.below {W W' : World} {v : Value} {k : LPk} (h : IsPa W v k) (b : Below W.heap.size W W') : IsPa W' v k := by
  obtain ⟨bv, h1, h2, h3⟩ := h
  exact ⟨bv, h1, h2.below b, h3⟩
theorem IsP.pa {W : World} {v : Value} {k : LPk} (h : IsP W v k) : IsPa W v k := by
  obtain ⟨bv, h1, h2⟩ := h
  exact ⟨bv, h1, h2.bs, h2.2⟩
end Go.Proofs.Ytnmbblkfaoihfaa
