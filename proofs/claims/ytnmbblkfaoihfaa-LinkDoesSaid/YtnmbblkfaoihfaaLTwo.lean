/- An end of package link beside an end of the reference, seen from the world in which the law began. -/
import Derived.Test.YtnmbblkfaoihfaaLRSend
import Derived.Test.YtnmbblkfaoihfaaLOpen
namespace Go.Proofs.Ytnmbblkfaoihfaa
open Go.RowKit

theorem fr_belowP {w w' : World} {B p : Nat} {G : Option Nat} (f : Fr 0 [] (p :: G.toList) w w') (hp : B ≤ p) (hG : ∀ g, G = some g → B ≤ g) (hB : B ≤ w.heap.size) : Below B w w' :=
  ⟨f.os, f.tape, f.output, f.size, fun k hk => f.block k (by omega) (.inr ⟨fun _ _ _ _ => by simp, fun hm => by
    rcases List.mem_cons.1 hm with e | e
    · omega
    · have := hG k (by simpa using e); omega⟩)⟩
theorem IsE.gcell {W : World} {T TE : TypeId} {p : Nat} {G : Option Nat} {s : LSt} (h : IsE W T TE p G s) : (∃ cs, W.heap[p]? = some (.cells cs TE (0, 0))) ∧ ∀ g, G = some g → ∃ cs, W.heap[g]? = some (.cells cs T (0, 0)) := by
  obtain ⟨v, h1, zs, _, h2, h3, _⟩ := h
  exact ⟨⟨_, h1⟩, fun g hg => (own_block h2 (by rw [h3]; exact hg)).2⟩
/-- All stays but items and ends. -/
def KeepT (W W' : World) : Prop := KeepsB W W' ∧ ∀ (k : Nat) (cs : Array Value) (T : TypeId) (fz : Nat × Nat), W.heap[k]? = some (.cells cs T fz) → T ≠ 84 → T ≠ 80 → T ≠ 91 → T ≠ 55 → W'.heap[k]? = some (.cells cs T fz)
theorem KeepT.below {W W' : World} (h : Below W.heap.size W W') : KeepT W W' := ⟨KeepsB.below h, fun k _ _ _ hk _ _ _ _ => (h.block k (lt_of_block hk)).trans hk⟩
theorem KeepT.trans {A B C : World} (h : KeepT A B) (k : KeepT B C) : KeepT A C := ⟨h.1.trans k.1, fun j _ _ _ hj h1 h2 h3 h4 => k.2 j _ _ _ (h.2 j _ _ _ hj h1 h2 h3 h4) h1 h2 h3 h4⟩
theorem KeepT.pk {W W' : World} (h : KeepT W W') {v : Value} {k : LPk} (hp : IsP W v k) : IsP W' v k := by
  obtain ⟨bv, h1, h2⟩ := hp
  exact ⟨bv, h1, h.1 _ _ h2⟩
theorem KeepT.cells {W W' : World} (h : KeepT W W') {k : Nat} {cs : Array Value} {fz : Nat × Nat} (hk : W.heap[k]? = some (.cells cs 43 fz)) : W'.heap[k]? = some (.cells cs 43 fz) := h.2 k _ _ _ hk (by decide) (by decide) (by decide) (by decide)
theorem KeepT.op {W W' : World} (h : KeepT W W') {k : Nat} {cs : Array Value} {fz : Nat × Nat} (hk : W.heap[k]? = some (.cells cs 57 fz)) : W'.heap[k]? = some (.cells cs 57 fz) := h.2 k _ _ _ hk (by decide) (by decide) (by decide) (by decide)
theorem KeepT.pks {W W' : World} (h : KeepT W W') {B : Nat} {v : Value} {l : List LPk} (hp : IsPs B W v l) : IsPs B W' v l := by
  obtain ⟨zs, h1, h2, h3⟩ := hp
  refine ⟨zs, h1, ?_, fun z hz => h.1 _ _ (h3 z hz)⟩
  refine ⟨h2.1, ?_⟩
  rcases h2.2 with e | ⟨g, cap, cur, e1, e2, e3, e4⟩
  · exact .inl e
  · exact .inr ⟨g, cap, cur, e1, e2, h.cells e3, e4⟩

/-- Both ends, each come since w. -/
def Two (w : World) (p q : Nat) (s r : LSt) (W : World) : Prop :=
  ∃ G H, IsE W 84 80 p G s ∧ IsX W q H r ∧ w.heap.size ≤ p ∧ w.heap.size ≤ q ∧ (∀ g, G = some g → w.heap.size ≤ g) ∧ (∀ g, H = some g → w.heap.size ≤ g) ∧ Below w.heap.size w W
theorem Two.keep {w W W' : World} {p q : Nat} {s r : LSt} (h : Two w p q s r W) (hb : Below W.heap.size W W') : Two w p q s r W' := by
  obtain ⟨G, H, h1, h2, h3, h4, h5, h6, h7⟩ := h
  exact ⟨G, H, h1.below hb, h2.below hb, h3, h4, h5, h6, h7.trans (hb.mono h7.size)⟩
theorem Two.below {w W : World} {p q : Nat} {s r : LSt} (h : Two w p q s r W) : Below w.heap.size w W := by
  obtain ⟨G, H, h1, h2, h3, h4, h5, h6, h7⟩ := h
  exact h7
/-- What a call on one of two ends leaves of both. -/
theorem two_step {w W W' : World} {T TE T' TE' : TypeId} {p q : Nat} {G G' H : Option Nat} {s s' r : LSt} (h : IsE W T TE p G s) (k : IsE W T' TE' q H r) (n1 : TE ≠ TE') (n2 : T ≠ TE') (n3 : TE ≠ T') (n4 : T ≠ T') (u1 : T ≠ 5) (u2 : TE ≠ 5)
    (hp : w.heap.size ≤ p) (hG : ∀ g, G = some g → w.heap.size ≤ g) (hb : Below w.heap.size w W) (hE : IsE W' T TE p G' s') (hF : Fr 0 [] (p :: G.toList) W W') (hG' : ∀ g, G' = some g → G = some g ∨ W.heap.size ≤ g) :
    IsE W' T' TE' q H r ∧ (∀ g, G' = some g → w.heap.size ≤ g) ∧ Below w.heap.size w W' ∧ KeepsB W W' ∧ ∀ (k : Nat) (cs : Array Value) (t : TypeId) (fz : Nat × Nat), W.heap[k]? = some (.cells cs t fz) → t ≠ T → t ≠ TE → W'.heap[k]? = some (.cells cs t fz) := by
  obtain ⟨⟨c1, hc1⟩, hc2⟩ := h.gcell
  obtain ⟨⟨c3, hc3⟩, hc4⟩ := k.gcell
  have hk := h.keeps u1 u2 hF
  refine ⟨k.keepS hF ?_ ?_ hk, ?_, hb.trans (fr_belowP hF hp hG hb.size), hk, ?_⟩
  · intro hm
    rcases List.mem_cons.1 hm with e | e
    · exact block_ne hc1 hc3 n1 e.symm
    · obtain ⟨c, hc⟩ := hc2 q (by simpa using e)
      exact block_ne hc hc3 n2 rfl
  · intro g hg hm
    obtain ⟨c, hc⟩ := hc4 g hg
    rcases List.mem_cons.1 hm with e | e
    · exact block_ne hc1 hc n3 e.symm
    · obtain ⟨c5, hc5⟩ := hc2 g (by simpa using e)
      exact block_ne hc5 hc n4 rfl
  · intro g hg
    rcases hG' g hg with e | e
    · exact hG g e
    · have := hb.size; omega
  · intro j cs t fz hj e1 e2
    refine (hF.block j (lt_of_block hj) (.inr ⟨fun _ _ _ _ => by simp, fun hm => ?_⟩)).trans hj
    rcases List.mem_cons.1 hm with e | e
    · subst e
      rw [hc1] at hj
      injection hj with hj
      injection hj with _ hj _
      exact e2 hj.symm
    · obtain ⟨c, hc⟩ := hc2 j (by simpa using e)
      rw [hc] at hj
      injection hj with hj
      injection hj with _ hj _
      exact e1 hj.symm
theorem Two.callE {w W : World} {p q : Nat} {s s' r : LSt} {f : FuncId} {args : Array Value} {R : Ending → World → Prop} (h : Two w p q s r W)
    (hc : ∀ G, IsE W 84 80 p G s → w.heap.size ≤ p → (∀ g, G = some g → w.heap.size ≤ g) → Calls Try.prog f args W (RetE 84 80 p G R s' W)) :
    Calls Try.prog f args W fun e W' => R e W' ∧ Two w p q s' r W' ∧ KeepT W W' := by
  obtain ⟨G, H, h1, h2, h3, h4, h5, h6, h7⟩ := h
  refine (hc G h1 h3 h5).mono fun e W' ⟨G', hR, hE, hF, hG⟩ => ?_
  obtain ⟨k1, k2, k3, k4, k5⟩ := two_step h1 h2 (by decide) (by decide) (by decide) (by decide) (by decide) (by decide) h3 h5 h7 hE hF (fun g hg => by
    rcases hG with e | ⟨g', e, hg'⟩
    · exact .inl (by rw [← e]; exact hg)
    · rw [e] at hg
      injection hg with hg
      subst hg
      exact .inr hg')
  exact ⟨hR, ⟨G', H, hE, k1, h3, h4, k2, h6, k3⟩, k4, fun k cs T fz hk e1 e2 _ _ => k5 k cs T fz hk e1 e2⟩
theorem Two.callX {w W : World} {p q : Nat} {s r r' : LSt} {f : FuncId} {args : Array Value} {R : Ending → World → Prop} (h : Two w p q s r W)
    (hc : ∀ H, IsX W q H r → w.heap.size ≤ q → (∀ g, H = some g → w.heap.size ≤ g) → Calls Try.prog f args W (RetX q H R r' W)) :
    Calls Try.prog f args W fun e W' => R e W' ∧ Two w p q s r' W' ∧ KeepT W W' := by
  obtain ⟨G, H, h1, h2, h3, h4, h5, h6, h7⟩ := h
  refine (hc H h2 h4 h6).mono fun e W' ⟨H', hR, hE, hF, hG⟩ => ?_
  obtain ⟨k1, k2, k3, k4, k5⟩ := two_step h2 h1 (by decide) (by decide) (by decide) (by decide) (by decide) (by decide) h4 h6 h7 hE hF hG
  exact ⟨hR, ⟨G, H', k1, hE, h3, h4, h5, k2, k3⟩, k4, fun k cs T fz hk _ _ e1 e2 => k5 k cs T fz hk e1 e2⟩
theorem Two.far {w W W' : World} {p q n : Nat} {s r : LSt} {cs : Array Value} {TP : TypeId} {fz : Nat × Nat} (h : Two w p q s r W) (f : Fr 0 [] [n] W W') (hn : W.heap[n]? = some (.cells cs TP fz)) (u1 : TP ≠ 5) (u2 : TP ≠ 84) (u3 : TP ≠ 80) (u4 : TP ≠ 91) (u5 : TP ≠ 55) (hb : w.heap.size ≤ n) : Two w p q s r W' := by
  obtain ⟨G, H, h1, h2, h3, h4, h5, h6, h7⟩ := h
  refine ⟨G, H, h1.far f hn u1 u2 u3, h2.far f hn u1 u4 u5, h3, h4, h5, h6, h7.trans ⟨f.os, f.tape, f.output, f.size, fun k hk => f.block k (by have := h7.size; omega) (.inr ⟨fun _ _ _ _ => by simp, by simp; omega⟩)⟩⟩
theorem IsPs.low {B : Nat} {W : World} {v : Value} {l : List LPk} (h : IsPs B W v l) : IsPs 0 W v l := by
  obtain ⟨zs, h1, h2, h3⟩ := h
  exact ⟨zs, h1, own_low h2 (Nat.zero_le _), h3⟩
/-- Bytes that came in are read whatever an end turns. -/
theorem by_in {w W : World} {A : Option Addr} {c : Nat} {bs : List Nat} (hin : IsBy w A c bs) (hb : Below w.heap.size w W) {p : Nat} {G : Option Nat} (hp : w.heap.size ≤ p) (hG : ∀ g, G = some g → w.heap.size ≤ g) : ∀ W', Fr 0 [] (p :: G.toList) W W' → Bs W' (.slice A bs.length c) bs := fun _ f =>
  (hin.below (hb.trans (fr_belowP f hp hG hb.size))).bs
theorem Two.send {w W : World} {p q : Nat} {s r : LSt} (h : Two w p q s r W) (A : Option Addr) (c : Nat) (bs : List Nat) (now : Int) (hb : ByO W (.slice A bs.length c) bs) (hs : 0 ≤ s.sent ∧ s.sent < 9223372036854775807) (hnow : -9223372036854775808 ≤ now ∧ now ≤ 9223372036854775807) :
    Calls Try.prog 19 #[.pointer (some ⟨p, 0, none⟩), .slice A bs.length c, .int .i64 now] W fun e W' => (∃ v, e = .returned (.tuple #[v, .int .i64 (sendE s bs)]) ∧ IsP W' v (sendP s bs)) ∧ Two w p q (sendS s bs now) r W' ∧ KeepT W W' :=
  h.callE fun G hE _ _ => lsend_any p G s A c bs now W hE (hE.hbs (by decide) (by decide) hb) hb.2 hs hnow
theorem Two.xsend {w W : World} {p q : Nat} {s r : LSt} (h : Two w p q s r W) (A : Option Addr) (c : Nat) (bs : List Nat) (now : Int) (hb : IsBy w A c bs) (hs : 0 ≤ r.sent ∧ r.sent < 9223372036854775807) (hnow : -9223372036854775808 ≤ now ∧ now ≤ 9223372036854775807) :
    Calls Try.prog 22 #[.pointer (some ⟨q, 0, none⟩), .slice A bs.length c, .int .i64 now] W fun e W' => (∃ v, e = .returned (.tuple #[v, .int .i64 (sendE r bs)]) ∧ IsP W' v (sendP r bs)) ∧ Two w p q s (sendS r bs now) W' ∧ KeepT W W' :=
  h.callX fun H hE hq hH => rsend_any q H r A c bs now W hE (by_in hb h.below hq hH) hb.2.2.2.1 hs hnow
theorem Two.tick {w W : World} {p q : Nat} {s r : LSt} (h : Two w p q s r W) (now : Int) (hn : s.l.length ≤ 1048576) (hI : ∀ x ∈ s.l, 0 ≤ x.tries ∧ x.tries < 9223372036854775807 ∧ x.body.length ≤ 140737488351232) (hnow : -9223372036854775808 ≤ now ∧ now ≤ 9223372036854775807) :
    Calls Try.prog 21 #[.pointer (some ⟨p, 0, none⟩), .int .i64 now] W fun e W' => (∃ v, e = .returned v ∧ IsPs W.heap.size W' v (tickP s now)) ∧ Two w p q (tickS s now) r W' ∧ KeepT W W' :=
  h.callE fun G hE _ _ => ltick_any p G s now W hE hn hI hnow
theorem Two.xtick {w W : World} {p q : Nat} {s r : LSt} (h : Two w p q s r W) (now : Int) (hn : r.l.length ≤ 1048576) (hI : ∀ x ∈ r.l, 0 ≤ x.tries ∧ x.tries < 9223372036854775807) (hnow : -9223372036854775808 ≤ now ∧ now ≤ 9223372036854775807) :
    Calls Try.prog 24 #[.pointer (some ⟨q, 0, none⟩), .int .i64 now] W fun e W' => (∃ v, e = .returned v ∧ IsPs W.heap.size W' v (tickP r now)) ∧ Two w p q s (tickS r now) W' ∧ KeepT W W' :=
  h.callX fun H hE _ _ => rtick_any q H r now W hE hn hI hnow
theorem Two.on {w W : World} {p q : Nat} {s r : LSt} (h : Two w p q s r W) (k : LPk) (A : Option Addr) (c : Nat) (hb : IsBy w A c k.body) (hl : k.body.length ≤ 9223372036854775807) (hmk : 0 ≤ s.mark ∧ s.mark < 9223372036854775807) :
    Calls Try.prog 20 #[.pointer (some ⟨p, 0, none⟩), .agg #[.int .i64 k.seq, .int .i64 k.ack, .slice A k.body.length c]] W fun e W' => (∃ bv v3, e = .returned (.tuple #[bv, .bool (onI s k), v3]) ∧ ByO W' bv (onB s k) ∧ IsP W' v3 (onP s k)) ∧ Two w p q (onS s k) r W' ∧ KeepT W W' :=
  h.callE fun G hE hp hG => lon_any p G s k A c W hE hl hmk (by_in hb h.below hp hG) hb.2.2.2.1
theorem Two.xon {w W : World} {p q : Nat} {s r : LSt} (h : Two w p q s r W) (k : LPk) (A : Option Addr) (c : Nat) (hb : IsBy w A c k.body) (hl : k.body.length ≤ 9223372036854775807) (hn : r.l.length ≤ 1048576) (hmk : 0 ≤ r.mark ∧ r.mark < 9223372036854775807) :
    Calls Try.prog 25 #[.pointer (some ⟨q, 0, none⟩), .agg #[.int .i64 k.seq, .int .i64 k.ack, .slice A k.body.length c]] W fun e W' => (∃ bv v3, e = .returned (.tuple #[bv, .bool (onI r k), v3]) ∧ Bs W' bv (onB r k) ∧ IsP W' v3 (onP r k)) ∧ Two w p q s (onS r k) W' ∧ KeepT W W' :=
  h.callX fun H hE hq hH => ron_any q H r k A c W hE hl hn hmk (by_in hb h.below hq hH) hb.2.2.2.1
/-- What the law's calls answer of the end. -/
theorem Two.open_ {w W : World} {p q : Nat} {s r : LSt} (h : Two w p q s r W) : Calls Try.prog 15 #[.pointer (some ⟨p, 0, none⟩)] W fun e W' => e = .returned (.int .i64 s.l.length) ∧ W = W' := by
  obtain ⟨G, H, h1, _⟩ := h
  exact lopen_any p G s W h1
theorem Two.mark {w W : World} {p q : Nat} {s r : LSt} (h : Two w p q s r W) : Calls Try.prog 26 #[.pointer (some ⟨p, 0, none⟩)] W fun e W' => e = .returned (.int .i64 s.mark) ∧ W = W' := by
  obtain ⟨G, H, h1, _⟩ := h
  exact lmark_any p G s W h1
theorem Two.sent {w W : World} {p q : Nat} {s r : LSt} (h : Two w p q s r W) : Calls Try.prog 27 #[.pointer (some ⟨p, 0, none⟩)] W fun e W' => e = .returned (.int .i64 s.sent) ∧ W = W' := by
  obtain ⟨G, H, h1, _⟩ := h
  exact lsent_any p G s W h1
/-- The reference's end lies in one block. -/
theorem Two.cells {w W : World} {p q : Nat} {s r : LSt} (h : Two w p q s r W) : ∃ A c, W.heap[q]? = some (.cells #[.slice A r.l.length c, .int .i64 r.sent, .int .i64 r.mark] 55 (0, 0)) := by
  obtain ⟨_, _, _, ⟨v, h1, zs, _, h2, _⟩, _⟩ := h
  obtain ⟨A, c, rfl, _⟩ := own_slice h2
  exact ⟨A, c, h1⟩

/-- What holds of an end behind i calls. -/
def InvL (s : LSt) (i : Int) : Prop := 0 ≤ s.sent ∧ s.sent ≤ i ∧ 0 ≤ s.mark ∧ s.mark ≤ i ∧ s.l.length ≤ 64 ∧ ∀ x ∈ s.l, 0 ≤ x.tries ∧ x.tries ≤ i + 1 ∧ x.body.length ≤ 2048
theorem InvL.next {s : LSt} {i : Int} (h : InvL s i) : InvL s (i + 1) := by
  obtain ⟨h1, h2, h3, h4, h5, h6⟩ := h
  exact ⟨h1, by omega, h3, by omega, h5, fun x hx => by have := h6 x hx; omega⟩
theorem InvL.send {s : LSt} {i : Int} (h : InvL s i) (bs : List Nat) (now : Int) : InvL (sendS s bs now) (i + 1) := by
  have h' := h.next
  unfold sendS
  split
  · rename_i he
    obtain ⟨h1, h2, h3, h4, h5, h6⟩ := h
    have hb : bs.length ≤ 2048 ∧ s.l.length < 64 := by
      unfold sendE at he
      split at he
      · cases he
      · split at he
        · cases he
        · omega
    refine ⟨by simp only []; omega, by simp only []; omega, h3, by simp only []; omega, by simp; omega, fun x hx => ?_⟩
    rcases List.mem_append.1 hx with hx | hx
    · have := h6 x hx; omega
    · simp at hx
      subst hx
      exact ⟨by simp, by simp only []; omega, hb.1⟩
  · exact h'
theorem InvL.tick {s : LSt} {i : Int} (h : InvL s i) (now : Int) : InvL (tickS s now) (i + 1) := by
  obtain ⟨h1, h2, h3, h4, h5, h6⟩ := h
  refine ⟨h1, by simp only [tickS]; omega, h3, by simp only [tickS]; omega, by simpa [tickS] using h5, fun x hx => ?_⟩
  simp only [tickS, List.mem_map] at hx
  obtain ⟨y, hy, rfl⟩ := hx
  have := h6 y hy
  unfold tickI
  split
  · exact ⟨by simp only []; omega, by simp only []; omega, this.2.2⟩
  · omega
theorem InvL.on {s : LSt} {i : Int} (h : InvL s i) (k : LPk) : InvL (onS s k) (i + 1) := by
  have h' := h.next
  unfold onS
  split
  · obtain ⟨h1, h2, h3, h4, h5, h6⟩ := h'
    obtain ⟨g1, g2, g3, g4, g5, g6⟩ := h
    refine ⟨h1, h2, ?_, ?_, Nat.le_trans (List.length_filter_le _ _) h5, fun x hx => h6 x (List.mem_filter.1 hx).1⟩
    · simp only []; split <;> omega
    · simp only []; split <;> omega
  · exact h'
end Go.Proofs.Ytnmbblkfaoihfaa
