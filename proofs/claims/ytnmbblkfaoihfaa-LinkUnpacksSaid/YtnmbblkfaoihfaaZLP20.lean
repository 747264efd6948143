/- Joined: An end of package link beside an end of the reference, seen from the world in which the law began. lives of chapter 12's laws answers true. An operation of the laws, as it came in. -/
import Derived.Test.YtnmbblkfaoihfaaZLP18
import Derived.Test.YtnmbblkfaoihfaaZLP19
import Derived.Test.YtnmbblkfaoihfaaZLP13
import Derived.Lib.SlBytesConst
namespace Go.Proofs.Ytnmbblkfaoihfaa
open Go.RowKit

theorem fr_belowP {w w' : World} {B p : Nat} {G : Option Nat} (f : Fr 0 [] (p :: G.toList) w w') (hp : B ≤ p) (hG : ∀ g, G = some g → B ≤ g) (hB : B ≤ w.heap.size) : Below B w w' :=
  ⟨f.os, f.tape, f.output, f.size, fun k hk => f.block k (by omega) (.inr ⟨fun _ _ _ _ => by simp, fun hm => by
    rcases List.mem_cons.1 hm with e | e
    · omega
    · have := hG k (by simpa using e); omega⟩)⟩
theorem IsE.gcell {W : World} {T TE : TypeId} {p : Nat} {G : Option Nat} {s : LSt} (h : IsE W T TE p G s) : (∃ cs, W.heap[p]? = some (.cells cs TE (0, 0))) ∧ ∀ g, G = some g → ∃ cs, W.heap[g]? = some (.cells cs T (0, 0)) := by
  obtain ⟨v, h1, zs, _, h2, h3, _⟩ := h
  exact ⟨⟨_, h1⟩, fun g hg => (own_block h2 (by rw [h3]; exact hg)).2⟩
/-- All stays but items and ends. -/
def KeepT (W W' : World) : Prop := KeepsB W W' ∧ ∀ (k : Nat) (cs : Array Value) (T : TypeId) (fz : Nat × Nat), W.heap[k]? = some (.cells cs T fz) → T ≠ 84 → T ≠ 80 → T ≠ 91 → T ≠ 55 → W'.heap[k]? = some (.cells cs T fz)
theorem KeepT.below {W W' : World} (h : Below W.heap.size W W') : KeepT W W' := ⟨KeepsB.below h, fun k _ _ _ hk _ _ _ _ => (h.block k (lt_of_block hk)).trans hk⟩
theorem KeepT.trans {A B C : World} (h : KeepT A B) (k : KeepT B C) : KeepT A C := ⟨h.1.trans k.1, fun j _ _ _ hj h1 h2 h3 h4 => k.2 j _ _ _ (h.2 j _ _ _ hj h1 h2 h3 h4) h1 h2 h3 h4⟩
theorem KeepT.pk {W W' : World} (h : KeepT W W') {v : Value} {k : LPk} (hp : IsP W v k) : IsP W' v k := by
  obtain ⟨bv, h1, h2⟩ := hp
  exact ⟨bv, h1, h.1 _ _ h2⟩
theorem KeepT.cells {W W' : World} (h : KeepT W W') {k : Nat} {cs : Array Value} {fz : Nat × Nat} (hk : W.heap[k]? = some (.cells cs 43 fz)) : W'.heap[k]? = some (.cells cs 43 fz) := h.2 k _ _ _ hk (by decide) (by decide) (by decide) (by decide)
theorem KeepT.op {W W' : World} (h : KeepT W W') {k : Nat} {cs : Array Value} {fz : Nat × Nat} (hk : W.heap[k]? = some (.cells cs 57 fz)) : W'.heap[k]? = some (.cells cs 57 fz) := h.2 k _ _ _ hk (by decide) (by decide) (by decide) (by decide)
theorem KeepT.pks {W W' : World} (h : KeepT W W') {B : Nat} {v : Value} {l : List LPk} (hp : IsPs B W v l) : IsPs B W' v l := by
  obtain ⟨zs, h1, h2, h3⟩ := hp
  refine ⟨zs, h1, ?_, fun z hz => h.1 _ _ (h3 z hz)⟩
  refine ⟨h2.1, ?_⟩
  rcases h2.2 with e | ⟨g, cap, cur, e1, e2, e3, e4⟩
  · exact .inl e
  · exact .inr ⟨g, cap, cur, e1, e2, h.cells e3, e4⟩

/-- Both ends, each come since w. -/
def Two (w : World) (p q : Nat) (s r : LSt) (W : World) : Prop :=
  ∃ G H, IsE W 84 80 p G s ∧ IsX W q H r ∧ w.heap.size ≤ p ∧ w.heap.size ≤ q ∧ (∀ g, G = some g → w.heap.size ≤ g) ∧ (∀ g, H = some g → w.heap.size ≤ g) ∧ Below w.heap.size w W
theorem Two.keep {w W W' : World} {p q : Nat} {s r : LSt} (h : Two w p q s r W) (hb : Below W.heap.size W W') : Two w p q s r W' := by
  obtain ⟨G, H, h1, h2, h3, h4, h5, h6, h7⟩ := h
  exact ⟨G, H, h1.below hb, h2.below hb, h3, h4, h5, h6, h7.trans (hb.mono h7.size)⟩
theorem Two.below {w W : World} {p q : Nat} {s r : LSt} (h : Two w p q s r W) : Below w.heap.size w W := by
  obtain ⟨G, H, h1, h2, h3, h4, h5, h6, h7⟩ := h
  exact h7
/-- What a call on one of two ends leaves of both. -/
theorem two_step {w W W' : World} {T TE T' TE' : TypeId} {p q : Nat} {G G' H : Option Nat} {s s' r : LSt} (h : IsE W T TE p G s) (k : IsE W T' TE' q H r) (n1 : TE ≠ TE') (n2 : T ≠ TE') (n3 : TE ≠ T') (n4 : T ≠ T') (u1 : T ≠ 5) (u2 : TE ≠ 5)
    (hp : w.heap.size ≤ p) (hG : ∀ g, G = some g → w.heap.size ≤ g) (hb : Below w.heap.size w W) (hE : IsE W' T TE p G' s') (hF : Fr 0 [] (p :: G.toList) W W') (hG' : ∀ g, G' = some g → G = some g ∨ W.heap.size ≤ g) :
    IsE W' T' TE' q H r ∧ (∀ g, G' = some g → w.heap.size ≤ g) ∧ Below w.heap.size w W' ∧ KeepsB W W' ∧ ∀ (k : Nat) (cs : Array Value) (t : TypeId) (fz : Nat × Nat), W.heap[k]? = some (.cells cs t fz) → t ≠ T → t ≠ TE → W'.heap[k]? = some (.cells cs t fz) := by
  obtain ⟨⟨c1, hc1⟩, hc2⟩ := h.gcell
  obtain ⟨⟨c3, hc3⟩, hc4⟩ := k.gcell
  have hk := h.keeps u1 u2 hF
  refine ⟨k.keepS hF ?_ ?_ hk, ?_, hb.trans (fr_belowP hF hp hG hb.size), hk, ?_⟩
  · intro hm
    rcases List.mem_cons.1 hm with e | e
    · exact block_ne hc1 hc3 n1 e.symm
    · obtain ⟨c, hc⟩ := hc2 q (by simpa using e)
      exact block_ne hc hc3 n2 rfl
  · intro g hg hm
    obtain ⟨c, hc⟩ := hc4 g hg
    rcases List.mem_cons.1 hm with e | e
    · exact block_ne hc1 hc n3 e.symm
    · obtain ⟨c5, hc5⟩ := hc2 g (by simpa using e)
      exact block_ne hc5 hc n4 rfl
  · intro g hg
    rcases hG' g hg with e | e
    · exact hG g e
    · have := hb.size; omega
  · intro j cs t fz hj e1 e2
    refine (hF.block j (lt_of_block hj) (.inr ⟨fun _ _ _ _ => by simp, fun hm => ?_⟩)).trans hj
    rcases List.mem_cons.1 hm with e | e
    · subst e
      rw [hc1] at hj
      injection hj with hj
      injection hj with _ hj _
      exact e2 hj.symm
    · obtain ⟨c, hc⟩ := hc2 j (by simpa using e)
      rw [hc] at hj
      injection hj with hj
      injection hj with _ hj _
      exact e1 hj.symm
theorem Two.callE {w W : World} {p q : Nat} {s s' r : LSt} {f : FuncId} {args : Array Value} {R : Ending → World → Prop} (h : Two w p q s r W)
    (hc : ∀ G, IsE W 84 80 p G s → w.heap.size ≤ p → (∀ g, G = some g → w.heap.size ≤ g) → Calls Try.prog f args W (RetE 84 80 p G R s' W)) :
    Calls Try.prog f args W fun e W' => R e W' ∧ Two w p q s' r W' ∧ KeepT W W' := by
  obtain ⟨G, H, h1, h2, h3, h4, h5, h6, h7⟩ := h
  refine (hc G h1 h3 h5).mono fun e W' ⟨G', hR, hE, hF, hG⟩ => ?_
  obtain ⟨k1, k2, k3, k4, k5⟩ := two_step h1 h2 (by decide) (by decide) (by decide) (by decide) (by decide) (by decide) h3 h5 h7 hE hF (fun g hg => by
    rcases hG with e | ⟨g', e, hg'⟩
    · exact .inl (by rw [← e]; exact hg)
    · rw [e] at hg
      injection hg with hg
      subst hg
      exact .inr hg')
  exact ⟨hR, ⟨G', H, hE, k1, h3, h4, k2, h6, k3⟩, k4, fun k cs T fz hk e1 e2 _ _ => k5 k cs T fz hk e1 e2⟩
theorem Two.callX {w W : World} {p q : Nat} {s r r' : LSt} {f : FuncId} {args : Array Value} {R : Ending → World → Prop} (h : Two w p q s r W)
    (hc : ∀ H, IsX W q H r → w.heap.size ≤ q → (∀ g, H = some g → w.heap.size ≤ g) → Calls Try.prog f args W (RetX q H R r' W)) :
    Calls Try.prog f args W fun e W' => R e W' ∧ Two w p q s r' W' ∧ KeepT W W' := by
  obtain ⟨G, H, h1, h2, h3, h4, h5, h6, h7⟩ := h
  refine (hc H h2 h4 h6).mono fun e W' ⟨H', hR, hE, hF, hG⟩ => ?_
  obtain ⟨k1, k2, k3, k4, k5⟩ := two_step h2 h1 (by decide) (by decide) (by decide) (by decide) (by decide) (by decide) h4 h6 h7 hE hF hG
  exact ⟨hR, ⟨G, H', k1, hE, h3, h4, h5, k2, k3⟩, k4, fun k cs T fz hk _ _ e1 e2 => k5 k cs T fz hk e1 e2⟩
theorem Two.far {w W W' : World} {p q n : Nat} {s r : LSt} {cs : Array Value} {TP : TypeId} {fz : Nat × Nat} (h : Two w p q s r W) (f : Fr 0 [] [n] W W') (hn : W.heap[n]? = some (.cells cs TP fz)) (u1 : TP ≠ 5) (u2 : TP ≠ 84) (u3 : TP ≠ 80) (u4 : TP ≠ 91) (u5 : TP ≠ 55) (hb : w.heap.size ≤ n) : Two w p q s r W' := by
  obtain ⟨G, H, h1, h2, h3, h4, h5, h6, h7⟩ := h
  refine ⟨G, H, h1.far f hn u1 u2 u3, h2.far f hn u1 u4 u5, h3, h4, h5, h6, h7.trans ⟨f.os, f.tape, f.output, f.size, fun k hk => f.block k (by have := h7.size; omega) (.inr ⟨fun _ _ _ _ => by simp, by simp; omega⟩)⟩⟩
theorem IsPs.low {B : Nat} {W : World} {v : Value} {l : List LPk} (h : IsPs B W v l) : IsPs 0 W v l := by
  obtain ⟨zs, h1, h2, h3⟩ := h
  exact ⟨zs, h1, own_low h2 (Nat.zero_le _), h3⟩
/-- Bytes that came in are read whatever an end turns. -/
theorem by_in {w W : World} {A : Option Addr} {c : Nat} {bs : List Nat} (hin : IsBy w A c bs) (hb : Below w.heap.size w W) {p : Nat} {G : Option Nat} (hp : w.heap.size ≤ p) (hG : ∀ g, G = some g → w.heap.size ≤ g) : ∀ W', Fr 0 [] (p :: G.toList) W W' → Bs W' (.slice A bs.length c) bs := fun _ f =>
  (hin.below (hb.trans (fr_belowP f hp hG hb.size))).bs
theorem Two.send {w W : World} {p q : Nat} {s r : LSt} (h : Two w p q s r W) (A : Option Addr) (c : Nat) (bs : List Nat) (now : Int) (hb : ByO W (.slice A bs.length c) bs) (hs : 0 ≤ s.sent ∧ s.sent < 9223372036854775807) (hnow : -9223372036854775808 ≤ now ∧ now ≤ 9223372036854775807) :
    Calls Try.prog 19 #[.pointer (some ⟨p, 0, none⟩), .slice A bs.length c, .int .i64 now] W fun e W' => (∃ v, e = .returned (.tuple #[v, .int .i64 (sendE s bs)]) ∧ IsP W' v (sendP s bs)) ∧ Two w p q (sendS s bs now) r W' ∧ KeepT W W' :=
  h.callE fun G hE _ _ => lsend_any p G s A c bs now W hE (hE.hbs (by decide) (by decide) hb) hb.2 hs hnow
theorem Two.xsend {w W : World} {p q : Nat} {s r : LSt} (h : Two w p q s r W) (A : Option Addr) (c : Nat) (bs : List Nat) (now : Int) (hb : IsBy w A c bs) (hs : 0 ≤ r.sent ∧ r.sent < 9223372036854775807) (hnow : -9223372036854775808 ≤ now ∧ now ≤ 9223372036854775807) :
    Calls Try.prog 22 #[.pointer (some ⟨q, 0, none⟩), .slice A bs.length c, .int .i64 now] W fun e W' => (∃ v, e = .returned (.tuple #[v, .int .i64 (sendE r bs)]) ∧ IsP W' v (sendP r bs)) ∧ Two w p q s (sendS r bs now) W' ∧ KeepT W W' :=
  h.callX fun H hE hq hH => rsend_any q H r A c bs now W hE (by_in hb h.below hq hH) hb.2.2.2.1 hs hnow
theorem Two.tick {w W : World} {p q : Nat} {s r : LSt} (h : Two w p q s r W) (now : Int) (hn : s.l.length ≤ 1048576) (hI : ∀ x ∈ s.l, 0 ≤ x.tries ∧ x.tries < 9223372036854775807 ∧ x.body.length ≤ 140737488351232) (hnow : -9223372036854775808 ≤ now ∧ now ≤ 9223372036854775807) :
    Calls Try.prog 21 #[.pointer (some ⟨p, 0, none⟩), .int .i64 now] W fun e W' => (∃ v, e = .returned v ∧ IsPs W.heap.size W' v (tickP s now)) ∧ Two w p q (tickS s now) r W' ∧ KeepT W W' :=
  h.callE fun G hE _ _ => ltick_any p G s now W hE hn hI hnow
theorem Two.xtick {w W : World} {p q : Nat} {s r : LSt} (h : Two w p q s r W) (now : Int) (hn : r.l.length ≤ 1048576) (hI : ∀ x ∈ r.l, 0 ≤ x.tries ∧ x.tries < 9223372036854775807) (hnow : -9223372036854775808 ≤ now ∧ now ≤ 9223372036854775807) :
    Calls Try.prog 24 #[.pointer (some ⟨q, 0, none⟩), .int .i64 now] W fun e W' => (∃ v, e = .returned v ∧ IsPs W.heap.size W' v (tickP r now)) ∧ Two w p q s (tickS r now) W' ∧ KeepT W W' :=
  h.callX fun H hE _ _ => rtick_any q H r now W hE hn hI hnow
theorem Two.on {w W : World} {p q : Nat} {s r : LSt} (h : Two w p q s r W) (k : LPk) (A : Option Addr) (c : Nat) (hb : IsBy w A c k.body) (hl : k.body.length ≤ 9223372036854775807) (hmk : 0 ≤ s.mark ∧ s.mark < 9223372036854775807) :
    Calls Try.prog 20 #[.pointer (some ⟨p, 0, none⟩), .agg #[.int .i64 k.seq, .int .i64 k.ack, .slice A k.body.length c]] W fun e W' => (∃ bv v3, e = .returned (.tuple #[bv, .bool (onI s k), v3]) ∧ ByO W' bv (onB s k) ∧ IsP W' v3 (onP s k)) ∧ Two w p q (onS s k) r W' ∧ KeepT W W' :=
  h.callE fun G hE hp hG => lon_any p G s k A c W hE hl hmk (by_in hb h.below hp hG) hb.2.2.2.1
theorem Two.xon {w W : World} {p q : Nat} {s r : LSt} (h : Two w p q s r W) (k : LPk) (A : Option Addr) (c : Nat) (hb : IsBy w A c k.body) (hl : k.body.length ≤ 9223372036854775807) (hn : r.l.length ≤ 1048576) (hmk : 0 ≤ r.mark ∧ r.mark < 9223372036854775807) :
    Calls Try.prog 25 #[.pointer (some ⟨q, 0, none⟩), .agg #[.int .i64 k.seq, .int .i64 k.ack, .slice A k.body.length c]] W fun e W' => (∃ bv v3, e = .returned (.tuple #[bv, .bool (onI r k), v3]) ∧ Bs W' bv (onB r k) ∧ IsP W' v3 (onP r k)) ∧ Two w p q s (onS r k) W' ∧ KeepT W W' :=
  h.callX fun H hE hq hH => ron_any q H r k A c W hE hl hn hmk (by_in hb h.below hq hH) hb.2.2.2.1
/-- What the law's calls answer of the end. -/
theorem Two.open_ {w W : World} {p q : Nat} {s r : LSt} (h : Two w p q s r W) : Calls Try.prog 15 #[.pointer (some ⟨p, 0, none⟩)] W fun e W' => e = .returned (.int .i64 s.l.length) ∧ W = W' := by
  obtain ⟨G, H, h1, _⟩ := h
  exact lopen_any p G s W h1
theorem Two.mark {w W : World} {p q : Nat} {s r : LSt} (h : Two w p q s r W) : Calls Try.prog 26 #[.pointer (some ⟨p, 0, none⟩)] W fun e W' => e = .returned (.int .i64 s.mark) ∧ W = W' := by
  obtain ⟨G, H, h1, _⟩ := h
  exact lmark_any p G s W h1
theorem Two.sent {w W : World} {p q : Nat} {s r : LSt} (h : Two w p q s r W) : Calls Try.prog 27 #[.pointer (some ⟨p, 0, none⟩)] W fun e W' => e = .returned (.int .i64 s.sent) ∧ W = W' := by
  obtain ⟨G, H, h1, _⟩ := h
  exact lsent_any p G s W h1
/-- The reference's end lies in one block. -/
theorem Two.cells {w W : World} {p q : Nat} {s r : LSt} (h : Two w p q s r W) : ∃ A c, W.heap[q]? = some (.cells #[.slice A r.l.length c, .int .i64 r.sent, .int .i64 r.mark] 55 (0, 0)) := by
  obtain ⟨_, _, _, ⟨v, h1, zs, _, h2, _⟩, _⟩ := h
  obtain ⟨A, c, rfl, _⟩ := own_slice h2
  exact ⟨A, c, h1⟩

/-- What holds of an end behind i calls. -/
def InvL (s : LSt) (i : Int) : Prop := 0 ≤ s.sent ∧ s.sent ≤ i ∧ 0 ≤ s.mark ∧ s.mark ≤ i ∧ s.l.length ≤ 64 ∧ ∀ x ∈ s.l, 0 ≤ x.tries ∧ x.tries ≤ i + 1 ∧ x.body.length ≤ 2048
theorem InvL.next {s : LSt} {i : Int} (h : InvL s i) : InvL s (i + 1) := by
  obtain ⟨h1, h2, h3, h4, h5, h6⟩ := h
  exact ⟨h1, by omega, h3, by omega, h5, fun x hx => by have := h6 x hx; omega⟩
theorem InvL.send {s : LSt} {i : Int} (h : InvL s i) (bs : List Nat) (now : Int) : InvL (sendS s bs now) (i + 1) := by
  have h' := h.next
  unfold sendS
  split
  · rename_i he
    obtain ⟨h1, h2, h3, h4, h5, h6⟩ := h
    have hb : bs.length ≤ 2048 ∧ s.l.length < 64 := by
      unfold sendE at he
      split at he
      · cases he
      · split at he
        · cases he
        · omega
    refine ⟨by simp only []; omega, by simp only []; omega, h3, by simp only []; omega, by simp; omega, fun x hx => ?_⟩
    rcases List.mem_append.1 hx with hx | hx
    · have := h6 x hx; omega
    · simp at hx
      subst hx
      exact ⟨by simp, by simp only []; omega, hb.1⟩
  · exact h'
theorem InvL.tick {s : LSt} {i : Int} (h : InvL s i) (now : Int) : InvL (tickS s now) (i + 1) := by
  obtain ⟨h1, h2, h3, h4, h5, h6⟩ := h
  refine ⟨h1, by simp only [tickS]; omega, h3, by simp only [tickS]; omega, by simpa [tickS] using h5, fun x hx => ?_⟩
  simp only [tickS, List.mem_map] at hx
  obtain ⟨y, hy, rfl⟩ := hx
  have := h6 y hy
  unfold tickI
  split
  · exact ⟨by simp only []; omega, by simp only []; omega, this.2.2⟩
  · omega
theorem InvL.on {s : LSt} {i : Int} (h : InvL s i) (k : LPk) : InvL (onS s k) (i + 1) := by
  have h' := h.next
  unfold onS
  split
  · obtain ⟨h1, h2, h3, h4, h5, h6⟩ := h'
    obtain ⟨g1, g2, g3, g4, g5, g6⟩ := h
    refine ⟨h1, h2, ?_, ?_, Nat.le_trans (List.length_filter_le _ _) h5, fun x hx => h6 x (List.mem_filter.1 hx).1⟩
    · simp only []; split <;> omega
    · simp only []; split <;> omega
  · exact h'
end Go.Proofs.Ytnmbblkfaoihfaa

namespace Go.Proofs.Ytnmbblkfaoihfaa
open Go.RowKit

set_option maxRecDepth 100000 in
set_option maxHeartbeats 1000000 in
theorem lives_any (w : World) : Calls Try.prog 12 #[] w fun e w' => e = .returned (.bool true) ∧ Below w.heap.size w w' := by
  have kc := fun (w : World) (C : Array Value) (n c : Nat) => Lib.run_convert_bytes_const (P := Try.prog) w 41 5 C n c Try.underlying41 Try.underlying5
  go_enter Try.func12, Try.ntmps12
  go_wp2_with fail
  refine (lnew_any w).mono ?_
  rintro e w1 ⟨rfl, hE1, hb1⟩
  go_wp2_with fail
  refine (lnew_any w1).mono ?_
  rintro e w2 ⟨rfl, hE2, hb2⟩
  have hen := en2_new (Below.refl _ w) hE1 hb1 hE2 hb2
  obtain ⟨p, hp⟩ : ∃ p, w.heap.size = p := ⟨_, rfl⟩
  obtain ⟨q, hq⟩ : ∃ q, w1.heap.size = q := ⟨_, rfl⟩
  have HEN : Hid (En2 w p ⟨[], 0, 0⟩ q ⟨[], 0, 0⟩ w2) := Lib.hid (hp ▸ hq ▸ hen)
  rw [hp, hq]
  clear hE1 hb1 hE2 hb2 hen hp hq
  go_wp2_with fail
  have e1 : sendE ⟨[], 0, 0⟩ [120] = 0 := by decide
  have e2 : sendP ⟨[], 0, 0⟩ [120] = ⟨1, 0, [120]⟩ := rfl
  have e3 : sendS ⟨[], 0, 0⟩ [120] 0 = ⟨[⟨1, [120], 1, 2⟩], 1, 0⟩ := rfl
  have h3 := (HEN.out.keep ((Below.refl _ w2).alloc (Nat.le_refl _) (.cells #[.int .u8 120] 5 (1, 2)))).sendL w2.heap.size 120 (1, 2) 0 (by omega) (by simp) (by omega) (block_new _ _)
  rw [e1, e2, e3] at h3
  clear e1 e2 e3
  refine h3.mono ?_
  rintro e w3 ⟨⟨v3, rfl, bv3, rfl, hb3⟩, hen3, _⟩
  obtain ⟨A3, c3, rfl, _, _, _, _⟩ := byo_slice hb3
  have EN3 := Lib.hid hen3
  have B3 := Lib.hid hb3
  clear h3 hb3 hen3 HEN
  have kc2 : (convert 41 41 (.slice (some ⟨w3.heap.size + 1, 0, none⟩) 1 1)).run Try.prog ((w3.alloc (.cells #[.int .i64 1, .int .i64 0, .slice A3 1 c3] 43)).alloc (.cells #[.int .u8 121] 5)) = .ok (.slice (some ⟨w3.heap.size + 1, 0, none⟩) 1 1) ((w3.alloc (.cells #[.int .i64 1, .int .i64 0, .slice A3 1 c3] 43)).alloc (.cells #[.int .u8 121] 5 (1, 2))) := by
    have := kc (w3.alloc (.cells #[.int .i64 1, .int .i64 0, .slice A3 1 c3] 43)) #[.int .u8 121] 1 1
    simpa using this
  go_wp2_with fail
  clear kc kc2
  have hA := (Below.refl _ w3).alloc (Nat.le_refl _) (.cells #[.int .i64 1, .int .i64 0, .slice A3 1 c3] 43)
  have hA2 := hA.alloc (by simp) (.cells #[.int .u8 121] 5 (1, 2))
  have n3 := block_alloc (block_new w3 (.cells #[.int .i64 1, .int .i64 0, .slice A3 1 c3] 43)) (.cells #[.int .u8 121] 5 (1, 2))
  have nl := block_new (w3.alloc (.cells #[.int .i64 1, .int .i64 0, .slice A3 1 c3] 43)) (.cells #[.int .u8 121] 5 (1, 2))
  simp only [World.size_alloc] at nl
  have b3 := B3.out.below hA2
  have en3 := EN3.out.keep hA2
  obtain ⟨k3, hk3⟩ : ∃ k, w3.heap.size = k := ⟨_, rfl⟩
  obtain ⟨w4, hw4⟩ : ∃ w4, (w3.alloc (.cells #[.int .i64 1, .int .i64 0, .slice A3 1 c3] 43)).alloc (.cells #[.int .u8 121] 5 (1, 2)) = w4 := ⟨_, rfl⟩
  rw [hw4] at n3 b3 en3 nl ⊢
  rw [hk3] at n3 nl ⊢
  clear hA hA2 hw4 EN3 B3 hk3
  have e1 : sendE ⟨[⟨1, [120], 1, 2⟩], 1, 0⟩ [121] = 0 := by decide
  have e2 : sendP ⟨[⟨1, [120], 1, 2⟩], 1, 0⟩ [121] = ⟨2, 0, [121]⟩ := rfl
  have e3 : sendS ⟨[⟨1, [120], 1, 2⟩], 1, 0⟩ [121] 0 = ⟨[⟨1, [120], 1, 2⟩, ⟨2, [121], 1, 2⟩], 2, 0⟩ := rfl
  have h3 := en3.sendL (k3 + 1) 121 (1, 2) 0 (by omega) (by simp) (by omega) nl
  rw [e1, e2, e3] at h3
  clear e1 e2 e3
  refine h3.mono ?_
  rintro e w5 ⟨⟨v5, rfl, bv5, rfl, hb5⟩, hen5, hk5⟩
  obtain ⟨A5, c5, rfl, _, _, _, _⟩ := byo_slice hb5
  have N3 := Lib.hid (hk5.2 _ _ _ _ n3 (by decide) (by decide))
  have B3 := Lib.hid (hk5.1 _ _ b3)
  have B5 := Lib.hid hb5
  have EN5 := Lib.hid hen5
  clear h3 hb5 hen5 hk5 n3 nl b3 en3
  have n0 := cell_at N3.out 0
  go_wp2_with fail
  have hA := (Below.refl _ w5).alloc (Nat.le_refl _) (.cells #[.int .i64 2, .int .i64 0, .slice A5 1 c5] 43)
  have h6 := (EN5.out.keep hA).symm.on ⟨2, 0, [121]⟩ A5 c5 (B5.out.below hA) (by simp) (by simp)
  have e1 : onI ⟨[], 0, 0⟩ ⟨2, 0, [121]⟩ = false := by decide
  have e2 : onB ⟨[], 0, 0⟩ ⟨2, 0, [121]⟩ = [] := rfl
  have e3 : onP ⟨[], 0, 0⟩ ⟨2, 0, [121]⟩ = ⟨0, 0, []⟩ := rfl
  have e4 : onS ⟨[], 0, 0⟩ ⟨2, 0, [121]⟩ = ⟨[], 0, 0⟩ := rfl
  rw [e1, e2, e3, e4] at h6
  clear e1 e2 e3 e4
  refine h6.mono ?_
  rintro e w6 ⟨⟨bv6, v6, rfl, hb6, bx6, rfl, hx6⟩, hen6, hk6⟩
  obtain ⟨A6, c6, rfl, _, _, _, _⟩ := byo_slice hb6
  obtain ⟨X6, d6, rfl, _, _, _, _⟩ := byo_slice hx6
  have hk56 := (Keeps.below hA).trans hk6
  have hB := (Below.refl _ w6).alloc (Nat.le_refl _) (.cells #[.int .i64 0, .int .i64 0, .slice X6 0 d6] 43)
  have n3' := (hB.block _ (lt_of_block (hk56.2 _ _ _ _ N3.out (by decide) (by decide)))).trans (hk56.2 _ _ _ _ N3.out (by decide) (by decide))
  have m0 := cell_at n3' 0
  have m1 := cell_at n3' 1
  have m2 := cell_at n3' 2
  have N6 := Lib.hid n3'
  have B6 := Lib.hid ((hk56.1 _ _ B3.out).below hB)
  have EN6 := Lib.hid (hen6.symm.keep hB)
  clear h6 hb6 hx6 hen6 hk6 hk56 hA hB n3' n0
  go_wp2_with fail
  have h7 := EN6.out.symm.on ⟨1, 0, [120]⟩ A3 c3 B6.out (by simp) (by simp)
  have e1 : onI ⟨[], 0, 0⟩ ⟨1, 0, [120]⟩ = true := by decide
  have e2 : onB ⟨[], 0, 0⟩ ⟨1, 0, [120]⟩ = [120] := rfl
  have e3 : onP ⟨[], 0, 0⟩ ⟨1, 0, [120]⟩ = ⟨0, 1, []⟩ := rfl
  have e4 : onS ⟨[], 0, 0⟩ ⟨1, 0, [120]⟩ = ⟨[], 0, 1⟩ := rfl
  rw [e1, e2, e3, e4] at h7
  clear e1 e2 e3 e4
  refine h7.mono ?_
  rintro e w7 ⟨⟨bv7, v7, rfl, hb7, bx7, rfl, hx7⟩, hen7, hk7⟩
  obtain ⟨A7, c7, rfl, _, _, _, _⟩ := byo_slice hb7
  obtain ⟨X7, d7, rfl, _, _, _, _⟩ := byo_slice hx7
  have hB := (Below.refl _ w7).alloc (Nat.le_refl _) (.cells #[.int .i64 0, .int .i64 1, .slice X7 0 d7] 43)
  have EN7 := Lib.hid (hen7.symm.keep hB)
  have B7 := Lib.hid (hb7.below hB)
  have X7' := Lib.hid (hx7.below hB)
  clear h7 hb7 hx7 hen7 hk7 hB m0 m1 m2 N6 B6 EN6
  go_wp2_with fail
  have h8 := EN7.out.on ⟨0, 1, []⟩ X7 d7 X7'.out (by simp) (by simp)
  have e1 : onI ⟨[⟨1, [120], 1, 2⟩, ⟨2, [121], 1, 2⟩], 2, 0⟩ ⟨0, 1, []⟩ = false := by decide
  have e2 : onB ⟨[⟨1, [120], 1, 2⟩, ⟨2, [121], 1, 2⟩], 2, 0⟩ ⟨0, 1, []⟩ = [] := rfl
  have e3 : onP ⟨[⟨1, [120], 1, 2⟩, ⟨2, [121], 1, 2⟩], 2, 0⟩ ⟨0, 1, []⟩ = ⟨0, 0, []⟩ := rfl
  have e4 : onS ⟨[⟨1, [120], 1, 2⟩, ⟨2, [121], 1, 2⟩], 2, 0⟩ ⟨0, 1, []⟩ = ⟨[⟨2, [121], 1, 2⟩], 2, 0⟩ := rfl
  rw [e1, e2, e3, e4] at h8
  clear e1 e2 e3 e4
  refine h8.mono ?_
  rintro e w8 ⟨⟨bv8, v8, rfl, hb8, bx8, rfl, hx8⟩, hen8, hk8⟩
  obtain ⟨A8, c8, rfl, _, _, _, _⟩ := byo_slice hb8
  obtain ⟨X8, d8, rfl, _, _, _, _⟩ := byo_slice hx8
  have EN8 := Lib.hid hen8
  have hb78 := hk8.1 _ _ B7.out
  have hst := run_str w8 A7 1 c7 [120] (bs_rd hb78.bs) (by simp)
  clear h8 hb8 hx8 hen8 hk8 EN7 B7 X7' hb78
  have hse : strOf [120] = ⟨#[120]⟩ := rfl
  rw [hse] at hst
  clear hse
  go_wp2_with fail
  have h9 : Calls Try.prog 15 #[.pointer (some ⟨p, 0, none⟩)] w8 fun e w' => e = .returned (.int .i64 1) ∧ w8 = w' := EN8.out.open_
  refine h9.mono ?_
  rintro e w9 ⟨rfl, rfl⟩
  clear h9
  go_wp2_with fail
  have h9 : Calls Try.prog 26 #[.pointer (some ⟨q, 0, none⟩)] w8 fun e w' => e = .returned (.int .i64 1) ∧ w8 = w' := EN8.out.symm.mark
  refine h9.mono ?_
  rintro e w9 ⟨rfl, rfl⟩
  clear h9 hst
  go_wp2_with fail
  have h9 := EN8.out.tick 1 (by simp) (by simp) (by omega)
  have e1 : tickP ⟨[⟨2, [121], 1, 2⟩], 2, 0⟩ 1 = [] := rfl
  have e2 : tickS ⟨[⟨2, [121], 1, 2⟩], 2, 0⟩ 1 = ⟨[⟨2, [121], 1, 2⟩], 2, 0⟩ := rfl
  rw [e1, e2] at h9
  clear e1 e2
  refine h9.mono ?_
  rintro e w9 ⟨⟨v9, rfl, zs9, _, ho9, _⟩, hen9, _⟩
  obtain ⟨A9, c9, rfl, _, _, _, _⟩ := own_slice ho9
  have EN9 := Lib.hid hen9
  clear h9 ho9 hen9 EN8
  go_wp2_with fail
  have h10 := EN9.out.tick 2 (by simp) (by simp) (by omega)
  have e1 : tickP ⟨[⟨2, [121], 1, 2⟩], 2, 0⟩ 2 = [⟨2, 0, [121]⟩] := rfl
  rw [e1] at h10
  clear e1
  refine h10.mono ?_
  rintro e w10 ⟨⟨v10, rfl, zs10, _, ho10, _⟩, hen10, _⟩
  obtain ⟨A10, c10, rfl, _, _, _, _⟩ := own_slice ho10
  obtain ⟨_, _, _, _, _, _, _, _, _, _, hbl⟩ := hen10
  clear h10 ho10 EN9
  go_wp2
  go_ret
  exact ⟨rfl, hbl⟩
end Go.Proofs.Ytnmbblkfaoihfaa

namespace Go.Proofs.Ytnmbblkfaoihfaa
open Go.RowKit

/-- An operation that came in. -/
structure LOp where
  kind : Int
  now : Int
  seq : Int
  ack : Int
  A : Option Addr
  c : Nat
  bs : List Nat
def encO (z : LOp) : List Value := [.int .i64 z.kind, .int .i64 z.now, .int .i64 z.seq, .int .i64 z.ack, .slice z.A z.bs.length z.c]
theorem encO_len (z : LOp) : (encO z).length = 5 := rfl
theorem flatO_at (zs : List LOp) (k j : Nat) (hk : k < zs.length) (hj : j < 5) : (zs.flatMap encO)[k * 5 + j]? = (encO zs[k])[j]? := by
  induction zs generalizing k with
  | nil => simp at hk
  | cons z zs ih =>
    cases k with
    | zero => rw [List.flatMap_cons, List.getElem?_append_left (by rw [encO_len]; omega)]; simp
    | succ k => rw [List.flatMap_cons, List.getElem?_append_right (by rw [encO_len]; omega), encO_len, show (k + 1) * 5 + j - 5 = k * 5 + j by omega, ih k (by simpa using hk)]; simp
def OkO (w : World) (z : LOp) : Prop := (-9223372036854775808 ≤ z.now ∧ z.now ≤ 9223372036854775807) ∧ IsBy w z.A z.c z.bs
/-- The packet of an operation. -/
def pkO (z : LOp) : LPk := ⟨z.seq, z.ack, z.bs⟩
theorem own_none1 (w : World) : (w.alloc (.cells #[] 5)).ownsRow w.heap.size 5 1 (.slice (some ⟨w.heap.size, 0, none⟩) 0 0) 0 [] := own_of_cells w #[] 0 (Nat.zero_le _) rfl
end Go.Proofs.Ytnmbblkfaoihfaa
