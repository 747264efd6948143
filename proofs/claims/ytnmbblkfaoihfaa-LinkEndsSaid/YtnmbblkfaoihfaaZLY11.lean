/- Joined: Package link: Send, whatever comes; whether packets are the same. Ends of a law's own, seen from the world in which the law began. The reference's ends in memory. -/
import Derived.Test.YtnmbblkfaoihfaaZLY10
namespace Go.Proofs.Ytnmbblkfaoihfaa
open Go.RowKit

set_option maxRecDepth 100000 in
theorem lsend_long (p : Nat) (G : Option Nat) (s : LSt) (A : Option Addr) (c : Nat) (bs : List Nat) (now : Int) (w : World) (h : IsE w 84 80 p G s) (hl : 2048 < bs.length) :
    Calls Try.prog 19 #[.pointer (some ⟨p, 0, none⟩), .slice A bs.length c, .int .i64 now] w
      (RetE 84 80 p G (fun e w' => ∃ v, e = .returned (.tuple #[v, .int .i64 3]) ∧ IsP w' v ⟨0, 0, []⟩) s w) := by
  have H := Lib.hid h
  have c0 : ∃ A c, w.cell? ⟨p, 0, none⟩ = some (.slice A s.l.length c) := by
    obtain ⟨v, h1, zs, _, h2, _⟩ := h
    obtain ⟨A, c, rfl, _, _, _, _⟩ := own_slice h2
    exact ⟨A, c, cell_at h1 0⟩
  obtain ⟨Av, cv, c0⟩ := c0
  have hp := h.lt
  clear h
  go_enter Try.func19, Try.ntmps19
  go_wp2
  refine bodyPost_ret (v := .tuple #[.agg #[.int .i64 0, .int .i64 0, .slice none 0 0], .int .i64 3]) (by simp [results, Try.f19, go_sem]) rfl ?_
  have hb := (Below.refl _ w).alloc (Nat.le_refl _) (.cells #[.int .i64 0, .int .i64 0, .slice none 0 0] 43)
  exact ⟨G, ⟨_, rfl, isp_zero _⟩, H.out.below hb, Fr.of_below hb, .inl rfl⟩

set_option maxRecDepth 100000 in
theorem lsend_full (p : Nat) (G : Option Nat) (s : LSt) (A : Option Addr) (c : Nat) (bs : List Nat) (now : Int) (w : World) (h : IsE w 84 80 p G s) (hl : bs.length ≤ 2048) (hn : 64 ≤ s.l.length) :
    Calls Try.prog 19 #[.pointer (some ⟨p, 0, none⟩), .slice A bs.length c, .int .i64 now] w
      (RetE 84 80 p G (fun e w' => ∃ v, e = .returned (.tuple #[v, .int .i64 2]) ∧ IsP w' v ⟨0, 0, []⟩) s w) := by
  have H := Lib.hid h
  have c0 : ∃ A c, w.cell? ⟨p, 0, none⟩ = some (.slice A s.l.length c) := by
    obtain ⟨v, h1, zs, _, h2, _⟩ := h
    obtain ⟨A, c, rfl, _, _, _, _⟩ := own_slice h2
    exact ⟨A, c, cell_at h1 0⟩
  obtain ⟨Av, cv, c0⟩ := c0
  have hp := h.lt
  clear h
  go_enter Try.func19, Try.ntmps19
  go_wp2
  refine bodyPost_ret (v := .tuple #[.agg #[.int .i64 0, .int .i64 0, .slice none 0 0], .int .i64 2]) (by simp [results, Try.f19, go_sem]) rfl ?_
  have hb := (Below.refl _ w).alloc (Nat.le_refl _) (.cells #[.int .i64 0, .int .i64 0, .slice none 0 0] 43)
  exact ⟨G, ⟨_, rfl, isp_zero _⟩, H.out.below hb, Fr.of_below hb, .inl rfl⟩

theorem lsend_any (p : Nat) (G : Option Nat) (s : LSt) (A : Option Addr) (c : Nat) (bs : List Nat) (now : Int) (w : World) (h : IsE w 84 80 p G s) (hb : ∀ W', Fr 0 [] (p :: G.toList) w W' → Bs W' (.slice A bs.length c) bs) (h256 : ∀ b ∈ bs, b < 256)
    (hs : 0 ≤ s.sent ∧ s.sent < 9223372036854775807) (hnow : -9223372036854775808 ≤ now ∧ now ≤ 9223372036854775807) :
    Calls Try.prog 19 #[.pointer (some ⟨p, 0, none⟩), .slice A bs.length c, .int .i64 now] w
      (RetE 84 80 p G (fun e w' => ∃ v, e = .returned (.tuple #[v, .int .i64 (sendE s bs)]) ∧ IsP w' v (sendP s bs)) (sendS s bs now) w) := by
  by_cases h1 : 2048 < bs.length
  · have e1 : sendE s bs = 3 := by unfold sendE; rw [if_pos h1]
    have e2 : sendP s bs = ⟨0, 0, []⟩ := by unfold sendP; rw [e1]; rfl
    have e3 : sendS s bs now = s := by unfold sendS; rw [e1]; rfl
    rw [e1, e2, e3]
    exact lsend_long p G s A c bs now w h h1
  · by_cases h2 : 64 ≤ s.l.length
    · have e1 : sendE s bs = 2 := by unfold sendE; rw [if_neg h1, if_pos h2]
      have e2 : sendP s bs = ⟨0, 0, []⟩ := by unfold sendP; rw [e1]; rfl
      have e3 : sendS s bs now = s := by unfold sendS; rw [e1]; rfl
      rw [e1, e2, e3]
      exact lsend_full p G s A c bs now w h (by omega) h2
    · have e1 : sendE s bs = 0 := by unfold sendE; rw [if_neg h1, if_neg h2]
      have e2 : sendP s bs = ⟨s.sent + 1, s.mark, bs⟩ := by unfold sendP; rw [e1]; rfl
      have e3 : sendS s bs now = ⟨s.l ++ [⟨s.sent + 1, bs, 1, nextL now 0⟩], s.sent + 1, s.mark⟩ := by unfold sendS; rw [e1]; rfl
      rw [e1, e2, e3]
      exact lsend_ok p G s A c bs now w h hb h256 (by omega) (by omega) hs hnow

theorem bs_rd {w : World} {A : Option Addr} {n c : Nat} {bs : List Nat} (h : Bs w (.slice A n c) bs) : Rd w 1 A n (bs.map u8v) := by
  obtain ⟨A', c', e, _, _, h3⟩ := h
  injection e with e1 e2 e3
  subst e1; subst e2; subst e3
  exact h3
set_option maxRecDepth 100000 in
set_option maxHeartbeats 400000 in
theorem same_eq (a : LPk) (A1 A2 : Option Addr) (c1 c2 : Nat) (w : World) (h1 : Bs w (.slice A1 a.body.length c1) a.body) (h2 : Bs w (.slice A2 a.body.length c2) a.body) (h3 : ∀ x ∈ a.body, x < 256) :
    Calls Try.prog 23 #[.agg #[.int .i64 a.seq, .int .i64 a.ack, .slice A1 a.body.length c1], .agg #[.int .i64 a.seq, .int .i64 a.ack, .slice A2 a.body.length c2]] w fun e w' => e = .returned (.bool true) ∧ Below w.heap.size w w' := by
  have hbA : Below w.heap.size w ((w.alloc (.cells #[.int .i64 a.seq, .int .i64 a.ack, .slice A1 a.body.length c1] 43)).alloc (.cells #[.int .i64 a.seq, .int .i64 a.ack, .slice A2 a.body.length c2] 43)) := ((Below.refl _ w).alloc (Nat.le_refl _) _).alloc (by simp) _
  have HBA := Lib.hid hbA
  have r1 := run_str _ A1 a.body.length c1 a.body (bs_rd (h1.below hbA)) h3
  have r2 := run_str _ A2 a.body.length c2 a.body (bs_rd (h2.below hbA)) h3
  obtain ⟨S, hS⟩ : ∃ S, strOf a.body = S := ⟨_, rfl⟩
  rw [hS] at r1 r2
  clear h1 h2 h3 hS hbA
  go_enter Try.func23, Try.ntmps23
  go_wp2
  go_ret
  exact ⟨rfl, HBA.out⟩
end Go.Proofs.Ytnmbblkfaoihfaa

namespace Go.Proofs.Ytnmbblkfaoihfaa
open Go.RowKit

/-- What bodies there are stay. -/
def KeepsB (W W' : World) : Prop := ∀ v bs, ByO W v bs → ByO W' v bs
theorem KeepsB.trans {A B C : World} (h : KeepsB A B) (k : KeepsB B C) : KeepsB A C := fun v bs hb => k v bs (h v bs hb)
theorem KeepsB.below {W W' : World} (h : Below W.heap.size W W') : KeepsB W W' := fun _ _ hb => hb.below h
/-- All stays but items and ends. -/
def Keeps (W W' : World) : Prop := KeepsB W W' ∧ ∀ (k : Nat) (cs : Array Value) (T : TypeId) (fz : Nat × Nat), W.heap[k]? = some (.cells cs T fz) → T ≠ 84 → T ≠ 80 → W'.heap[k]? = some (.cells cs T fz)
theorem Keeps.below {W W' : World} (h : Below W.heap.size W W') : Keeps W W' := ⟨KeepsB.below h, fun k _ _ _ hk _ _ => (h.block k (lt_of_block hk)).trans hk⟩
theorem Keeps.trans {A B C : World} (h : Keeps A B) (k : Keeps B C) : Keeps A C := ⟨h.1.trans k.1, fun j _ _ _ hj h1 h2 => k.2 j _ _ _ (h.2 j _ _ _ hj h1 h2) h1 h2⟩
theorem IsE.keeps {W W' : World} {T TE : TypeId} {p : Nat} {G : Option Nat} {s : LSt} (h : IsE W T TE p G s) (hT : T ≠ 5) (hTE : TE ≠ 5) (f : Fr 0 [] (p :: G.toList) W W') : KeepsB W W' := fun v bs hb => by
  obtain ⟨u, h1, zs, _, h2, h3, _⟩ := h
  subst h3
  exact byo_fr h1 hTE h2 hT f hb
theorem IsE.hbs {W : World} {T TE : TypeId} {p : Nat} {G : Option Nat} {s : LSt} (h : IsE W T TE p G s) (hT : T ≠ 5) (hTE : TE ≠ 5) {v : Value} {bs : List Nat} (hb : ByO W v bs) : ∀ W', Fr 0 [] (p :: G.toList) W W' → Bs W' v bs := fun _ f => (h.keeps hT hTE f v bs hb).bs
/-- An end where blocks turn that are not its own. -/
theorem IsE.keepS {W W' : World} {T TE : TypeId} {p : Nat} {G : Option Nat} {s : LSt} {S : List Nat} (h : IsE W T TE p G s) (f : Fr 0 [] S W W') (hp : p ∉ S) (hG : ∀ g, G = some g → g ∉ S) (hb : KeepsB W W') : IsE W' T TE p G s := by
  obtain ⟨v, h1, zs, h2, h3, h4, h5⟩ := h
  refine ⟨v, (f.block p (lt_of_block h1) (.inr ⟨fun _ _ _ _ => by simp, hp⟩)).trans h1, zs, h2, f.own h3 (by simp) (fun k hk => hG k (by rw [← h4]; exact hk)), h4, fun z hz => hb _ _ (h5 z hz)⟩
theorem IsE.gne {W : World} {T TE : TypeId} {p : Nat} {G : Option Nat} {s : LSt} (h : IsE W T TE p G s) (hne : TE ≠ T) {q : Nat} {cs : Array Value} {fz : Nat × Nat} (hq : W.heap[q]? = some (.cells cs TE fz)) : ∀ g, G = some g → g ≠ q ∧ g < W.heap.size := fun g hg => by
  obtain ⟨v, h1, zs, h2, h3, h4, h5⟩ := h
  obtain ⟨_, cs2, hc⟩ := own_block h3 (by rw [h4]; exact hg)
  exact ⟨fun e => (block_ne hc hq (Ne.symm hne)) e, lt_of_block hc⟩

/-- Two ends that have come since w, apart from one another. -/
def En2 (w : World) (p : Nat) (s : LSt) (q : Nat) (r : LSt) (W : World) : Prop :=
  ∃ G H, IsE W 84 80 p G s ∧ IsE W 84 80 q H r ∧ p ≠ q ∧ (∀ g, G = some g → H ≠ some g) ∧ w.heap.size ≤ p ∧ w.heap.size ≤ q ∧ (∀ g, G = some g → w.heap.size ≤ g) ∧ (∀ g, H = some g → w.heap.size ≤ g) ∧ Below w.heap.size w W
theorem En2.symm {w W : World} {p q : Nat} {s r : LSt} (h : En2 w p s q r W) : En2 w q r p s W := by
  obtain ⟨G, H, h1, h2, h3, h4, h5, h6, h7, h8, h9⟩ := h
  exact ⟨H, G, h2, h1, h3.symm, fun g hg hG => h4 g hG hg, h6, h5, h8, h7, h9⟩
theorem En2.keep {w W W' : World} {p q : Nat} {s r : LSt} (h : En2 w p s q r W) (hb : Below W.heap.size W W') : En2 w p s q r W' := by
  obtain ⟨G, H, h1, h2, h3, h4, h5, h6, h7, h8, h9⟩ := h
  exact ⟨G, H, h1.below hb, h2.below hb, h3, h4, h5, h6, h7, h8, h9.trans (hb.mono h9.size)⟩
theorem En2.ne {w W : World} {p q : Nat} {s r : LSt} (h : En2 w p s q r W) : p < W.heap.size ∧ q < W.heap.size := by
  obtain ⟨G, H, h1, h2, _⟩ := h
  exact ⟨h1.lt, h2.lt⟩
/-- A call on the first of them. -/
theorem En2.call {w W : World} {p q : Nat} {s s' r : LSt} {f : FuncId} {args : Array Value} {R : Ending → World → Prop} (h : En2 w p s q r W)
    (hc : ∀ G, IsE W 84 80 p G s → Calls Try.prog f args W (RetE 84 80 p G R s' W)) :
    Calls Try.prog f args W fun e W' => R e W' ∧ En2 w p s' q r W' ∧ Keeps W W' := by
  obtain ⟨G, H, h1, h2, h3, h4, h5, h6, h7, h8, h9⟩ := h
  refine (hc G h1).mono fun e W' ⟨G', hR, hE, hF, hG⟩ => ?_
  have hk := h1.keeps (by decide) (by decide) hF
  obtain ⟨v2, k1, _⟩ := id h2
  obtain ⟨v1, k2, _⟩ := id h1
  have hq : q ∉ p :: G.toList := fun hm => by
    rcases List.mem_cons.1 hm with e | e
    · exact h3 e.symm
    · exact (h1.gne (by decide) k1 q (by simpa using e)).1 rfl
  have hH : ∀ g, H = some g → g ∉ p :: G.toList := fun g hg hm => by
    rcases List.mem_cons.1 hm with e | e
    · exact (h2.gne (by decide) k2 g hg).1 e
    · exact h4 g (by simpa using e) hg
  have hbl : Below w.heap.size w W' := h9.trans ⟨hF.os, hF.tape, hF.output, hF.size, fun k hk => hF.block k (by have := h9.size; omega) (.inr ⟨fun _ _ _ _ => by simp, fun hm => by
    rcases List.mem_cons.1 hm with e | e
    · omega
    · have := h7 k (by simpa using e); omega⟩)⟩
  have hkk : Keeps W W' := ⟨hk, fun k cs T fz hkc e1 e2 => (hF.block k (lt_of_block hkc) (.inr ⟨fun _ _ _ _ => by simp, fun hm => by
    rcases List.mem_cons.1 hm with e | e
    · subst e
      rw [k2] at hkc
      injection hkc with hkc
      injection hkc with _ hkc _
      exact e2 hkc.symm
    · obtain ⟨u, _, zs, _, ho, ho2, _⟩ := id h1
      obtain ⟨_, cs2, hc2⟩ := own_block ho (by rw [ho2]; simpa using e)
      rw [hc2] at hkc
      injection hkc with hkc
      injection hkc with _ hkc _
      exact e1 hkc.symm⟩)).trans hkc⟩
  refine ⟨hR, ⟨G', H, hE, h2.keepS hF hq hH hk, h3, ?_, h5, h6, ?_, h8, hbl⟩, hkk⟩
  · rcases hG with rfl | ⟨g, rfl, hg⟩
    · exact h4
    · intro g' e hH'
      injection e with e
      subst e
      have := (h2.gne (by decide) k2 g hH').2
      omega
  · rcases hG with rfl | ⟨g, rfl, hg⟩
    · exact h7
    · intro g' e
      injection e with e
      subst e
      have := h9.size
      omega
theorem En2.send {w W : World} {p q : Nat} {s r : LSt} (h : En2 w p s q r W) (A : Option Addr) (c : Nat) (bs : List Nat) (now : Int) (hb : ByO W (.slice A bs.length c) bs) (hs : 0 ≤ s.sent ∧ s.sent < 9223372036854775807) (hnow : -9223372036854775808 ≤ now ∧ now ≤ 9223372036854775807) :
    Calls Try.prog 19 #[.pointer (some ⟨p, 0, none⟩), .slice A bs.length c, .int .i64 now] W fun e W' => (∃ v, e = .returned (.tuple #[v, .int .i64 (sendE s bs)]) ∧ IsP W' v (sendP s bs)) ∧ En2 w p (sendS s bs now) q r W' ∧ Keeps W W' :=
  h.call fun G hE => lsend_any p G s A c bs now W hE (hE.hbs (by decide) (by decide) hb) hb.2 hs hnow
theorem En2.on {w W : World} {p q : Nat} {s r : LSt} (h : En2 w p s q r W) (k : LPk) (A : Option Addr) (c : Nat) (hb : ByO W (.slice A k.body.length c) k.body) (hl : k.body.length ≤ 9223372036854775807) (hmk : 0 ≤ s.mark ∧ s.mark < 9223372036854775807) :
    Calls Try.prog 20 #[.pointer (some ⟨p, 0, none⟩), .agg #[.int .i64 k.seq, .int .i64 k.ack, .slice A k.body.length c]] W fun e W' => (∃ bv v3, e = .returned (.tuple #[bv, .bool (onI s k), v3]) ∧ ByO W' bv (onB s k) ∧ IsP W' v3 (onP s k)) ∧ En2 w p (onS s k) q r W' ∧ Keeps W W' :=
  h.call fun G hE => lon_any p G s k A c W hE hl hmk (hE.hbs (by decide) (by decide) hb) hb.2
theorem En2.tick {w W : World} {p q : Nat} {s r : LSt} (h : En2 w p s q r W) (now : Int) (hn : s.l.length ≤ 1048576) (hI : ∀ x ∈ s.l, 0 ≤ x.tries ∧ x.tries < 9223372036854775807 ∧ x.body.length ≤ 140737488351232) (hnow : -9223372036854775808 ≤ now ∧ now ≤ 9223372036854775807) :
    Calls Try.prog 21 #[.pointer (some ⟨p, 0, none⟩), .int .i64 now] W fun e W' => (∃ v, e = .returned v ∧ IsPs W.heap.size W' v (tickP s now)) ∧ En2 w p (tickS s now) q r W' ∧ Keeps W W' :=
  h.call fun G hE => ltick_any p G s now W hE hn hI hnow
theorem En2.open_ {w W : World} {p q : Nat} {s r : LSt} (h : En2 w p s q r W) : Calls Try.prog 15 #[.pointer (some ⟨p, 0, none⟩)] W fun e W' => e = .returned (.int .i64 s.l.length) ∧ W = W' := by
  obtain ⟨G, H, h1, _⟩ := h
  exact lopen_any p G s W h1
theorem En2.mark {w W : World} {p q : Nat} {s r : LSt} (h : En2 w p s q r W) : Calls Try.prog 26 #[.pointer (some ⟨p, 0, none⟩)] W fun e W' => e = .returned (.int .i64 s.mark) ∧ W = W' := by
  obtain ⟨G, H, h1, _⟩ := h
  exact lmark_any p G s W h1
theorem en2_new {w W W1 W2 : World} (hb : Below w.heap.size w W) (h1 : IsE W1 84 80 W.heap.size none ⟨[], 0, 0⟩) (hb1 : Below W.heap.size W W1) (h2 : IsE W2 84 80 W1.heap.size none ⟨[], 0, 0⟩) (hb2 : Below W1.heap.size W1 W2) :
    En2 w W.heap.size ⟨[], 0, 0⟩ W1.heap.size ⟨[], 0, 0⟩ W2 :=
  ⟨none, none, h1.below hb2, h2, by have := h1.lt; omega, by simp, hb.size, by have := hb.size; have := hb1.size; omega, by simp, by simp, (hb.trans (hb1.mono hb.size)).trans (hb2.mono (by have := hb.size; have := hb1.size; omega))⟩
/-- A literal body of one byte. -/
theorem En2.sendL {w W : World} {p q : Nat} {s r : LSt} (h : En2 w p s q r W) (g b : Nat) (fz : Nat × Nat) (now : Int) (hb : b < 256) (hs : 0 ≤ s.sent ∧ s.sent < 9223372036854775807) (hnow : -9223372036854775808 ≤ now ∧ now ≤ 9223372036854775807) (hg : W.heap[g]? = some (.cells #[.int .u8 b] 5 fz)) :
    Calls Try.prog 19 #[.pointer (some ⟨p, 0, none⟩), .slice (some ⟨g, 0, none⟩) 1 1, .int .i64 now] W fun e W' => (∃ v, e = .returned (.tuple #[v, .int .i64 (sendE s [b])]) ∧ IsP W' v (sendP s [b])) ∧ En2 w p (sendS s [b] now) q r W' ∧ Keeps W W' :=
  h.call fun G hE => lsend_any p G s (some ⟨g, 0, none⟩) 1 [b] now W hE (fun W' f => by
    have hgS : g ∉ p :: G.toList := fun hm => by
      obtain ⟨v, h1, zs, _, h3, h4, _⟩ := hE
      rcases List.mem_cons.1 hm with e | e
      · subst e
        rw [hg] at h1
        injection h1 with e
        injection e with _ e _
        exact absurd e (by decide)
      · obtain ⟨_, cs, hc⟩ := own_block h3 (by rw [h4]; simpa using e)
        rw [hg] at hc
        injection hc with e
        injection e with _ e _
        exact absurd e (by decide)
    have hg' := (f.block g (lt_of_block hg) (.inr ⟨fun _ _ _ _ => by simp, hgS⟩)).trans hg
    refine ⟨_, _, rfl, Nat.le_refl _, by unfold maxLen; omega, rfl, fun _ => ⟨g, 0, rfl, lt_of_block hg', fun j u hu => ?_⟩⟩
    have hj : j = 0 := by
      have := (List.getElem?_eq_some_iff.1 hu).1
      simp at this; omega
    subst hj
    simp at hu
    subst hu
    rw [cell_at hg']
    rfl) (by simpa using hb) hs hnow
end Go.Proofs.Ytnmbblkfaoihfaa

namespace Go.Proofs.Ytnmbblkfaoihfaa
open Go.RowKit

theorem Try.infoRItem : (Try.prog.info? 91).map (fun i => (i.zero, i.size, i.bytes)) = some (some (.agg #[.int .i64 0, .slice none 0 0, .int .i64 0, .int .i64 0]), 4, 48) := by kernel_rfl
theorem Fr.cellS {S : List Nat} {a b : World} {g i : Nat} (h : Fr 0 [] S a b) (hg : g < a.heap.size) (hS : g ∉ S) : b.cell? ⟨g, i, none⟩ = a.cell? ⟨g, i, none⟩ := by
  simp only [World.cell?, h.block g hg (.inr ⟨fun _ _ _ _ => by simp, hS⟩)]
/-- An end of the reference. -/
abbrev IsX (W : World) (p : Nat) (G : Option Nat) (s : LSt) : Prop := IsE W 91 55 p G s
/-- What a call on it leaves. -/
def RetX (p : Nat) (G : Option Nat) (R : Ending → World → Prop) (s : LSt) (w : World) (e : Ending) (w' : World) : Prop :=
  ∃ G', R e w' ∧ IsX w' p G' s ∧ Fr 0 [] (p :: G.toList) w w' ∧ (∀ g, G' = some g → G = some g ∨ w.heap.size ≤ g)
/-- Other items, put in. -/
theorem isx_set0 {W : World} {p : Nat} {v0 v' : Value} {sent mark : Int} {zs : List LIm} {l : List LIt} (hp : W.heap[p]? = some (.cells #[v0, .int .i64 sent, .int .i64 mark] 55 (0, 0)))
    (ho : W.ownsRow 0 91 4 v' zs.length (zs.flatMap encL)) (hmap : zs.map (·.it) = l) (hb : ∀ z ∈ zs, ByO W z.bv z.it.body) :
    IsX (W.setCell ⟨p, 0, none⟩ v') p v'.ownBlock ⟨l, sent, mark⟩ := by
  have hlen : l.length = zs.length := by rw [← hmap]; simp
  have fs : Fr 0 [] [p] W (W.setCell ⟨p, 0, none⟩ v') := (Fr.refl W).setCell (p := ⟨p, 0, none⟩) _ (Nat.zero_le _) (.inl (by simp))
  refine ⟨v', by simpa using block_set hp 0 v', zs, hmap, ?_, rfl, fun z hz => (hb z hz).far fs hp (by decide)⟩
  rw [show (⟨l, sent, mark⟩ : LSt).l.length = zs.length from hlen]
  refine fs.own ho (by simp) (fun k hk hm => ?_)
  obtain ⟨_, cs, hc⟩ := own_block ho hk
  simp at hm
  subst hm
  rw [hp] at hc
  injection hc with e
  injection e with _ e _
  exact absurd e (by decide)
/-- Another mark. -/
theorem isx_mark {W : World} {p : Nat} {G : Option Nat} {s : LSt} (h : IsX W p G s) (m : Int) : IsX (W.setCell ⟨p, 2, none⟩ (.int .i64 m)) p G ⟨s.l, s.sent, m⟩ := by
  obtain ⟨v, hp, zs, h1, h2, h3, h4⟩ := h
  have fs : Fr 0 [] [p] W (W.setCell ⟨p, 2, none⟩ (.int .i64 m)) := (Fr.refl W).setCell (p := ⟨p, 2, none⟩) _ (Nat.zero_le _) (.inl (by simp))
  refine ⟨v, by simpa using block_set hp 2 (.int .i64 m), zs, h1, fs.own h2 (by simp) (fun k hk hm => ?_), h3, fun z hz => (h4 z hz).far fs hp (by decide)⟩
  obtain ⟨_, cs, hc⟩ := own_block h2 hk
  simp at hm
  subst hm
  rw [hp] at hc
  injection hc with e
  injection e with _ e _
  exact absurd e (by decide)
/-- What two stores of a round of Tick leave of the copied row. -/
theorem rtick_row {W : World} {B g c n : Nat} {zs : List LIm} {k : Nat} (hk : k < zs.length) (ho : W.ownsRow B 91 4 (.slice (some ⟨g, 0, none⟩) n c) n (zs.flatMap encL)) (hn : zs.length = n) (a b : Int) :
    ((W.setCell ⟨g, k * 4 + 3, none⟩ (.int .i64 a)).setCell ⟨g, k * 4 + 2, none⟩ (.int .i64 b)).ownsRow B 91 4 (.slice (some ⟨g, 0, none⟩) n c) n ((zs.set k ⟨⟨zs[k].it.seq, zs[k].it.body, b, a⟩, zs[k].bv⟩).flatMap encL) := by
  have hrow := own_set (own_set ho (i := k * 4 + 3) (by omega) (.int .i64 a)) (i := k * 4 + 2) (by omega) (.int .i64 b)
  rwa [flatL_set zs k hk] at hrow
end Go.Proofs.Ytnmbblkfaoihfaa
