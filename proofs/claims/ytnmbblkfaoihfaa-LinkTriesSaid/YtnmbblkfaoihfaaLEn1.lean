/- One end of a law's own. -/
import Derived.Test.YtnmbblkfaoihfaaLLives
namespace Go.Proofs.Ytnmbblkfaoihfaa
open Go.RowKit

/-- An end that has come since w. -/
def En1 (w : World) (p : Nat) (s : LSt) (W : World) : Prop :=
  ∃ G, IsE W 84 80 p G s ∧ w.heap.size ≤ p ∧ (∀ g, G = some g → w.heap.size ≤ g) ∧ Below w.heap.size w W
theorem En1.keep {w W W' : World} {p : Nat} {s : LSt} (h : En1 w p s W) (hb : Below W.heap.size W W') : En1 w p s W' := by
  obtain ⟨G, h1, h5, h7, h9⟩ := h
  exact ⟨G, h1.below hb, h5, h7, h9.trans (hb.mono h9.size)⟩
theorem En1.below {w W : World} {p : Nat} {s : LSt} (h : En1 w p s W) : Below w.heap.size w W := by
  obtain ⟨G, h1, h5, h7, h9⟩ := h
  exact h9
theorem En1.call {w W : World} {p : Nat} {s s' : LSt} {f : FuncId} {args : Array Value} {R : Ending → World → Prop} (h : En1 w p s W)
    (hc : ∀ G, IsE W 84 80 p G s → Calls Try.prog f args W (RetE 84 80 p G R s' W)) :
    Calls Try.prog f args W fun e W' => R e W' ∧ En1 w p s' W' ∧ Below w.heap.size W W' := by
  obtain ⟨G, h1, h5, h7, h9⟩ := h
  refine (hc G h1).mono fun e W' ⟨G', hR, hE, hF, hG⟩ => ?_
  have hbl : Below w.heap.size W W' := ⟨hF.os, hF.tape, hF.output, hF.size, fun k hk => hF.block k (by have := h9.size; omega) (.inr ⟨fun _ _ _ _ => by simp, fun hm => by
    rcases List.mem_cons.1 hm with e | e
    · omega
    · have := h7 k (by simpa using e); omega⟩)⟩
  refine ⟨hR, ⟨G', hE, h5, ?_, h9.trans hbl⟩, hbl⟩
  rcases hG with rfl | ⟨g, rfl, hg⟩
  · exact h7
  · intro g' e
    injection e with e
    subst e
    have := h9.size
    omega
theorem En1.sendL {w W : World} {p : Nat} {s : LSt} (h : En1 w p s W) (g b : Nat) (fz : Nat × Nat) (now : Int) (hb : b < 256) (hs : 0 ≤ s.sent ∧ s.sent < 9223372036854775807) (hnow : -9223372036854775808 ≤ now ∧ now ≤ 9223372036854775807) (hg : W.heap[g]? = some (.cells #[.int .u8 b] 5 fz)) :
    Calls Try.prog 19 #[.pointer (some ⟨p, 0, none⟩), .slice (some ⟨g, 0, none⟩) 1 1, .int .i64 now] W fun e W' => (∃ v, e = .returned (.tuple #[v, .int .i64 (sendE s [b])]) ∧ IsP W' v (sendP s [b])) ∧ En1 w p (sendS s [b] now) W' ∧ Below w.heap.size W W' :=
  h.call fun G hE => lsend_any p G s (some ⟨g, 0, none⟩) 1 [b] now W hE (fun W' f => by
    have hgS : g ∉ p :: G.toList := fun hm => by
      obtain ⟨v, h1, zs, _, h3, h4, _⟩ := hE
      rcases List.mem_cons.1 hm with e | e
      · subst e
        rw [hg] at h1
        injection h1 with e
        injection e with _ e _
        exact absurd e (by decide)
      · obtain ⟨_, cs, hc⟩ := own_block h3 (by rw [h4]; simpa using e)
        rw [hg] at hc
        injection hc with e
        injection e with _ e _
        exact absurd e (by decide)
    have hg' := (f.block g (lt_of_block hg) (.inr ⟨fun _ _ _ _ => by simp, hgS⟩)).trans hg
    refine ⟨_, _, rfl, Nat.le_refl _, by unfold maxLen; omega, rfl, fun _ => ⟨g, 0, rfl, lt_of_block hg', fun j u hu => ?_⟩⟩
    have hj : j = 0 := by
      have := (List.getElem?_eq_some_iff.1 hu).1
      simp at this; omega
    subst hj
    simp at hu
    subst hu
    rw [cell_at hg']
    rfl) (by simpa using hb) hs hnow
theorem En1.on {w W : World} {p : Nat} {s : LSt} (h : En1 w p s W) (k : LPk) (A : Option Addr) (c : Nat) (hb : ByO W (.slice A k.body.length c) k.body) (hl : k.body.length ≤ 9223372036854775807) (hmk : 0 ≤ s.mark ∧ s.mark < 9223372036854775807) :
    Calls Try.prog 20 #[.pointer (some ⟨p, 0, none⟩), .agg #[.int .i64 k.seq, .int .i64 k.ack, .slice A k.body.length c]] W fun e W' => (∃ bv v3, e = .returned (.tuple #[bv, .bool (onI s k), v3]) ∧ ByO W' bv (onB s k) ∧ IsP W' v3 (onP s k)) ∧ En1 w p (onS s k) W' ∧ Below w.heap.size W W' :=
  h.call fun G hE => lon_any p G s k A c W hE hl hmk (hE.hbs (by decide) (by decide) hb) hb.2
theorem En1.tick {w W : World} {p : Nat} {s : LSt} (h : En1 w p s W) (now : Int) (hn : s.l.length ≤ 1048576) (hI : ∀ x ∈ s.l, 0 ≤ x.tries ∧ x.tries < 9223372036854775807 ∧ x.body.length ≤ 140737488351232) (hnow : -9223372036854775808 ≤ now ∧ now ≤ 9223372036854775807) :
    Calls Try.prog 21 #[.pointer (some ⟨p, 0, none⟩), .int .i64 now] W fun e W' => (∃ v, e = .returned v ∧ IsPs W.heap.size W' v (tickP s now)) ∧ En1 w p (tickS s now) W' ∧ Below w.heap.size W W' :=
  h.call fun G hE => ltick_any p G s now W hE hn hI hnow
theorem En1.open_ {w W : World} {p : Nat} {s : LSt} (h : En1 w p s W) : Calls Try.prog 15 #[.pointer (some ⟨p, 0, none⟩)] W fun e W' => e = .returned (.int .i64 s.l.length) ∧ W = W' := by
  obtain ⟨G, h1, _⟩ := h
  exact lopen_any p G s W h1
theorem en1_new (w : World) : Calls Try.prog 18 #[] w fun e w' => e = .returned (.pointer (some ⟨w.heap.size, 0, none⟩)) ∧ En1 w w.heap.size ⟨[], 0, 0⟩ w' :=
  (lnew_any w).mono fun e w' ⟨he, hE, hb⟩ => ⟨he, none, hE, Nat.le_refl _, by simp, hb⟩
end Go.Proofs.Ytnmbblkfaoihfaa
