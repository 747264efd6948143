/- A maker and the reference's, side by side, seen from the world in which a law began. -/
import Derived.Test.YtlljeghlfijdnaaCRM
namespace Go.Proofs.Ytlljeghlfijdnaa
open Go.RowKit

/-- The maker at p and the reference's at q hold the same; neither is in the other's way. -/
def Two (w : World) (p q : Nat) (s : List Nat × Bool) (W : World) : Prop :=
  ∃ G D, IsM W p G s ∧ IsT W 38 q D s ∧ p ≠ q ∧ w.heap.size ≤ p ∧ w.heap.size ≤ q ∧ (∀ g, G = some g → w.heap.size ≤ g) ∧ D ≠ some q ∧ D ≠ some p ∧ (∀ g, G = some g → D ≠ some g) ∧ (∀ d, D = some d → d < W.heap.size) ∧ Below w.heap.size w W
/-- Between the two calls. -/
def Half (w : World) (p q : Nat) (s r : List Nat × Bool) (W : World) : Prop :=
  ∃ G D, IsM W p G s ∧ IsT W 38 q D r ∧ p ≠ q ∧ w.heap.size ≤ p ∧ w.heap.size ≤ q ∧ (∀ g, G = some g → w.heap.size ≤ g) ∧ D ≠ some q ∧ D ≠ some p ∧ (∀ g, G = some g → D ≠ some g) ∧ (∀ d, D = some d → d < W.heap.size) ∧ Below w.heap.size w W
theorem Half.below {w W : World} {p q : Nat} {s r : List Nat × Bool} (h : Half w p q s r W) : Below w.heap.size w W := by
  obtain ⟨G, D, _, _, _, _, _, _, _, _, _, _, h⟩ := h; exact h
theorem Half.keep {w W W' : World} {p q : Nat} {s r : List Nat × Bool} (h : Half w p q s r W) (hb : Below W.heap.size W W') : Half w p q s r W' := by
  obtain ⟨G, D, h1, h2, h3, h4, h5, h6, h7, h8, h9, h10, h11⟩ := h
  exact ⟨G, D, h1.below hb, h2.below hb, h3, h4, h5, h6, h7, h8, h9, fun d hd => Nat.lt_of_lt_of_le (h10 d hd) hb.size, h11.trans (hb.mono h11.size)⟩
theorem IsM.own_ne_T {W : World} {p q : Nat} {G : Option Nat} {s r : List Nat × Bool} {D : Option Nat} (h : IsM W p G s) (h' : IsT W 38 q D r) : G ≠ some q := by
  obtain ⟨v, h1, h2, h3⟩ := h
  obtain ⟨A, c, k1, _⟩ := h'
  rw [← h3]
  exact own_ne h2 k1 (by decide)
/-- Blocks of other types stand. -/
def Rest (W W' : World) : Prop := ∀ T, T ≠ 5 → T ≠ 77 → T ≠ 38 → ∀ (k : Nat) (cs : Array Value) (f : Nat × Nat), W.heap[k]? = some (.cells cs T f) → W'.heap[k]? = some (.cells cs T f)
theorem Rest.trans {a b c : World} (h : Rest a b) (h' : Rest b c) : Rest a c := fun T h1 h2 h3 k cs f hk => h' T h1 h2 h3 k cs f (h T h1 h2 h3 k cs f hk)
theorem Half.m {w W : World} {p q : Nat} {s s' r : List Nat × Bool} {f : FuncId} {args : Array Value} (h : Half w p q s r W) (hc : ∀ G, IsM W p G s → Calls Try.prog f args W (RetM p G s' W)) :
    Calls Try.prog f args W fun e W' => e = .returned (.pointer (some ⟨p, 0, none⟩)) ∧ Half w p q s' r W' ∧ Rest W W' := by
  obtain ⟨G, D, h1, h2, h3, h4, h5, h6, h7, h8, h9, h10, h11⟩ := h
  have hq := h2.lt
  have hGq := h1.own_ne_T h2
  refine (hc G h1).mono fun e W' ⟨G', he, hM, hf, hg⟩ => ⟨he, ⟨G', D, hM, h2.keepM hf (Ne.symm h3) h8 (fun g hg' => ⟨fun e => hGq (by rw [hg', e]), h9 g hg'⟩), h3, h4, h5, fun g hg' => ?_, h7, h8, fun g hg' hd => ?_, fun d hd => Nat.lt_of_lt_of_le (h10 d hd) hf.size, h11.trans (hf.belowM h4 h6 h11.size)⟩, fun T t1 t2 _ k cs f hk => hf.keep0 hk fun hm => ?_⟩
  · rcases hg with e | ⟨g', e, hn⟩
    · exact h6 g (e ▸ hg')
    · rw [hg'] at e
      injection e with e
      have := h11.size
      omega
  · rcases hg with e | ⟨g', e, hn⟩
    · exact h9 g (e ▸ hg') hd
    · rw [hg'] at e
      injection e with e
      have := h10 g hd
      omega
  · obtain ⟨v, k1, k2, k3⟩ := h1
    rcases List.mem_cons.1 hm with e | e
    · subst e
      exact block_ne hk k1 t2 rfl
    · have e : G = some k := by simpa using e
      obtain ⟨_, cs', hc'⟩ := own_block k2 (k3.trans e)
      exact block_ne hk hc' t1 rfl
theorem Half.r {w W : World} {p q : Nat} {s r r' : List Nat × Bool} {f : FuncId} {args : Array Value} (h : Half w p q s r W) (hc : ∀ D, IsT W 38 q D r → D ≠ some q → Calls Try.prog f args W (RetR q D r' W)) :
    Calls Try.prog f args W fun e W' => e = .returned (.tuple #[]) ∧ Half w p q s r' W' ∧ Rest W W' := by
  obtain ⟨G, D, h1, h2, h3, h4, h5, h6, h7, h8, h9, h10, h11⟩ := h
  have hp := h1.lt
  have hGq := h1.own_ne_T h2
  refine (hc D h2 h7).mono fun e W' ⟨D', he, hT, hD', hd, hf⟩ => ⟨he, ⟨G, D', h1.keepT hf h3 hGq, hT, h3, h4, h5, h6, hD', fun e => ?_, fun g hg e => ?_, fun d hd' => ?_, h11.trans (hf.belowT h5 h11.size)⟩, fun T _ _ t3 k cs f hk => hf.keep0 hk fun hm => ?_⟩
  · rcases hd with h | h
    · exact h8 (h ▸ e)
    · have := (h p e).1; omega
  · rcases hd with h | h
    · exact h9 g hg (h ▸ e)
    · have h12 := (h g e).1
      subst hg
      have := h1.own_lt.1
      omega
  · rcases hd with h | h
    · exact Nat.lt_of_lt_of_le (h10 d (h ▸ hd')) hf.size
    · exact (h d hd').2
  · obtain ⟨A, c, k1, _⟩ := h2
    have e : k = q := by simpa using hm
    subst e
    exact block_ne hk k1 t3 rfl
theorem half_done {w W : World} {p q : Nat} {s r : List Nat × Bool} (h : Half w p q s r W) (hl : s.1.length ≤ 262144) : Calls Try.prog 25 #[.pointer (some ⟨p, 0, none⟩)] W
    fun e W' => ∃ v, e = .returned (.tuple #[v, .int .i64 (if s.2 then 3 else 0)]) ∧ Bs W' v (if s.2 then [] else s.1) ∧ Half w p q s r W' := by
  have hk := h
  obtain ⟨G, D, h1, _⟩ := h
  refine (mdone_any p G s W h1 hl).mono fun e W' ⟨v, he, ho, hb⟩ => ⟨v, he, ?_, hk.keep hb⟩
  obtain ⟨bs, lg⟩ := s
  cases lg with
  | true => exact Bs.own_n (bs := []) ho
  | false => exact Bs.own_n ho

/-- What one call of the law's makes of the bytes. -/
def putK (s : List Nat × Bool) (k n : Int) (t : ByteArray) : List Nat × Bool :=
  if k = 1 then putS s (numB n) else if k = 2 then putS s (textB (natsOf t)) else if k = 3 then putS s (flagB (n == 1)) else s
theorem putK_len {s : List Nat × Bool} (h : s.1.length ≤ 262144) (k n : Int) (t : ByteArray) : (putK s k n t).1.length ≤ 262144 := by
  unfold putK
  split
  · exact putS_len h _
  · split
    · exact putS_len h _
    · split
      · exact putS_len h _
      · exact h
end Go.Proofs.Ytlljeghlfijdnaa
