/- A map from integers to bools that the call itself makes: stores and look-ups. -/
import Derived.Test.YtglfbihdbdcgiaaMem
import Derived.Maps.OwnOps
import Derived.Maps.Views
namespace Go.Proofs.Ytglfbihdbdcgiaa
open Go.RowKit Go.Maps

/-- Block b is a map of at most n entries; true is stored at just the keys in acc. -/
def IsSet (P : Program) (k e : TypeId) (w : World) (b n : Nat) (acc : List Int) : Prop :=
  ∃ D : DataW Unit, w.ownsMap P k (plainElem P e) b n D ∧ IsMap D ∧ ∀ x : Int, D.atKey (.int .i64 x) (.lit (.bool false)) = .lit (.bool (decide (x ∈ acc)))

section
variable {P : Program} {k e t : TypeId} {w : World} {b n : Nat} {acc : List Int}
theorem IsSet.made (w : World) (P : Program) (k e : TypeId) : IsSet P k e (w.alloc (.map #[] 0)) w.heap.size 0 [] :=
  ⟨.map [], World.ownsMap_made w P k _, isMap_empty, fun x => by simp [DataW.atKey]⟩
theorem IsSet.fr {w' : World} {B : Nat} {T : List TypeId} {S : List Nat} (h : IsSet P k e w b n acc) (hf : Fr B T S w w') (hs : b ∉ S) : IsSet P k e w' b n acc := by
  obtain ⟨D, ⟨es, clock, hb, rest⟩, h2, h3⟩ := h
  refine ⟨D, ⟨es, clock, ?_, rest⟩, h2, h3⟩
  rw [hf.block b (lt_of_block hb) (.inr ⟨(fun cs t f he => by rw [hb] at he; cases he), hs⟩)]
  exact hb
theorem IsSet.lt (h : IsSet P k e w b n acc) : b < w.heap.size := by
  obtain ⟨D, ⟨es, clock, hb, _⟩, _⟩ := h
  exact lt_of_block hb
theorem IsSet.look (h : IsSet P k e w b n acc) (K : Keyed P k) (hk : P.underlying k = some (.int .i64)) (ht : P.underlying t = some (.map k e)) (he : P.underlying e = some .bool) (hz : (zeroValue e).run P w = .ok (.bool false) w) {x : Int} (hx : (Lit.int .i64 x).wf = true) :
    (Instr.lookup t (.map (some b)) (.int .i64 x) false).run P w = .ok (.bool (decide (x ∈ acc))) w := by
  obtain ⟨D, ho, _, hD⟩ := h
  obtain ⟨v, ps, hrun, hv⟩ := ho.lookup K ht hz (plainElem_bool he false) (keyOf_int_mk hk hx)
  rw [hD x] at hv
  rw [hrun]
  unfold plainElem at hv
  rw [he] at hv
  cases v <;> simp at hv
  rw [hv.1]
theorem IsSet.store (h : IsSet P k e w b n acc) (K : Keyed P k) (hk : P.underlying k = some (.int .i64)) (ht : P.underlying t = some (.map k e)) (he : P.underlying e = some .bool) {x : Int} (hx : (Lit.int .i64 x).wf = true) (hn : n < maxLen) :
    ∃ w', (Instr.mapUpdate t (.map (some b)) (.int .i64 x) (.bool true)).run P w = .ok () w' ∧ IsSet P k e w' b (n + 1) (x :: acc) ∧ w.grownBy w' (some b) := by
  obtain ⟨D, ho, hm, hD⟩ := h
  obtain ⟨w', hrun, h1, h2⟩ := ho.update K ht hn (keyOf_int_mk hk hx) (plainElem_bool he true)
  refine ⟨w', hrun, ⟨_, h1, hm.put _ _, fun y => ?_⟩, h2⟩
  by_cases hy : y = x
  · subst hy
    rw [atKey_put_same hm (by trivial)]
    simp
  · rw [atKey_put_other (by simpa using hy), hD y]
    simp [hy]
end

theorem wpList_set_store {P : Program} {k e t : TypeId} (w : World) {ops : Array Oper} {rest : List Oper} {o : Oper} {a : Act} {Q : Exit → Act → World → Prop}
    (hg : o.guard = none) (m x v : Operand) (hop : o.op = Op.mapUpdate t m x v) {b n : Nat} {acc : List Int} (h : IsSet P k e w b n acc) (K : Keyed P k) (hk : P.underlying k = some (.int .i64)) (ht : P.underlying t = some (.map k e)) (he : P.underlying e = some .bool) (z : Int)
    (hm : a.eval m = .map (some b)) (hx : a.eval x = .int .i64 z) (hv : a.eval v = .bool true) (hz : (Lit.int .i64 z).wf = true) (hn : n < maxLen)
    (hK : ∀ w', IsSet P k e w' b (n + 1) (z :: acc) → w.grownBy w' (some b) → wpList P ops Q rest (a.put o.dst undef) w') : wpList P ops Q (o :: rest) a w := by
  refine wpList_plain hg fun K' hK' => ?_
  obtain ⟨w', hrun, r1, r2⟩ := h.store K hk ht he hz hn
  unfold Oper.wp
  simp [execOp, hop, hm, hx, hv, hrun, Result.andThen]
  exact hK' _ _ (hK w' r1 r2)
end Go.Proofs.Ytglfbihdbdcgiaa
