/- Joined: From a walk to a row's statement, and how arguments that came in are opened. A slice of structs of two integers that came in, opened; elements of several cells. A map from integers to bools that the call itself makes: stores and look-ups. -/
import Derived.Test.YtglfbihdbdcgiaaRows
import Derived.Test.YtglfbihdbdcgiaaZBP1
import Derived.ProofKit
import Derived.OpenShut
import Derived.ShutString
import Derived.ChangeOld
import Derived.Deep.Slices
import Derived.Deep.Fields
import Derived.Deep.SlicePairs
import Derived.Maps.OwnOps
import Derived.Maps.Views
namespace Go.Proofs.Ytglfbihdbdcgiaa
open Go.ChangeShapes Go.WideShapes Go.ChangeAt Go.RowKit Go.Deep

theorem own : ownKnob Try.prog.godebug = none := by kernel_rfl
theorem laidOut : laidOutB Try.prog = true := by kernel_rfl

section
variable {H : Type} {enc : TypeId × Value → H} {P : Program}
theorem trodAll_below (hl : laidOutB P = true) {W W' : World} (hb : Below W.heap.size W W') : ∀ (ts : List TypeId), (∀ t ∈ ts, P.readableRec t = true ∧ t < P.types.size) → ∀ (vs : List Value) (ds : List (DataW H)) (ps : List MemPlace),
    DataW.TrodAll enc P W 0 (fun _ => true) true ts vs ds ps → (∀ x ∈ ps, x.block < W.heap.size) → DataW.TrodAll enc P W' 0 (fun b => decide (b < W.heap.size)) true ts vs ds ps
  | [], _, [], [], _, h, _ => h
  | [], _, _ :: _, _, _, h, _ => h.elim
  | [], _, [], _ :: _, _, h, _ => h.elim
  | _ :: _, _, [], _, _, h, _ => h.elim
  | _ :: _, _, _ :: _, [], _, h, _ => h.elim
  | t :: ts, hts, v :: vs, d :: ds, ps, h, hlt => by
    obtain ⟨p, q, h1, h2, rfl⟩ := h
    obtain ⟨hr, hrow⟩ := hts t (by simp)
    exact ⟨p, q, Below.trod hl hr hrow h1 hb (fun x hx => hlt x (by simp [hx])), trodAll_below hl hb ts (fun t ht => hts t (by simp [ht])) vs ds q h2 (fun x hx => hlt x (by simp [hx])), rfl⟩

/-- What a law owes behind its walk: it answered true, and nothing that was there has turned. -/
theorem post_true (hl : laidOutB P = true) {f : Func} {s : ChangeSpec} {W W' : World} {args : Array Value} {ds gs : List (DataW H)} {before : List MemPlace} {tb : TypeId}
    (hts : ∀ t ∈ f.params.toList, P.readableRec t = true ∧ t < P.types.size) (hrt : f.resultTypes = #[tb]) (hb : P.underlying tb = some .bool) (hvars : s.vars = [])
    (hres : (s.fn H (ds ++ gs)).results = [.lit (.bool true)]) (hargs : (s.fn H (ds ++ gs)).args = ds) (hsv : (s.fn H (ds ++ gs)).vars = [])
    (hW : DataW.Whole enc P f.params.toList s.vars false W args.toList ds gs before) (bel : Below W.heap.size W W') :
    s.post enc P f false true false false W args (.bool true) W' := by
  have hW' := hW
  obtain ⟨p, q, hA, hV, hpq, _⟩ := hW
  rw [hvars] at hV
  have hlt := hW'.lt
  obtain ⟨rfl, rfl⟩ := trodVars_none hV
  refine ⟨ds, [], before, [], p, [], hW', ?_, ?_, ?_, bel.frame _, fun h => by cases h⟩
  · rw [hres, hrt]
    exact trodAll_mk1 (shut_bool hb _)
  · rw [hargs]
    exact trodAll_below hl bel _ hts _ _ _ hA (fun x hx => hlt x (by rw [hpq]; simp [hx]))
  · rw [hvars, hsv]
    exact rfl
end

/-- A slice of integers that came in. -/
def IsRow (k : IntKind) (w : World) (a : Option Addr) (len cap : Nat) (zs : List Int) : Prop :=
  len ≤ cap ∧ cap ≤ maxLen ∧ Rd w 1 a len (zs.map (Value.int k)) ∧ ∀ n ∈ zs, (Lit.int k n).wf = true

theorem IsRow.length {k : IntKind} {w : World} {a : Option Addr} {len cap : Nat} {zs : List Int} (h : IsRow k w a len cap zs) : zs.length = len := by
  have := h.2.2.1.1
  simpa using this
theorem IsRow.at_ {k : IntKind} {w : World} {a : Option Addr} {len cap : Nat} {zs : List Int} (h : IsRow k w a len cap zs) (hi : 0 < len) : ∃ g o, a = some ⟨g, o, none⟩ ∧ g < w.heap.size ∧ ∀ i (h : i < zs.length), w.cell? ⟨g, o + i, none⟩ = some (.int k zs[i]) := by
  obtain ⟨g, o, ha, hg, hc⟩ := h.2.2.1.2 hi
  exact ⟨g, o, ha, hg, fun i hi => hc i _ (by simp [hi])⟩
theorem IsRow.below {k : IntKind} {w w' : World} {a : Option Addr} {len cap : Nat} {zs : List Int} (h : IsRow k w a len cap zs) (hb : Below w.heap.size w w') : IsRow k w' a len cap zs :=
  ⟨h.1, h.2.1, h.2.2.1.below hb, h.2.2.2⟩

section
variable {H : Type} {enc : TypeId × Value → H} {P : Program} {w : World}
theorem open_row {t e : TypeId} {k : IntKind} {v : Value} {base : Nat} {d : DataW H} {p : List MemPlace} (ht : P.underlying t = some (.slice e)) (he : P.underlying e = some (.int k)) (hC : P.cellsOf e = 1)
    (hv : Value.okWide P w .any base t v) (h : DataW.Trod enc P w 0 (fun _ => true) true t v d p) : ∃ a len cap zs, v = .slice a len cap ∧ IsRow k w a len cap zs := by
  obtain ⟨a0, len0, cap0, rfl⟩ := okWide_slice ht hv
  obtain ⟨fuel, hf⟩ := h
  rcases open_ints ht he hC hf with ⟨hcs, _⟩ | ⟨x, l, c, zs, hcs, _, hl, hm, hz, _, hcell, hwz⟩
  · simp [Value.cells] at hcs
    obtain ⟨rfl, rfl, rfl⟩ := hcs
    exact ⟨_, _, _, [], rfl, Nat.le_refl _, Nat.zero_le _, Rd.nil, by simp⟩
  · simp [Value.cells] at hcs
    obtain ⟨rfl, rfl, rfl⟩ := hcs
    have hz' : zs.length = cap0 := by simpa using hz
    refine ⟨_, _, _, zs.take len0, rfl, hl, hm, ⟨by simp; omega, fun hn => ?_⟩, fun n hn => hwz n (List.mem_of_mem_take hn)⟩
    obtain ⟨g, o, s⟩ := x
    have hc := hcell 0 (by omega)
    have hspot : s = none := by simpa [Addr.add] using World.cell?_spot hc
    subst hspot
    refine ⟨g, o, rfl, by simpa [Addr.add] using World.block_lt_of_cell? w _ hc, fun j u hu => ?_⟩
    have hj : j < zs.length ∧ j < len0 := by
      have := (List.getElem?_eq_some_iff.1 hu).1
      simp at this
      omega
    have hcj := hcell j hj.1
    rw [List.getElem?_map, List.getElem?_take, if_pos hj.2, List.getElem?_eq_getElem hj.1] at hu
    simp only [Option.map_some, Option.some.injEq] at hu
    rw [← hu]
    have e : (⟨g, o, none⟩ : Addr).add j = ⟨g, o + j, none⟩ := by unfold Addr.add; split <;> simp_all
    rw [e] at hcj
    rw [hcj]
    simp [List.getD, hj.1]
end

end Go.Proofs.Ytglfbihdbdcgiaa

namespace Go.Proofs.Ytglfbihdbdcgiaa
open Go.ChangeShapes Go.WideShapes Go.ChangeAt Go.RowKit Go.Deep

/-- The cells of a list of records of 'size' cells each: one of them. -/
theorem flatMap_at {α : Type} (enc : α → List Value) (size : Nat) (h : ∀ x, (enc x).length = size) (zs : List α) (i j : Nat) (hi : i < zs.length) (hj : j < size) : (zs.flatMap enc)[i * size + j]? = (enc zs[i])[j]? := by
  induction zs generalizing i with
  | nil => simp at hi
  | cons z zs ih =>
    cases i with
    | zero =>
      rw [List.flatMap_cons, List.getElem?_append_left (by rw [h]; omega)]
      simp
    | succ i =>
      rw [List.flatMap_cons, List.getElem?_append_right (by rw [h, Nat.succ_mul]; omega), h, show (i + 1) * size + j - size = i * size + j from by rw [Nat.succ_mul]; omega, ih i (by simpa using hi)]
      simp
theorem flatMap_len {α : Type} (enc : α → List Value) (size : Nat) (h : ∀ x, (enc x).length = size) (zs : List α) : (zs.flatMap enc).length = zs.length * size := by
  induction zs with
  | nil => simp
  | cons z zs ih => rw [List.flatMap_cons, List.length_append, h, ih, List.length_cons, Nat.succ_mul]; omega

def encPair (z : Int × Int) : List Value := [.int .i64 z.1, .int .i64 z.2]
/-- A slice of pairs of integers that came in. -/
def IsPairs (w : World) (a : Option Addr) (len cap : Nat) (zs : List (Int × Int)) : Prop :=
  len ≤ cap ∧ cap ≤ maxLen ∧ Rd w 2 a len (zs.flatMap encPair) ∧ ∀ z ∈ zs, (Lit.int .i64 z.1).wf = true ∧ (Lit.int .i64 z.2).wf = true
theorem IsPairs.length {w : World} {a : Option Addr} {len cap : Nat} {zs : List (Int × Int)} (h : IsPairs w a len cap zs) : zs.length = len := by
  have := h.2.2.1.1
  rw [flatMap_len encPair 2 (fun _ => rfl)] at this
  omega
theorem IsPairs.at_ {w : World} {a : Option Addr} {len cap : Nat} {zs : List (Int × Int)} (h : IsPairs w a len cap zs) (hi : 0 < len) : ∃ g o, a = some ⟨g, o, none⟩ ∧ g < w.heap.size ∧ ∀ i (h : i < zs.length), w.cell? ⟨g, o + i * 2, none⟩ = some (.int .i64 zs[i].1) ∧ w.cell? ⟨g, o + i * 2 + 1, none⟩ = some (.int .i64 zs[i].2) := by
  obtain ⟨g, o, ha, hg, hc⟩ := h.2.2.1.2 hi
  refine ⟨g, o, ha, hg, fun i hi => ⟨hc (i * 2) _ ?_, hc (i * 2 + 1) _ ?_⟩⟩
  · have := flatMap_at encPair 2 (fun _ => rfl) zs i 0 hi (by omega)
    simpa [encPair] using this
  · have := flatMap_at encPair 2 (fun _ => rfl) zs i 1 hi (by omega)
    simpa [encPair] using this
theorem IsPairs.below {w w' : World} {a : Option Addr} {len cap : Nat} {zs : List (Int × Int)} (h : IsPairs w a len cap zs) (hb : Below w.heap.size w w') : IsPairs w' a len cap zs :=
  ⟨h.1, h.2.1, h.2.2.1.below hb, h.2.2.2⟩

theorem trod_int_one {H : Type} {enc : TypeId × Value → H} {P : Program} {w : World} {base : Nat} {spare : Nat → Bool} {held : Bool} {n : Nat} {t : TypeId} {k : IntKind} {v : Value} {y : DataW H × List MemPlace} (ht : P.underlying t = some (.int k))
    (h : DataW.trod enc P w base spare held n t [v] = some y) : ∃ x, v = .int k x ∧ (Lit.int k x).wf = true := by
  obtain ⟨x, e, _, wx⟩ := DataW.trod_int ht h
  simp at e
  exact ⟨x, e, wx⟩

section
variable {H : Type} {enc : TypeId × Value → H} {P : Program} {w : World}
theorem open_pairs {t e : TypeId} {f0 f1 : Field} {v : Value} {base : Nat} {d : DataW H} {p : List MemPlace} (ht : P.underlying t = some (.slice e)) (he : P.underlying e = some (.struct #[f0, f1])) (ce : P.cellsOf e = 2) (o0 : f0.offset = 0) (o1 : f1.offset = 1) (c0 : P.cellsOf f0.type = 1) (c1 : P.cellsOf f1.type = 1)
    (k0 : P.underlying f0.type = some (.int .i64)) (k1 : P.underlying f1.type = some (.int .i64))
    (hv : Value.okWide P w .any base t v) (h : DataW.Trod enc P w 0 (fun _ => true) true t v d p) : ∃ a len cap zs, v = .slice a len cap ∧ IsPairs w a len cap zs := by
  obtain ⟨a0, len0, cap0, rfl⟩ := okWide_slice ht hv
  obtain ⟨fuel, hf⟩ := h
  rcases open_slice_pairs ht he ce o0 o1 c0 c1 hf with ⟨hcs, _⟩ | ⟨a, len, cap, m, n, V0, V1, D0, D1, P0, P1, hcs, _, hl, hm, hmm, _, hi⟩
  · simp [Value.cells] at hcs
    obtain ⟨rfl, rfl, rfl⟩ := hcs
    exact ⟨_, _, _, [], rfl, Nat.le_refl _, Nat.zero_le _, Rd.nil, by simp⟩
  · simp [Value.cells] at hcs
    obtain ⟨rfl, rfl, rfl⟩ := hcs
    have hlm : len0 ≤ m := by rw [hmm]; split <;> omega
    have hx : ∀ i, i < m → ∃ z : Int × Int, V0 i = .int .i64 z.1 ∧ V1 i = .int .i64 z.2 ∧ (Lit.int .i64 z.1).wf = true ∧ (Lit.int .i64 z.2).wf = true := by
      intro i hi'
      obtain ⟨_, _, h0, h1⟩ := hi i hi'
      obtain ⟨x, e0, w0⟩ := trod_int_one k0 h0
      obtain ⟨y, e1, w1⟩ := trod_int_one k1 h1
      exact ⟨(x, y), e0, e1, w0, w1⟩
    let Z : Nat → Int × Int := fun i => if h : i < m then (hx i h).choose else (0, 0)
    have hZ : ∀ i, i < m → V0 i = .int .i64 (Z i).1 ∧ V1 i = .int .i64 (Z i).2 ∧ (Lit.int .i64 (Z i).1).wf = true ∧ (Lit.int .i64 (Z i).2).wf = true := by
      intro i h
      simp only [Z, dif_pos h]
      exact (hx i h).choose_spec
    refine ⟨_, _, _, (List.range len0).map Z, rfl, hl, hm, ⟨by rw [flatMap_len encPair 2 (fun _ => rfl)]; simp, fun hn => ?_⟩, fun z hz => ?_⟩
    · obtain ⟨g, o, s⟩ := a
      have hc := (hi 0 (by omega)).1
      have hspot : s = none := by simpa [Addr.add] using World.cell?_spot hc
      subst hspot
      have ha : ∀ j, (⟨g, o, none⟩ : Addr).add j = ⟨g, o + j, none⟩ := fun j => by unfold Addr.add; split <;> simp_all
      refine ⟨g, o, rfl, by simpa [ha] using World.block_lt_of_cell? w _ hc, fun j u hu => ?_⟩
      have hj : j < len0 * 2 := by
        have := (List.getElem?_eq_some_iff.1 hu).1
        rw [flatMap_len encPair 2 (fun _ => rfl)] at this
        simpa using this
      have hq : j / 2 < len0 := by omega
      have he := flatMap_at encPair 2 (fun _ => rfl) ((List.range len0).map Z) (j / 2) (j % 2) (by simpa using hq) (by omega)
      rw [show j / 2 * 2 + j % 2 = j from by omega, hu] at he
      simp only [List.getElem_map, List.getElem_range] at he
      obtain ⟨h0, h1, _, _⟩ := hi (j / 2) (by omega)
      obtain ⟨z0, z1, _, _⟩ := hZ (j / 2) (by omega)
      rw [ha] at h0 h1
      rcases (by omega : j % 2 = 0 ∨ j % 2 = 1) with hr | hr
      · rw [hr] at he
        simp [encPair] at he
        rw [he, ← z0, ← h0]
        congr 2
        omega
      · rw [hr] at he
        simp [encPair] at he
        rw [he, ← z1, ← h1]
        congr 2
        omega
    · simp only [List.mem_map, List.mem_range] at hz
      obtain ⟨i, hi', rfl⟩ := hz
      obtain ⟨_, _, a, b⟩ := hZ i (by omega)
      exact ⟨a, b⟩
end

end Go.Proofs.Ytglfbihdbdcgiaa

namespace Go.Proofs.Ytglfbihdbdcgiaa
open Go.RowKit Go.Maps

/-- Block b is a map of at most n entries; true is stored at just the keys in acc. -/
def IsSet (P : Program) (k e : TypeId) (w : World) (b n : Nat) (acc : List Int) : Prop :=
  ∃ D : DataW Unit, w.ownsMap P k (plainElem P e) b n D ∧ IsMap D ∧ ∀ x : Int, D.atKey (.int .i64 x) (.lit (.bool false)) = .lit (.bool (decide (x ∈ acc)))

section
variable {P : Program} {k e t : TypeId} {w : World} {b n : Nat} {acc : List Int}
theorem IsSet.made (w : World) (P : Program) (k e : TypeId) : IsSet P k e (w.alloc (.map #[] 0)) w.heap.size 0 [] :=
  ⟨.map [], World.ownsMap_made w P k _, isMap_empty, fun x => by simp [DataW.atKey]⟩
theorem IsSet.fr {w' : World} {B : Nat} {T : List TypeId} {S : List Nat} (h : IsSet P k e w b n acc) (hf : Fr B T S w w') (hs : b ∉ S) : IsSet P k e w' b n acc := by
  obtain ⟨D, ⟨es, clock, hb, rest⟩, h2, h3⟩ := h
  refine ⟨D, ⟨es, clock, ?_, rest⟩, h2, h3⟩
  rw [hf.block b (lt_of_block hb) (.inr ⟨(fun cs t f he => by rw [hb] at he; cases he), hs⟩)]
  exact hb
theorem IsSet.lt (h : IsSet P k e w b n acc) : b < w.heap.size := by
  obtain ⟨D, ⟨es, clock, hb, _⟩, _⟩ := h
  exact lt_of_block hb
theorem IsSet.look (h : IsSet P k e w b n acc) (K : Keyed P k) (hk : P.underlying k = some (.int .i64)) (ht : P.underlying t = some (.map k e)) (he : P.underlying e = some .bool) (hz : (zeroValue e).run P w = .ok (.bool false) w) {x : Int} (hx : (Lit.int .i64 x).wf = true) :
    (Instr.lookup t (.map (some b)) (.int .i64 x) false).run P w = .ok (.bool (decide (x ∈ acc))) w := by
  obtain ⟨D, ho, _, hD⟩ := h
  obtain ⟨v, ps, hrun, hv⟩ := ho.lookup K ht hz (plainElem_bool he false) (keyOf_int_mk hk hx)
  rw [hD x] at hv
  rw [hrun]
  unfold plainElem at hv
  rw [he] at hv
  cases v <;> simp at hv
  rw [hv.1]
theorem IsSet.store (h : IsSet P k e w b n acc) (K : Keyed P k) (hk : P.underlying k = some (.int .i64)) (ht : P.underlying t = some (.map k e)) (he : P.underlying e = some .bool) {x : Int} (hx : (Lit.int .i64 x).wf = true) (hn : n < maxLen) :
    ∃ w', (Instr.mapUpdate t (.map (some b)) (.int .i64 x) (.bool true)).run P w = .ok () w' ∧ IsSet P k e w' b (n + 1) (x :: acc) ∧ w.grownBy w' (some b) := by
  obtain ⟨D, ho, hm, hD⟩ := h
  obtain ⟨w', hrun, h1, h2⟩ := ho.update K ht hn (keyOf_int_mk hk hx) (plainElem_bool he true)
  refine ⟨w', hrun, ⟨_, h1, hm.put _ _, fun y => ?_⟩, h2⟩
  by_cases hy : y = x
  · subst hy
    rw [atKey_put_same hm (by trivial)]
    simp
  · rw [atKey_put_other (by simpa using hy), hD y]
    simp [hy]
end

theorem wpList_set_store {P : Program} {k e t : TypeId} (w : World) {ops : Array Oper} {rest : List Oper} {o : Oper} {a : Act} {Q : Exit → Act → World → Prop}
    (hg : o.guard = none) (m x v : Operand) (hop : o.op = Op.mapUpdate t m x v) {b n : Nat} {acc : List Int} (h : IsSet P k e w b n acc) (K : Keyed P k) (hk : P.underlying k = some (.int .i64)) (ht : P.underlying t = some (.map k e)) (he : P.underlying e = some .bool) (z : Int)
    (hm : a.eval m = .map (some b)) (hx : a.eval x = .int .i64 z) (hv : a.eval v = .bool true) (hz : (Lit.int .i64 z).wf = true) (hn : n < maxLen)
    (hK : ∀ w', IsSet P k e w' b (n + 1) (z :: acc) → w.grownBy w' (some b) → wpList P ops Q rest (a.put o.dst undef) w') : wpList P ops Q (o :: rest) a w := by
  refine wpList_plain hg fun K' hK' => ?_
  obtain ⟨w', hrun, r1, r2⟩ := h.store K hk ht he hz hn
  unfold Oper.wp
  simp [execOp, hop, hm, hx, hv, hrun, Result.andThen]
  exact hK' _ _ (hK w' r1 r2)
end Go.Proofs.Ytglfbihdbdcgiaa
