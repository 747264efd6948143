/- A slice of structs of two integers that came in, opened; elements of several cells. -/
import Derived.Test.YtglfbihdbdcgiaaRow
import Derived.Deep.SlicePairs
namespace Go.Proofs.Ytglfbihdbdcgiaa
open Go.ChangeShapes Go.WideShapes Go.ChangeAt Go.RowKit Go.Deep

/-- The cells of a list of records of 'size' cells each: one of them. -/
theorem flatMap_at {α : Type} (enc : α → List Value) (size : Nat) (h : ∀ x, (enc x).length = size) (zs : List α) (i j : Nat) (hi : i < zs.length) (hj : j < size) : (zs.flatMap enc)[i * size + j]? = (enc zs[i])[j]? := by
  induction zs generalizing i with
  | nil => simp at hi
  | cons z zs ih =>
    cases i with
    | zero =>
      rw [List.flatMap_cons, List.getElem?_append_left (by rw [h]; omega)]
      simp
    | succ i =>
      rw [List.flatMap_cons, List.getElem?_append_right (by rw [h, Nat.succ_mul]; omega), h, show (i + 1) * size + j - size = i * size + j from by rw [Nat.succ_mul]; omega, ih i (by simpa using hi)]
      simp
theorem flatMap_len {α : Type} (enc : α → List Value) (size : Nat) (h : ∀ x, (enc x).length = size) (zs : List α) : (zs.flatMap enc).length = zs.length * size := by
  induction zs with
  | nil => simp
  | cons z zs ih => rw [List.flatMap_cons, List.length_append, h, ih, List.length_cons, Nat.succ_mul]; omega

def encPair (z : Int × Int) : List Value := [.int .i64 z.1, .int .i64 z.2]
/-- A slice of pairs of integers that came in. -/
def IsPairs (w : World) (a : Option Addr) (len cap : Nat) (zs : List (Int × Int)) : Prop :=
  len ≤ cap ∧ cap ≤ maxLen ∧ Rd w 2 a len (zs.flatMap encPair) ∧ ∀ z ∈ zs, (Lit.int .i64 z.1).wf = true ∧ (Lit.int .i64 z.2).wf = true
theorem IsPairs.length {w : World} {a : Option Addr} {len cap : Nat} {zs : List (Int × Int)} (h : IsPairs w a len cap zs) : zs.length = len := by
  have := h.2.2.1.1
  rw [flatMap_len encPair 2 (fun _ => rfl)] at this
  omega
theorem IsPairs.at_ {w : World} {a : Option Addr} {len cap : Nat} {zs : List (Int × Int)} (h : IsPairs w a len cap zs) (hi : 0 < len) : ∃ g o, a = some ⟨g, o, none⟩ ∧ g < w.heap.size ∧ ∀ i (h : i < zs.length), w.cell? ⟨g, o + i * 2, none⟩ = some (.int .i64 zs[i].1) ∧ w.cell? ⟨g, o + i * 2 + 1, none⟩ = some (.int .i64 zs[i].2) := by
  obtain ⟨g, o, ha, hg, hc⟩ := h.2.2.1.2 hi
  refine ⟨g, o, ha, hg, fun i hi => ⟨hc (i * 2) _ ?_, hc (i * 2 + 1) _ ?_⟩⟩
  · have := flatMap_at encPair 2 (fun _ => rfl) zs i 0 hi (by omega)
    simpa [encPair] using this
  · have := flatMap_at encPair 2 (fun _ => rfl) zs i 1 hi (by omega)
    simpa [encPair] using this
theorem IsPairs.below {w w' : World} {a : Option Addr} {len cap : Nat} {zs : List (Int × Int)} (h : IsPairs w a len cap zs) (hb : Below w.heap.size w w') : IsPairs w' a len cap zs :=
  ⟨h.1, h.2.1, h.2.2.1.below hb, h.2.2.2⟩

theorem trod_int_one {H : Type} {enc : TypeId × Value → H} {P : Program} {w : World} {base : Nat} {spare : Nat → Bool} {held : Bool} {n : Nat} {t : TypeId} {k : IntKind} {v : Value} {y : DataW H × List MemPlace} (ht : P.underlying t = some (.int k))
    (h : DataW.trod enc P w base spare held n t [v] = some y) : ∃ x, v = .int k x ∧ (Lit.int k x).wf = true := by
  obtain ⟨x, e, _, wx⟩ := DataW.trod_int ht h
  simp at e
  exact ⟨x, e, wx⟩

section
variable {H : Type} {enc : TypeId × Value → H} {P : Program} {w : World}
theorem open_pairs {t e : TypeId} {f0 f1 : Field} {v : Value} {base : Nat} {d : DataW H} {p : List MemPlace} (ht : P.underlying t = some (.slice e)) (he : P.underlying e = some (.struct #[f0, f1])) (ce : P.cellsOf e = 2) (o0 : f0.offset = 0) (o1 : f1.offset = 1) (c0 : P.cellsOf f0.type = 1) (c1 : P.cellsOf f1.type = 1)
    (k0 : P.underlying f0.type = some (.int .i64)) (k1 : P.underlying f1.type = some (.int .i64))
    (hv : Value.okWide P w .any base t v) (h : DataW.Trod enc P w 0 (fun _ => true) true t v d p) : ∃ a len cap zs, v = .slice a len cap ∧ IsPairs w a len cap zs := by
  obtain ⟨a0, len0, cap0, rfl⟩ := okWide_slice ht hv
  obtain ⟨fuel, hf⟩ := h
  rcases open_slice_pairs ht he ce o0 o1 c0 c1 hf with ⟨hcs, _⟩ | ⟨a, len, cap, m, n, V0, V1, D0, D1, P0, P1, hcs, _, hl, hm, hmm, _, hi⟩
  · simp [Value.cells] at hcs
    obtain ⟨rfl, rfl, rfl⟩ := hcs
    exact ⟨_, _, _, [], rfl, Nat.le_refl _, Nat.zero_le _, Rd.nil, by simp⟩
  · simp [Value.cells] at hcs
    obtain ⟨rfl, rfl, rfl⟩ := hcs
    have hlm : len0 ≤ m := by rw [hmm]; split <;> omega
    have hx : ∀ i, i < m → ∃ z : Int × Int, V0 i = .int .i64 z.1 ∧ V1 i = .int .i64 z.2 ∧ (Lit.int .i64 z.1).wf = true ∧ (Lit.int .i64 z.2).wf = true := by
      intro i hi'
      obtain ⟨_, _, h0, h1⟩ := hi i hi'
      obtain ⟨x, e0, w0⟩ := trod_int_one k0 h0
      obtain ⟨y, e1, w1⟩ := trod_int_one k1 h1
      exact ⟨(x, y), e0, e1, w0, w1⟩
    let Z : Nat → Int × Int := fun i => if h : i < m then (hx i h).choose else (0, 0)
    have hZ : ∀ i, i < m → V0 i = .int .i64 (Z i).1 ∧ V1 i = .int .i64 (Z i).2 ∧ (Lit.int .i64 (Z i).1).wf = true ∧ (Lit.int .i64 (Z i).2).wf = true := by
      intro i h
      simp only [Z, dif_pos h]
      exact (hx i h).choose_spec
    refine ⟨_, _, _, (List.range len0).map Z, rfl, hl, hm, ⟨by rw [flatMap_len encPair 2 (fun _ => rfl)]; simp, fun hn => ?_⟩, fun z hz => ?_⟩
    · obtain ⟨g, o, s⟩ := a
      have hc := (hi 0 (by omega)).1
      have hspot : s = none := by simpa [Addr.add] using World.cell?_spot hc
      subst hspot
      have ha : ∀ j, (⟨g, o, none⟩ : Addr).add j = ⟨g, o + j, none⟩ := fun j => by unfold Addr.add; split <;> simp_all
      refine ⟨g, o, rfl, by simpa [ha] using World.block_lt_of_cell? w _ hc, fun j u hu => ?_⟩
      have hj : j < len0 * 2 := by
        have := (List.getElem?_eq_some_iff.1 hu).1
        rw [flatMap_len encPair 2 (fun _ => rfl)] at this
        simpa using this
      have hq : j / 2 < len0 := by omega
      have he := flatMap_at encPair 2 (fun _ => rfl) ((List.range len0).map Z) (j / 2) (j % 2) (by simpa using hq) (by omega)
      rw [show j / 2 * 2 + j % 2 = j from by omega, hu] at he
      simp only [List.getElem_map, List.getElem_range] at he
      obtain ⟨h0, h1, _, _⟩ := hi (j / 2) (by omega)
      obtain ⟨z0, z1, _, _⟩ := hZ (j / 2) (by omega)
      rw [ha] at h0 h1
      rcases (by omega : j % 2 = 0 ∨ j % 2 = 1) with hr | hr
      · rw [hr] at he
        simp [encPair] at he
        rw [he, ← z0, ← h0]
        congr 2
        omega
      · rw [hr] at he
        simp [encPair] at he
        rw [he, ← z1, ← h1]
        congr 2
        omega
    · simp only [List.mem_map, List.mem_range] at hz
      obtain ⟨i, hi', rfl⟩ := hz
      obtain ⟨_, _, a, b⟩ := hZ i (by omega)
      exact ⟨a, b⟩
end

end Go.Proofs.Ytglfbihdbdcgiaa
