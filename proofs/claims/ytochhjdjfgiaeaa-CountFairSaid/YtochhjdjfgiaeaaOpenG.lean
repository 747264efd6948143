/- How arguments that came in are opened: slices of whatever elements, element by element; numbers; texts; their sizes. -/
import Derived.Test.YtochhjdjfgiaeaaRow
import Derived.Test.YtochhjdjfgiaeaaSlA
import Derived.SizedLaws
namespace Go.Proofs.Ytochhjdjfgiaeaa
open Go.ChangeShapes Go.WideShapes Go.ChangeAt Go.RowKit Go.Deep

theorem add_none (g o j : Nat) : (⟨g, o, none⟩ : Addr).add j = ⟨g, o + j, none⟩ := by unfold Addr.add; split <;> simp_all
theorem flatMap_at' {α : Type} (enc : α → List Value) (size : Nat) (h : ∀ x, (enc x).length = size) (zs : List α) (i j : Nat) (hi : i < zs.length) (hj : j < size) : (zs.flatMap enc)[i * size + j]? = (enc zs[i])[j]? := by
  induction zs generalizing i with
  | nil => simp at hi
  | cons z zs ih =>
    cases i with
    | zero =>
      rw [List.flatMap_cons, List.getElem?_append_left (by rw [h]; omega)]
      simp
    | succ i =>
      rw [List.flatMap_cons, List.getElem?_append_right (by rw [h, Nat.succ_mul]; omega), h, show (i + 1) * size + j - size = i * size + j from by rw [Nat.succ_mul]; omega, ih i (by simpa using hi)]
      simp
theorem flatMap_len' {α : Type} (enc : α → List Value) (size : Nat) (h : ∀ x, (enc x).length = size) (zs : List α) : (zs.flatMap enc).length = zs.length * size := by
  induction zs with
  | nil => simp
  | cons z zs ih => rw [List.flatMap_cons, List.length_append, h, ih, List.length_cons, Nat.succ_mul]; omega

section
variable {H : Type} {enc : TypeId × Value → H} {P : Program} {w : World} {base : Nat} {held : Bool}
theorem choose_list {α : Type} (p : Nat → α → Prop) : ∀ n, (∀ i, i < n → ∃ z, p i z) → ∃ zs : List α, zs.length = n ∧ ∀ i (h : i < zs.length), p i zs[i]
  | 0, _ => ⟨[], rfl, fun i h => absurd h (by simp)⟩
  | n + 1, h => by
    obtain ⟨zs, hl, hz⟩ := choose_list p n (fun i hi => h i (by omega))
    obtain ⟨z, hp⟩ := h n (by omega)
    refine ⟨zs ++ [z], by simp [hl], fun i hi => ?_⟩
    by_cases hin : i < zs.length
    · rw [List.getElem_append_left hin]; exact hz i hin
    · have : i = n := by simp at hi; omega
      subst this
      rw [List.getElem_append_right (by omega)]
      simpa [hl] using hp
/-- A slice, opened: 'hel' opens an element. -/
theorem open_list {α : Type} {t e : TypeId} {size fuel : Nat} {cs : List Value} {x : DataW H × List MemPlace} (ht : P.underlying t = some (.slice e)) (hC : P.cellsOf e = size) (hs : 0 < size) (encE : α → List Value) (Good : α → Prop) (hlen : ∀ z, (encE z).length = size)
    (hel : ∀ n cs x, DataW.trod enc P w base (fun _ => true) held n e cs = some x → (∀ m ∈ x.1.weights P e, m ≤ reachBytes) → ∃ z, cs = encE z ∧ Good z)
    (h : DataW.trod enc P w base (fun _ => true) held fuel t cs = some x) (hw : ∀ m ∈ x.1.weights P t, m ≤ reachBytes) :
    ∃ (A : Option Addr) (c : Nat) (zs : List α), cs = [.slice A zs.length c] ∧ zs.length ≤ c ∧ c * P.bytesOf e ≤ reachBytes ∧ c ≤ maxLen ∧ SlA A c ∧ Rd w size A zs.length (zs.flatMap encE) ∧ ∀ z ∈ zs, Good z := by
  rcases open_slice ht h with ⟨hcs, hx⟩ | ⟨a, len, cap, m, n, D, Pl, hcs, hb, hl, hm, hmm, hx, hi⟩
  · exact ⟨none, 0, [], hcs, Nat.le_refl _, by simp, Nat.zero_le _, .inl rfl, Rd.nil, by simp⟩
  · have hmc : m = cap := by simpa using hmm
    subst hmc
    subst hx
    have hwe : ∀ q, q ∈ DataW.weightsAll P e ((List.range len).map D) → q ≤ reachBytes := fun q hq => hw q (by simp [DataW.weights, ht, hq])
    have hall : ∀ (l : List (DataW H)) (d : DataW H), d ∈ l → ∀ q ∈ d.weights P e, q ∈ DataW.weightsAll P e l := by
      intro l
      induction l with
      | nil => intro d hd; simp at hd
      | cons d' l ih =>
        intro d hd q hq
        rw [DataW.weightsAll]
        rcases List.mem_cons.1 hd with e | e
        · subst e; exact List.mem_append_left _ hq
        · exact List.mem_append_right _ (ih d e q hq)
    rw [hC] at hi
    have hcell : ∀ i, i < m → ∃ cs', w.cells? base (a.add (i * size)) size = some cs' ∧ DataW.trod enc P w base (fun _ => true) held n e cs' = some (D i, Pl i) := hi
    obtain ⟨zs, hzl, hz⟩ := choose_list (fun i (z : α) => w.cells? base (a.add (i * size)) size = some (encE z) ∧ Good z) len (fun i hil => by
      obtain ⟨cs', h1, h2⟩ := hcell i (by omega)
      obtain ⟨z, rfl, hg⟩ := hel n cs' _ h2 (fun q hq => hwe q (hall _ (D i) (List.mem_map.2 ⟨i, by simpa using hil, rfl⟩) q hq))
      exact ⟨z, h1, hg⟩)
    have hspot : 0 < m → ∃ g o, a = ⟨g, o, none⟩ ∧ g < w.heap.size := fun h0 => by
      obtain ⟨cs', h1, _⟩ := hcell 0 h0
      obtain ⟨_, hcl, hat⟩ := World.cells?_some h1
      have h2 := hat 0 hs
      obtain ⟨g, o, s⟩ := a
      have hc0 : cs'[0]? = some (cs'[0]'(by omega)) := List.getElem?_eq_getElem (by omega)
      rw [hc0] at h2
      have e0 : (⟨g, o, s⟩ : Addr).add (0 * size) = ⟨g, o, s⟩ := by cases s <;> simp [Addr.add]
      rw [e0] at h2
      have e1 : (⟨g, o, s⟩ : Addr).add 0 = ⟨g, o, s⟩ := by cases s <;> simp [Addr.add]
      rw [e1] at h2
      have hsp : s = none := by simpa using World.cell?_spot h2
      subst hsp
      exact ⟨g, o, rfl, by simpa using World.block_lt_of_cell? w _ h2⟩
    subst hzl
    refine ⟨some a, m, zs, hcs, hl, ?_, hm, ?_, ⟨flatMap_len' encE size hlen zs, fun h0 => ?_⟩, fun z hzm => ?_⟩
    · have e0 : zs.length + (m - zs.length) = m := by omega
      exact hw (m * P.bytesOf e) (by simp [DataW.weights, ht, e0])
    · by_cases h0 : m = 0
      · exact .inl h0
      · obtain ⟨g, o, rfl, _⟩ := hspot (by omega)
        exact .inr ⟨g, o, rfl⟩
    · obtain ⟨g, o, rfl, hg⟩ := hspot (by omega)
      refine ⟨g, o, rfl, hg, fun j u hu => ?_⟩
      have hj : j < zs.length * size := by
        have := (List.getElem?_eq_some_iff.1 hu).1
        rwa [flatMap_len' encE size hlen] at this
      have hji : j / size < zs.length := by rw [Nat.div_lt_iff_lt_mul hs]; exact hj
      obtain ⟨h1, _⟩ := hz (j / size) hji
      obtain ⟨_, hcl, hat⟩ := World.cells?_some h1
      have h2 := hat (j % size) (Nat.mod_lt _ hs)
      have e1 : j / size * size + j % size = j := by rw [Nat.mul_comm]; exact Nat.div_add_mod j size
      have h3 := flatMap_at' encE size hlen zs (j / size) (j % size) hji (Nat.mod_lt _ hs)
      rw [e1, hu] at h3
      rw [← h3, add_add, e1] at h2
      rwa [add_none] at h2
    · obtain ⟨i, hil, rfl⟩ := List.getElem_of_mem hzm
      exact (hz i hil).2

theorem trod_str {t : TypeId} {fuel : Nat} {cs : List Value} {x : DataW H × List MemPlace} (ht : P.underlying t = some .string) (h : DataW.trod enc P w base (fun _ => true) held fuel t cs = some x) (hw : ∀ m ∈ x.1.weights P t, m ≤ reachBytes) :
    ∃ s : ByteArray, cs = [.string s] ∧ s.size ≤ 140737488351232 := by
  obtain ⟨s, h1, h2, _⟩ := DataW.trod_string ht h
  refine ⟨s, h1, ?_⟩
  have := hw s.data.toList.length (by rw [h2]; simp [DataW.weights])
  unfold reachBytes at this
  have e : s.data.toList.length = s.size := by simp
  omega
theorem trod_i64 {t : TypeId} {fuel : Nat} {cs : List Value} {x : DataW H × List MemPlace} (ht : P.underlying t = some (.int .i64)) (h : DataW.trod enc P w base (fun _ => true) held fuel t cs = some x) : ∃ n : Int, cs = [.int .i64 n] ∧ -9223372036854775808 ≤ n ∧ n ≤ 9223372036854775807 := by
  obtain ⟨n, h1, _, h2⟩ := DataW.trod_int ht h
  exact ⟨n, h1, bounds_i64 h2⟩
theorem open_i64 {t : TypeId} {v : Value} {b0 : Nat} {d : DataW H} {p : List MemPlace} (ht : P.underlying t = some (.int .i64))
    (hv : Value.okWide P w .any b0 t v) (h : DataW.Trod enc P w base (fun _ => true) held t v d p) : ∃ n : Int, v = .int .i64 n ∧ -9223372036854775808 ≤ n ∧ n ≤ 9223372036854775807 := by
  obtain ⟨fuel, hf⟩ := h
  obtain ⟨n, h1, h2⟩ := trod_i64 ht hf
  refine ⟨n, ?_, h2⟩
  obtain ⟨m, rfl⟩ := okWide_int ht hv
  simpa [Value.cells] using h1
/-- The weights of one argument. -/
theorem weights_at {ts : List TypeId} {ds : List (DataW H)} (h : (DataW.weightsEach P ts ds).all (· ≤ reachBytes) = true) {j : Nat} {t : TypeId} {d : DataW H} (ht : ts[j]? = some t) (hd : ds[j]? = some d) : ∀ m ∈ d.weights P t, m ≤ reachBytes := by
  intro m hm
  have := List.all_eq_true.1 h m (DataW.weights_mem_each ht hd m hm)
  simpa using this
end
end Go.Proofs.Ytochhjdjfgiaeaa
