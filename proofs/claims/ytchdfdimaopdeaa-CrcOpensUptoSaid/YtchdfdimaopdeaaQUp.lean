/- How arguments that came in are opened where their bulk is bounded: slices element by element, bytes, slices of bytes. -/
import Derived.Test.YtchdfdimaopdeaaQOpenU
import Derived.Deep.CondSized
namespace Go.Proofs.Ytchdfdimaopdeaa
open Go.ChangeShapes Go.WideShapes Go.ChangeAt Go.RowKit Go.Deep

theorem bulk_one {H : Type} (d : DataW H) : 1 ≤ Rows.uptoBulk d := by
  cases d with
  | lit l => cases l <;> simp [Rows.uptoBulk]
  | nil => simp [Rows.uptoBulk]
  | ptr d => simp [Rows.uptoBulk]
  | slice elems spare => simp [Rows.uptoBulk]
  | agg parts => simp [Rows.uptoBulk]
  | iface t d => simp [Rows.uptoBulk]
  | map entries => simp [Rows.uptoBulk]
  | held h => simp [Rows.uptoBulk]
theorem bulk_part {H : Type} {d : DataW H} {l : List (DataW H)} (h : d ∈ l) : Rows.uptoBulk d ≤ Rows.uptoBulkAll l := by
  induction l with
  | nil => cases h
  | cons x r ih =>
    simp only [Rows.uptoBulkAll]
    rcases List.mem_cons.1 h with e | e
    · subst e; omega
    · have := ih e; omega
theorem bulk_len {H : Type} (l : List (DataW H)) : l.length ≤ Rows.uptoBulkAll l := by
  induction l with
  | nil => simp [Rows.uptoBulkAll]
  | cons x r ih => have := bulk_one x; simp only [Rows.uptoBulkAll, List.length_cons]; omega
theorem bulk_at {H : Type} {ds gs : List (DataW H)} (hk : Rows.uptoSmall H (ds ++ gs) = true) {j : Nat} {d : DataW H} (hd : ds[j]? = some d) : Rows.uptoBulk d ≤ 1048576 := by
  have h : Rows.uptoBulkAll (ds ++ gs) ≤ 1048576 := of_decide_eq_true hk
  have hm : d ∈ ds ++ gs := List.mem_append_left _ (List.mem_of_getElem? hd)
  have := bulk_part hm
  omega

section
variable {H : Type} {enc : TypeId × Value → H} {P : Program} {w : World} {base : Nat} {held : Bool}
/-- A slice, opened, its elements tied to their readings. -/
theorem open_listU {α : Type} {t e : TypeId} {size fuel : Nat} {cs : List Value} {x : DataW H × List MemPlace} (ht : P.underlying t = some (.slice e)) (hC : P.cellsOf e = size) (hs : 0 < size) (encE : α → List Value) (Good : DataW H → α → Prop) (hlen : ∀ z, (encE z).length = size)
    (hel : ∀ n cs x, DataW.trod enc P w base (fun _ => true) held n e cs = some x → Rows.uptoBulk x.1 ≤ 1048576 → ∃ z, cs = encE z ∧ Good x.1 z)
    (h : DataW.trod enc P w base (fun _ => true) held fuel t cs = some x) (hw : Rows.uptoBulk x.1 ≤ 1048576) :
    ∃ (A : Option Addr) (c : Nat) (zs : List α) (ds : List (DataW H)), cs = [.slice A zs.length c] ∧ zs.length ≤ c ∧ c ≤ 1048576 ∧ SlA A c ∧ Rd w size A zs.length (zs.flatMap encE) ∧ ds.length = zs.length ∧ Rows.uptoBulkAll ds + 1 ≤ Rows.uptoBulk x.1 ∧ ∀ i (h1 : i < ds.length) (h2 : i < zs.length), Good ds[i] zs[i] := by
  rcases open_slice ht h with ⟨hcs, hx⟩ | ⟨a, len, cap, m, n, D, Pl, hcs, hb, hl, hm, hmm, hx, hi⟩
  · exact ⟨none, 0, [], [], hcs, Nat.le_refl _, by simp, .inl rfl, Rd.nil, rfl, by have := bulk_one x.1; simp only [Rows.uptoBulkAll]; omega, fun i h1 => absurd h1 (by simp)⟩
  · have hmc : m = cap := by simpa using hmm
    subst hmc
    subst hx
    simp only [Rows.uptoBulk] at hw ⊢
    have hsp := bulk_len ((List.range (m - len)).map fun i => D (len + i))
    have hel0 := bulk_len ((List.range len).map D)
    simp only [List.length_map, List.length_range] at hsp hel0
    have hcapb : m ≤ 1048576 := by omega
    rw [hC] at hi
    have hcell : ∀ i, i < m → ∃ cs', w.cells? base (a.add (i * size)) size = some cs' ∧ DataW.trod enc P w base (fun _ => true) held n e cs' = some (D i, Pl i) := hi
    obtain ⟨zs, hzl, hz⟩ := choose_list (fun i (z : α) => w.cells? base (a.add (i * size)) size = some (encE z) ∧ Good (D i) z) len (fun i hil => by
      obtain ⟨cs', h1, h2⟩ := hcell i (by omega)
      have hDm : D i ∈ (List.range len).map D := List.mem_map.2 ⟨i, by simpa using hil, rfl⟩
      have hbi := bulk_part hDm
      obtain ⟨z, rfl, hg⟩ := hel n cs' _ h2 (by show Rows.uptoBulk (D i) ≤ _; omega)
      exact ⟨z, h1, hg⟩)
    have hspot : 0 < m → ∃ g o, a = ⟨g, o, none⟩ ∧ g < w.heap.size := fun h0 => by
      obtain ⟨cs', h1, _⟩ := hcell 0 h0
      obtain ⟨_, hcl, hat⟩ := World.cells?_some h1
      have h2 := hat 0 hs
      obtain ⟨g, o, s⟩ := a
      have hc0 : cs'[0]? = some (cs'[0]'(by omega)) := List.getElem?_eq_getElem (by omega)
      rw [hc0] at h2
      have e0 : (⟨g, o, s⟩ : Addr).add (0 * size) = ⟨g, o, s⟩ := by cases s <;> simp [Addr.add]
      rw [e0] at h2
      have e1 : (⟨g, o, s⟩ : Addr).add 0 = ⟨g, o, s⟩ := by cases s <;> simp [Addr.add]
      rw [e1] at h2
      have hsp : s = none := by simpa using World.cell?_spot h2
      subst hsp
      exact ⟨g, o, rfl, by simpa using World.block_lt_of_cell? w _ h2⟩
    subst hzl
    refine ⟨some a, m, zs, (List.range zs.length).map D, hcs, hl, hcapb, ?_, ⟨flatMap_len' encE size hlen zs, fun h0 => ?_⟩, by simp, by omega, fun i h1 h2 => ?_⟩
    · by_cases h0 : m = 0
      · exact .inl h0
      · obtain ⟨g, o, rfl, _⟩ := hspot (by omega)
        exact .inr ⟨g, o, rfl⟩
    · obtain ⟨g, o, rfl, hg⟩ := hspot (by omega)
      refine ⟨g, o, rfl, hg, fun j u hu => ?_⟩
      have hj : j < zs.length * size := by
        have := (List.getElem?_eq_some_iff.1 hu).1
        rwa [flatMap_len' encE size hlen] at this
      have hji : j / size < zs.length := by rw [Nat.div_lt_iff_lt_mul hs]; exact hj
      obtain ⟨h1, _⟩ := hz (j / size) hji
      obtain ⟨_, hcl, hat⟩ := World.cells?_some h1
      have h2 := hat (j % size) (Nat.mod_lt _ hs)
      have e1 : j / size * size + j % size = j := by rw [Nat.mul_comm]; exact Nat.div_add_mod j size
      have h3 := flatMap_at' encE size hlen zs (j / size) (j % size) hji (Nat.mod_lt _ hs)
      rw [e1, hu] at h3
      rw [← h3, add_add, e1] at h2
      rwa [add_none] at h2
    · simp only [List.getElem_map, List.getElem_range]
      exact (hz i h2).2
theorem trod_bytesU {t e : TypeId} {fuel : Nat} {cs : List Value} {x : DataW H × List MemPlace} (ht : P.underlying t = some (.slice e)) (he : P.underlying e = some (.int .u8)) (hC : P.cellsOf e = 1)
    (h : DataW.trod enc P w base (fun _ => true) held fuel t cs = some x) (hw : Rows.uptoBulk x.1 ≤ 1048576) : ∃ A c bs, cs = [.slice A bs.length c] ∧ IsBy w A c bs ∧ bs.length + 1 ≤ Rows.uptoBulk x.1 := by
  obtain ⟨A, c, zs, ds, h1, h2, h3, h4, h5, h6, h7, h8⟩ := open_listU (α := Nat) ht hC (by omega) (fun b => [u8v b]) (fun _ b => b < 256) (fun _ => rfl) (fun n cs x hx _ => by
    obtain ⟨z, rfl, _, hz⟩ := DataW.trod_int he hx
    have := bounds_u8 hz
    obtain ⟨m, rfl⟩ : ∃ m : Nat, z = m := ⟨z.toNat, by omega⟩
    exact ⟨m, rfl, by omega⟩) h hw
  have := bulk_len ds
  refine ⟨A, c, zs, h1, ⟨h2, by omega, ?_, ?_, h4⟩, by omega⟩
  · rw [map_flat zs]
    exact h5
  · intro b hb
    obtain ⟨i, hi, rfl⟩ := List.getElem_of_mem hb
    exact h8 i (by omega) hi
theorem open_bytesU {t e : TypeId} {v : Value} {b0 : Nat} {d : DataW H} {p : List MemPlace} (ht : P.underlying t = some (.slice e)) (he : P.underlying e = some (.int .u8)) (hC : P.cellsOf e = 1)
    (hv : Value.okWide P w .any b0 t v) (h : DataW.Trod enc P w base (fun _ => true) held t v d p) (hw : Rows.uptoBulk d ≤ 1048576) : ∃ A c bs, v = .slice A bs.length c ∧ IsBy w A c bs ∧ bs.length + 1 ≤ Rows.uptoBulk d := by
  obtain ⟨a0, len0, cap0, rfl⟩ := okWide_slice ht hv
  obtain ⟨fuel, hf⟩ := h
  obtain ⟨A, c, bs, h1, h2⟩ := trod_bytesU ht he hC hf hw
  simp [Value.cells] at h1
  obtain ⟨rfl, rfl, rfl⟩ := h1
  exact ⟨_, _, bs, rfl, h2⟩
end
end Go.Proofs.Ytchdfdimaopdeaa
