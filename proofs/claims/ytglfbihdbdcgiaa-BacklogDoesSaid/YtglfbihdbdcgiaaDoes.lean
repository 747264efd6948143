/- The law BacklogDoes, its plain part: what holds between two calls. -/
import Derived.Test.YtglfbihdbdcgiaaLooks
import Derived.Test.YtglfbihdbdcgiaaStage
import Derived.Test.YtglfbihdbdcgiaaFair
namespace Go.Proofs.Ytglfbihdbdcgiaa
open Go.RowKit

/-- Rows as a backlog has them. -/
def Good (rs : List (Int × Bool)) : Prop := rs.length ≤ 256 ∧ (rs.map (·.1)).Nodup

theorem Good.inj {rs : List (Int × Bool)} (h : Good rs) : ∀ i j (hi : i < rs.length) (hj : j < rs.length), rs[i].1 = rs[j].1 → i = j := by
  have hp := List.pairwise_iff_getElem.1 h.2
  intro i j hi hj e
  rcases Nat.lt_trichotomy i j with hl | hl | hl
  · have := hp i j (by simpa using hi) (by simpa using hj) hl
    simp at this
    exact absurd e this
  · exact hl
  · have := hp j i (by simpa using hj) (by simpa using hi) hl
    simp at this
    exact absurd e.symm this

theorem Good.nil : Good [] := ⟨by simp, by simp⟩

theorem Good.push {rs : List (Int × Bool)} (h : Good rs) (n : Int) : Good (pushS rs n) := by
  unfold pushS
  split
  · exact h
  · split
    · rename_i h2
      split
      · exact h
      · refine ⟨by simp; omega, ?_⟩
        rw [List.map_append, List.nodup_append]
        refine ⟨h.2, by simp, fun a ha b hb => ?_⟩
        obtain ⟨r, hr, rfl⟩ := List.mem_map.1 ha
        obtain ⟨i, hi, rfl⟩ := List.getElem_of_mem hr
        have := idx_neg h2 i hi
        simp at this hb
        subst hb
        exact this
    · exact h

theorem Good.drop {rs : List (Int × Bool)} (h : Good rs) (n : Int) : Good (dropS rs n) := by
  unfold dropS
  split
  · rename_i i _
    refine ⟨Nat.le_trans (by rw [List.length_eraseIdx]; split <;> omega) h.1, ?_⟩
    exact h.2.sublist ((List.eraseIdx_sublist rs i).map _)
  · exact h

theorem Good.news {rs : List (Int × Bool)} (h : Good rs) (out : Int) : Good (rs.map (newsRow out)) := by
  refine ⟨by simpa using h.1, ?_⟩
  rw [List.map_map]
  exact h.2

theorem Good.try {rs : List (Int × Bool)} (h : Good rs) (out : Int) : Good (tryS rs out) := by
  unfold tryS
  split
  · split
    · rename_i k hf
      obtain ⟨hk, _, _⟩ := List.findIdx?_eq_some_iff_getElem.1 hf
      refine ⟨by simpa using h.1, ?_⟩
      have : (rs.set k ((rs.getD k (0, false)).1, false)).map (·.1) = rs.map (·.1) := by
        rw [List.map_set]
        have e : (rs.map (·.1))[k]'(by simpa using hk) = (rs.getD k (0, false)).1 := by simp [hk]
        rw [← e]
        exact List.set_getElem_self _
      rw [this]
      exact h.2
    · exact h
  · exact h

/-- A backlog, a reference and the call's variable. -/
def DS (w : World) (p q t : Nat) (K N : Int) (rb : List (Int × Bool)) (ob : Int) (rx : List (Int × Bool)) (ox : Int) (W : World) : Prop :=
  IsB W w.heap.size p rb ob ∧ IsX W w.heap.size q rx ox ∧ Below w.heap.size w W ∧ W.heap[t]? = some (.cells #[.int .i64 K, .int .i64 N] 28 (0, 0))
section
variable {w W W' : World} {p q t : Nat} {K N : Int} {rb rb' rx rx' : List (Int × Bool)} {ob ob' ox ox' : Int}
theorem DS.c1 (h : DS w p q t K N rb ob rx ox W) : W.cell? ⟨t, 1, none⟩ = some (.int .i64 N) := cell_at h.2.2.2 1
theorem DS.below (h : DS w p q t K N rb ob rx ox W) (hb : Below W.heap.size W W') : DS w p q t K N rb ob rx ox W' :=
  ⟨h.1.below hb, h.2.1.below hb, h.2.2.1.trans (hb.mono h.2.2.1.size), (hb.block t (lt_of_block h.2.2.2)).trans h.2.2.2⟩
theorem DS.b (h : DS w p q t K N rb ob rx ox W) {f : FuncId} {args : Array Value} {v : Value}
    (hc : Calls Try.prog f args W fun e W' => e = .returned v ∧ IsB W' w.heap.size p rb' ob' ∧ FrB w.heap.size W W') :
    Calls Try.prog f args W fun e W' => e = .returned v ∧ DS w p q t K N rb' ob' rx ox W' :=
  hc.mono fun _ _ ⟨he, hi, hf⟩ => ⟨he, hi, h.2.1.fr hf (by decide) (by decide), h.2.2.1.trans (hf.below h.2.2.1.size), hf.keep h.2.2.2 (by decide) (by simp)⟩
theorem DS.x (h : DS w p q t K N rb ob rx ox W) {f : FuncId} {args : Array Value} {v : Value}
    (hc : Calls Try.prog f args W fun e W' => e = .returned v ∧ IsX W' w.heap.size q rx' ox' ∧ FrX w.heap.size W W') :
    Calls Try.prog f args W fun e W' => e = .returned v ∧ DS w p q t K N rb ob rx' ox' W' :=
  hc.mono fun _ _ ⟨he, hi, hf⟩ => ⟨he, h.1.fr hf (by decide) (by decide), hi, h.2.2.1.trans (hf.below h.2.2.1.size), hf.keep h.2.2.2 (by decide) (by simp)⟩
end

/-- The worlds of a region that calls the one and then the other. -/
def DT (w : World) (p q t : Nat) (K N : Int) (rs : List (Int × Bool)) (out : Int) (rs1 : List (Int × Bool)) (o1 : Int) (s : Nat) (W : World) : Prop :=
  DS w p q t K N (if 1 ≤ s then rs1 else rs) (if 1 ≤ s then o1 else out) (if 2 ≤ s then rs1 else rs) (if 2 ≤ s then o1 else out) W

def DoesRel (w : World) (q : Nat) (wr : World) (i : Value) : Prop := ∃ (k : Nat) (rs : List (Int × Bool)) (out : Int), i = .int .i64 k ∧ Good rs ∧
  IsB wr w.heap.size w.heap.size rs out ∧ IsX wr w.heap.size q rs out ∧ Below w.heap.size w wr

end Go.Proofs.Ytglfbihdbdcgiaa
