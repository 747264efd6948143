/- Plain facts: calls of a law on makers and takers, and what was made is taken. -/
import Derived.Test.YtlljeghlfijdnaaCObj
import Derived.Test.YtlljeghlfijdnaaOpen
namespace Go.Proofs.Ytlljeghlfijdnaa
open Go.RowKit

/-- A call as chapter 01's laws have it. -/
structure Op1 where
  k : Int
  n : Int
  s : ByteArray
  l : Int
  m : Int
def encOp (z : Op1) : List Value := [.int .i64 z.k, .int .i64 z.n, .string z.s, .int .i64 z.l, .int .i64 z.m]
def OkOp (z : Op1) : Prop := I64 z.n ∧ z.s.size ≤ 140737488351232
/-- Such calls in memory. -/
def IsOps (w : World) (A : Option Addr) (c : Nat) (zs : List Op1) : Prop := zs.length ≤ c ∧ c ≤ maxLen ∧ Rd w 5 A zs.length (zs.flatMap encOp) ∧ ∀ z ∈ zs, OkOp z
theorem IsOps.at_ {w : World} {A : Option Addr} {c : Nat} {zs : List Op1} (h : IsOps w A c zs) (hi : 0 < zs.length) : ∃ g o, A = some ⟨g, o, none⟩ ∧ g < w.heap.size ∧ ∀ i (h : i < zs.length), w.cell? ⟨g, o + i * 5, none⟩ = some (.int .i64 zs[i].k) ∧ w.cell? ⟨g, o + i * 5 + 1, none⟩ = some (.int .i64 zs[i].n) ∧ w.cell? ⟨g, o + i * 5 + 2, none⟩ = some (.string zs[i].s) ∧ w.cell? ⟨g, o + i * 5 + 3, none⟩ = some (.int .i64 zs[i].l) ∧ w.cell? ⟨g, o + i * 5 + 4, none⟩ = some (.int .i64 zs[i].m) := by
  obtain ⟨g, o, ha, hg, hc⟩ := h.2.2.1.2 hi
  have key : ∀ i (h : i < zs.length) j (hj : j < 5) v, (encOp zs[i])[j]? = some v → w.cell? ⟨g, o + (i * 5 + j), none⟩ = some v := fun i hi j hj v hv => hc _ _ (by rw [flatMap_at' encOp 5 (fun _ => rfl) zs i j hi hj]; exact hv)
  refine ⟨g, o, ha, hg, fun i hi => ⟨key i hi 0 (by omega) _ rfl, ?_, ?_, ?_, ?_⟩⟩
  · have := key i hi 1 (by omega) _ rfl
    rwa [← Nat.add_assoc] at this
  · have := key i hi 2 (by omega) _ rfl
    rwa [← Nat.add_assoc] at this
  · have := key i hi 3 (by omega) _ rfl
    rwa [← Nat.add_assoc] at this
  · have := key i hi 4 (by omega) _ rfl
    rwa [← Nat.add_assoc] at this

theorem putS_ok {s : List Nat × Bool} {c : List Nat} (h : (putS s c).2 = false) : s.2 = false ∧ (putS s c).1 = s.1 ++ c ∧ s.1.length + c.length ≤ 262144 := by
  unfold putS at h ⊢
  split at h
  · cases h
  · rename_i h'
    rw [if_neg h']
    refine ⟨?_, rfl, by omega⟩
    cases hs : s.2 with
    | false => rfl
    | true => exact absurd (.inl hs) h'
/-- All three cells of a call. -/
def cellsOp (z : Op1) : List Nat := numB z.n ++ (textB (natsOf z.s) ++ flagB (z.k == 1))
def putOp (s : List Nat × Bool) (z : Op1) : List Nat × Bool := putS (putS (putS s (numB z.n)) (textB (natsOf z.s))) (flagB (z.k == 1))
def mkAll (zs : List Op1) : List Nat × Bool := zs.foldl putOp ([], false)
theorem mkAll_succ (zs : List Op1) (k : Nat) (h : k < zs.length) : mkAll (zs.take (k + 1)) = putOp (mkAll (zs.take k)) zs[k] := by
  unfold mkAll
  rw [List.take_succ_eq_append_getElem h, List.foldl_append]
  rfl
theorem mkAll_len (zs : List Op1) : (mkAll zs).1.length ≤ 262144 := by
  have key : ∀ (zs : List Op1) (s : List Nat × Bool), s.1.length ≤ 262144 → (zs.foldl putOp s).1.length ≤ 262144 := by
    intro zs
    induction zs with
    | nil => exact fun s h => h
    | cons z zs ih => exact fun s h => ih _ (putS_len (putS_len (putS_len h _) _) _)
  exact key zs _ (by simp)
theorem putOp_ok {s : List Nat × Bool} {z : Op1} (h : (putOp s z).2 = false) : s.2 = false ∧ (putOp s z).1 = s.1 ++ cellsOp z ∧ (natsOf z.s).length ≤ 262144 := by
  obtain ⟨h1, h2, h3⟩ := putS_ok h
  obtain ⟨h4, h5, h6⟩ := putS_ok h1
  obtain ⟨h7, h8, h9⟩ := putS_ok h4
  refine ⟨h7, ?_, ?_⟩
  · unfold putOp
    rw [h2, h5, h8]
    unfold cellsOp
    simp
  · unfold textB at h6
    simp at h6
    omega
theorem mkAll_ok (zs : List Op1) (h : (mkAll zs).2 = false) : (mkAll zs).1 = zs.flatMap cellsOp ∧ ∀ z ∈ zs, (natsOf z.s).length ≤ 262144 := by
  have key : ∀ (zs : List Op1) (s : List Nat × Bool), (zs.foldl putOp s).2 = false → s.2 = false ∧ (zs.foldl putOp s).1 = s.1 ++ zs.flatMap cellsOp ∧ ∀ z ∈ zs, (natsOf z.s).length ≤ 262144 := by
    intro zs
    induction zs with
    | nil => exact fun s h => ⟨h, by simp, by simp⟩
    | cons z zs ih =>
      intro s h
      obtain ⟨h1, h2, h3⟩ := ih _ h
      obtain ⟨h4, h5, h6⟩ := putOp_ok h1
      refine ⟨h4, ?_, fun z' hz' => ?_⟩
      · rw [List.foldl_cons, h2, h5]
        simp
      · rcases List.mem_cons.1 hz' with rfl | hz'
        · exact h6
        · exact h3 z' hz'
  obtain ⟨_, h2, h3⟩ := key zs _ h
  exact ⟨by unfold mkAll; rw [h2]; simp, h3⟩
/-- What is left behind k calls. -/
def restOp (zs : List Op1) (k : Nat) : List Nat := (zs.drop k).flatMap cellsOp
theorem restOp_succ (zs : List Op1) (k : Nat) (h : k < zs.length) : restOp zs k = numB zs[k].n ++ (textB (natsOf zs[k].s) ++ (flagB (zs[k].k == 1) ++ restOp zs (k + 1))) := by
  unfold restOp
  rw [List.drop_eq_getElem_cons h, List.flatMap_cons]
  unfold cellsOp
  simp
end Go.Proofs.Ytlljeghlfijdnaa
