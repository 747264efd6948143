/- The contracts of package backlog's methods, second part. -/
import Derived.Test.YtglfbihdbdcgiaaBack
import Derived.BigRegion
namespace Go.Proofs.Ytglfbihdbdcgiaa
open Go.RowKit

/-- A backlog in memory: rows, and the one that is out. -/
def IsB (w : World) (B p : Nat) (rs : List (Int × Bool)) (out : Int) : Prop :=
  B ≤ p ∧ ∃ v, w.heap[p]? = some (.cells #[v, .int .i64 out] 58 (0, 0)) ∧ w.ownsRow B 60 2 v rs.length (flat rs)

/-- What a call may turn of a backlog. -/
abbrev FrB (B : Nat) (w w' : World) : Prop := Fr B [58, 60] [] w w'

theorem IsB.below {w w' : World} {B p : Nat} {rs : List (Int × Bool)} {out : Int} (h : IsB w B p rs out) (hb : Below w.heap.size w w') : IsB w' B p rs out := by
  obtain ⟨hB, v, hp, ho⟩ := h
  have hf : Fr B [] [] w w' := Fr.of_below hb
  exact ⟨hB, v, hf.keep hp (by simp) (by simp), hf.own ho (by simp) (by simp)⟩
theorem IsB.fr {w w' : World} {B B' p : Nat} {T : List TypeId} {rs : List (Int × Bool)} {out : Int} (h : IsB w B p rs out) (hf : Fr B' T [] w w') (h1 : 58 ∉ T) (h2 : 60 ∉ T) : IsB w' B p rs out := by
  obtain ⟨hB, v, hp, ho⟩ := h
  exact ⟨hB, v, hf.keep hp h1 (by simp), hf.own ho h2 (by simp)⟩
theorem IsB.lt {w : World} {B p : Nat} {rs : List (Int × Bool)} {out : Int} (h : IsB w B p rs out) : p < w.heap.size := by
  obtain ⟨hB, v, hp, ho⟩ := h
  exact lt_of_block hp

set_option maxHeartbeats 400000 in
theorem new_any (w : World) (B : Nat) (hB : B ≤ w.heap.size) :
    Calls Try.prog 10 #[] w fun e w' => e = .returned (.pointer (some ⟨w.heap.size, 0, none⟩)) ∧ IsB w' B w.heap.size [] 0 ∧ Below w.heap.size w w' := by
  go_enter Try.func10, Try.ntmps10
  go_wp2
  go_ret
  exact ⟨rfl, ⟨hB, .slice none 0 0, block_new _ _, World.ownsRow_nil _ _ _ _⟩, (Below.refl _ _).alloc (Nat.le_refl _) _⟩

set_option maxHeartbeats 400000 in
theorem place_nil (n : Int) (w : World) :
    Calls Try.prog 15 #[.pointer none, .int .i64 n] w fun e w' => e = .returned (.int .i64 (-1)) ∧ Below w.heap.size w w' := by
  go_enter Try.func15, Try.ntmps15
  go_wp2
  go_ret
  exact ⟨rfl, (Below.refl _ _).alloc (Nat.le_refl _) _⟩

set_option maxHeartbeats 400000 in
theorem place_any (n : Int) (B p : Nat) (rs : List (Int × Bool)) (out : Int) (w : World) (h : IsB w B p rs out) (hm : rs.length ≤ 256) :
    Calls Try.prog 15 #[.pointer (some ⟨p, 0, none⟩), .int .i64 n] w fun e w' => e = .returned (.int .i64 (idx (fun r => r.1 == n) rs)) ∧ Below w.heap.size w w' := by
  obtain ⟨hB, v, hp, ho⟩ := h
  obtain ⟨A, c, rfl, hnc, hcm, hrd, hA⟩ := own_slice ho
  have hp' : (w.alloc (.cells #[.int .i64 n] 3)).cell? ⟨p, 0, none⟩ = some (.slice A rs.length c) := cell_at (block_alloc hp _) 0
  have hmf : ∀ (fn : Fn) (first cap : Array Value) (w : World), (Instr.makeFunc fn first cap).run Try.prog w = .ok (.func fn first cap) w := fun _ _ _ _ => rfl
  have hrd' : Rd (w.alloc (.cells #[.int .i64 n] 3)) 2 A rs.length (flat rs) := hrd.below ((Below.refl _ _).alloc (Nat.le_refl _) _)
  have HRD := Lib.hid hrd'
  clear hrd hrd' hA ho hp
  go_enter Try.func15, Try.ntmps15
  go_wp2_with (go_at_call 32; refine (indexPlace n _ rs _ _ _ (by unfold maxLen; omega) HRD.out ?_).mono ?_; (exact cell_at (block_new _ _) 0); rintro e w1 ⟨rfl, hb1⟩)
  go_ret
  exact ⟨rfl, ((Below.refl _ _).alloc (Nat.le_refl _) _).trans (hb1.mono (by simp))⟩

end Go.Proofs.Ytglfbihdbdcgiaa
