/- Four words in memory, and what a round makes of them. -/
import Derived.Test.YtchdfdimaopdeaaQRot
import Derived.Test.YtchdfdimaopdeaaFlow
namespace Go.Proofs.Ytchdfdimaopdeaa
open Go.RowKit

def addI (a b : Int) : Int := IntKind.u64.wrap (a + b)
def xorI (a b : Int) : Int := bits .xor .u64 a b
/-- Four words. -/
structure W4 where
  a : Int
  b : Int
  c : Int
  d : Int
def roundI (v : W4) : W4 :=
  let a1 := addI v.a v.b
  let c1 := addI v.c v.d
  let b1 := xorI (rotI 8192 2251799813685248 v.b) a1
  let d1 := xorI (rotI 65536 281474976710656 v.d) c1
  let a2 := rotI 4294967296 4294967296 a1
  let c2 := addI c1 b1
  let a3 := addI a2 d1
  let b2 := xorI (rotI 131072 140737488355328 b1) c2
  let d2 := xorI (rotI 2097152 8796093022208 d1) a3
  let c3 := rotI 4294967296 4294967296 c2
  ⟨a3, b2, c3, d2⟩
/-- Four words in a block of its own. -/
def St (T : TypeId) (W : World) (p : Nat) (v : W4) : Prop := W.heap[p]? = some (.cells #[.int .u64 v.a, .int .u64 v.b, .int .u64 v.c, .int .u64 v.d] T (0, 0))
section
variable {T : TypeId} {W W' : World} {p : Nat} {v : W4}
theorem St.lt (h : St T W p v) : p < W.heap.size := lt_of_block h
theorem St.c0 (h : St T W p v) : W.cell? ⟨p, 0, none⟩ = some (.int .u64 v.a) := cell_at h 0
theorem St.c1 (h : St T W p v) : W.cell? ⟨p, 1, none⟩ = some (.int .u64 v.b) := cell_at h 1
theorem St.c2 (h : St T W p v) : W.cell? ⟨p, 2, none⟩ = some (.int .u64 v.c) := cell_at h 2
theorem St.c3 (h : St T W p v) : W.cell? ⟨p, 3, none⟩ = some (.int .u64 v.d) := cell_at h 3
theorem St.z (h : St T W p v) (i : Nat) : W.frozen? ⟨p, i, none⟩ = false := frozen_at h i
theorem St.s0 (h : St T W p v) (x : Int) : St T (W.setCell ⟨p, 0, none⟩ (.int .u64 x)) p ⟨x, v.b, v.c, v.d⟩ := by simpa [St] using block_set h 0 (.int .u64 x)
theorem St.s1 (h : St T W p v) (x : Int) : St T (W.setCell ⟨p, 1, none⟩ (.int .u64 x)) p ⟨v.a, x, v.c, v.d⟩ := by simpa [St] using block_set h 1 (.int .u64 x)
theorem St.s2 (h : St T W p v) (x : Int) : St T (W.setCell ⟨p, 2, none⟩ (.int .u64 x)) p ⟨v.a, v.b, x, v.d⟩ := by simpa [St] using block_set h 2 (.int .u64 x)
theorem St.s3 (h : St T W p v) (x : Int) : St T (W.setCell ⟨p, 3, none⟩ (.int .u64 x)) p ⟨v.a, v.b, v.c, x⟩ := by simpa [St] using block_set h 3 (.int .u64 x)
theorem St.keep (h : St T W p v) (e : W'.heap[p]? = W.heap[p]?) : St T W' p v := e.trans h
theorem St.below (h : St T W p v) (b : Below W.heap.size W W') : St T W' p v := h.keep (b.block p h.lt)
theorem Fr.set1 {a w : World} {p i : Nat} (h : Fr 0 [] [p] a w) (u : Value) : Fr 0 [] [p] a (w.setCell ⟨p, i, none⟩ u) := h.setCell (p := ⟨p, i, none⟩) u (Nat.zero_le _) (.inl (by simp))
end
end Go.Proofs.Ytchdfdimaopdeaa
