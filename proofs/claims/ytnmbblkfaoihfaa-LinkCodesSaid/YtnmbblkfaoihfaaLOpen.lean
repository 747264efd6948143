/- How arguments of chapter 12's laws are opened: packets, operations. -/
import Derived.Test.YtnmbblkfaoihfaaLEn
import Derived.Test.YtnmbblkfaoihfaaOpen
namespace Go.Proofs.Ytnmbblkfaoihfaa
open Go.ChangeShapes Go.WideShapes Go.ChangeAt Go.RowKit Go.Deep

section
variable {H : Type} {enc : TypeId × Value → H} {w : World} {base : Nat} {held : Bool}
/-- A packet that came in. -/
def OkPk (w : World) (seq ack : Int) (A : Option Addr) (c : Nat) (bs : List Nat) : Prop := (-9223372036854775808 ≤ seq ∧ seq ≤ 9223372036854775807) ∧ (-9223372036854775808 ≤ ack ∧ ack ≤ 9223372036854775807) ∧ IsBy w A c bs
set_option maxRecDepth 100000 in
theorem elPkt {n : Nat} {cs : List Value} {x : DataW H × List MemPlace} (h : DataW.trod enc Try.prog w base (fun _ => true) held n 43 cs = some x) (hw : ∀ m ∈ x.1.weights Try.prog 43, m ≤ reachBytes) :
    ∃ (seq ack : Int) (A : Option Addr) (c : Nat) (bs : List Nat), cs = [.int .i64 seq, .int .i64 ack, .slice A bs.length c] ∧ OkPk w seq ack A c bs := by
  obtain ⟨xs, n', _, hx, hcl, hlen, hg⟩ := DataW.trod_struct Try.underlying43 h
  have hcl' : cs.length = 3 := hcl.trans (by kernel_rfl)
  match cs, hcl', xs, hlen with
  | [c0, c1, c2], _, [y0, y1, y2], _ =>
    have e0 := hg 0 _ rfl
    have e1 := hg 1 _ rfl
    have e2 := hg 2 _ rfl
    obtain ⟨K, e0, hK⟩ := trod_i64 (cs := [c0]) Try.underlying3 (x := y0) e0
    obtain ⟨N, e1, hN⟩ := trod_i64 (cs := [c1]) Try.underlying3 (x := y1) e1
    obtain ⟨A, c, bs, e2, hb⟩ := trod_bytes (cs := [c2]) (x := y2) Try.underlying41 Try.underlying5 (by kernel_rfl) (by kernel_rfl) e2 (fun q hq => hw q (by rw [hx]; simp [DataW.weights, DataW.weightsEach, Try.underlying43]; exact .inr (.inr hq)))
    simp only [List.cons.injEq, and_true] at e0 e1 e2
    exact ⟨K, N, A, c, bs, by simp [e0, e1, e2], hK, hN, hb⟩
set_option maxRecDepth 100000 in
theorem elOp {n : Nat} {cs : List Value} {x : DataW H × List MemPlace} (h : DataW.trod enc Try.prog w base (fun _ => true) held n 57 cs = some x) (hw : ∀ m ∈ x.1.weights Try.prog 57, m ≤ reachBytes) :
    ∃ (kind now seq ack : Int) (A : Option Addr) (c : Nat) (bs : List Nat), cs = [.int .i64 kind, .int .i64 now, .int .i64 seq, .int .i64 ack, .slice A bs.length c] ∧ (-9223372036854775808 ≤ now ∧ now ≤ 9223372036854775807) ∧ OkPk w seq ack A c bs := by
  obtain ⟨xs, n', _, hx, hcl, hlen, hg⟩ := DataW.trod_struct Try.underlying57 h
  have hcl' : cs.length = 5 := hcl.trans (by kernel_rfl)
  match cs, hcl', xs, hlen with
  | [c0, c1, c2, c3, c4], _, [y0, y1, y2], _ =>
    have e0 := hg 0 _ rfl
    have e1 := hg 1 _ rfl
    have e2 := hg 2 _ rfl
    obtain ⟨K, e0, _⟩ := trod_i64 (cs := [c0]) Try.underlying3 (x := y0) e0
    obtain ⟨N, e1, hN⟩ := trod_i64 (cs := [c1]) Try.underlying3 (x := y1) e1
    obtain ⟨seq, ack, A, c, bs, e2, hb⟩ := elPkt (cs := [c2, c3, c4]) (x := y2) e2 (fun q hq => hw q (by rw [hx]; simp [DataW.weights, DataW.weightsEach, Try.underlying57]; exact .inr (.inr hq)))
    simp only [List.cons.injEq, and_true] at e0 e1 e2
    exact ⟨K, N, seq, ack, A, c, bs, by simp [e0, e1, e2], hN, hb⟩
set_option maxRecDepth 100000 in
theorem open_op {v : Value} {b0 : Nat} {d : DataW H} {p : List MemPlace} (hv : Value.okWide Try.prog w .any b0 57 v) (h : DataW.Trod enc Try.prog w base (fun _ => true) held 57 v d p) (hw : ∀ m ∈ d.weights Try.prog 57, m ≤ reachBytes) :
    ∃ (kind now seq ack : Int) (A : Option Addr) (c : Nat) (bs : List Nat), v = .agg #[.int .i64 kind, .int .i64 now, .int .i64 seq, .int .i64 ack, .slice A bs.length c] ∧ (-9223372036854775808 ≤ now ∧ now ≤ 9223372036854775807) ∧ OkPk w seq ack A c bs := by
  obtain ⟨cs, rfl, _⟩ := okWide_struct Try.underlying57 hv
  obtain ⟨fuel, hf⟩ := h
  obtain ⟨kind, now, seq, ack, A, c, bs, e, h1⟩ := elOp hf hw
  refine ⟨kind, now, seq, ack, A, c, bs, ?_, h1⟩
  have : cs = #[.int .i64 kind, .int .i64 now, .int .i64 seq, .int .i64 ack, .slice A bs.length c] := by
    obtain ⟨l⟩ := cs
    simp only [Value.cells] at e
    rw [← e]
  rw [this]
end
end Go.Proofs.Ytnmbblkfaoihfaa
