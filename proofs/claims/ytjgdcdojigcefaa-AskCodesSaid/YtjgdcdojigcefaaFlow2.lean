/- More steps of a walk through a drawn region: state that is handed on; append. -/
import Derived.Test.YtjgdcdojigcefaaFlow
import Derived.Test.YtjgdcdojigcefaaMem3
namespace Go.Proofs.Ytjgdcdojigcefaa
open Go.RowKit

section
variable {P : Program} {ops : Array Oper} {R : Act → (World → Prop) → Prop} {o : Oper} {i : Nat} {l vis : List Nat} {S C : World → Prop} {a : Act}
/-- A call that hands back something, keeps S, and of which H holds until the next one. -/
theorem flow_gcall (H : Value → World → Prop) (ho : ops.toList[i]? = some o) (hv : boundIn vis o = true) (hw : Region.wanted o (yielded ops a.tmps) = true) (hb : behindB ops i l = true)
    (h : ∀ w, S w → C w → ∃ f args w', (execOp a.eval o).run P w = .ok (.enter f args) w' ∧ Calls P f args w' fun e w'' => ∃ v, e = .returned v ∧ S w'' ∧ H v w'')
    (h' : ∀ v, (∃ w, S w ∧ H v w) → FlowAll P ops R l (i :: vis) (fun w => S w ∧ True) (H v) (a.put o.dst v)) : FlowAll P ops R (i :: l) vis S C a :=
  ⟨o, by rw [← Array.getElem?_toList]; exact ho, hv, .inr ⟨hw, hb, S, .inr fun _ h => h, fun _ _ => True, H, fun w hs hc => by
    obtain ⟨f, args, w', h1, h2⟩ := h w hs hc
    exact .inr (.inr ⟨f, args, w', h1, h2.mono fun e w'' ⟨v, he, hs', hk⟩ => ⟨v, he, hs', trivial, hk⟩⟩), fun v ⟨w, h1, _, h2⟩ => h' v ⟨w, h1, h2⟩⟩⟩
/-- An operation of the language's own that makes or writes memory: of what it hands back H holds until the next one. -/
theorem flow_gmake (H : Value → World → Prop) (ho : ops.toList[i]? = some o) (hv : boundIn vis o = true) (hw : Region.wanted o (yielded ops a.tmps) = true) (hb : behindB ops i l = true)
    (h : ∀ w, S w → C w → ∃ v w', (execOp a.eval o).run P w = .ok (.value v) w' ∧ S w' ∧ H v w')
    (h' : ∀ v, (∃ w, S w ∧ H v w) → FlowAll P ops R l (i :: vis) (fun w => S w ∧ True) (H v) (a.put o.dst v)) : FlowAll P ops R (i :: l) vis S C a :=
  ⟨o, by rw [← Array.getElem?_toList]; exact ho, hv, .inr ⟨hw, hb, S, .inr fun _ h => h, fun _ _ => True, H, fun w hs hc => by
    obtain ⟨v, w', h1, h2, h3⟩ := h w hs hc
    exact .inl ⟨v, w', h1, h2, trivial, h3⟩, fun v ⟨w, h1, _, h2⟩ => h' v ⟨w, h1, h2⟩⟩⟩
end
/-- An operation that appends what may be read to a row that is the caller's own. -/
theorem exec_append_rd {P : Program} {o : Oper} {ρ : Operand → Value} {w : World} {S : World → Prop} {H : Value → World → Prop} (s x : Operand) (t : TypeId)
    (ho : o.op = .call { callee := .builtin .append, args := #[s, x], argTypes := #[t, t] })
    (base : Nat) (e : TypeId) (i : TypeInfo) (z : Value) (size bytes : Nat) (ht : P.underlying t = some (.slice e)) (hi : P.info? e = some i) (hz : i.zero = some z)
    (hsize : i.size = size) (hby : i.bytes = bytes) (hzs : z.cells.size = size) (hsz : 0 < size)
    (v : Value) (n : Nat) (xs : List Value) (hs : ρ s = v) (hown : w.ownsRow base e size v n xs)
    (A : Option Addr) (m c : Nat) (news : List Value) (hx : ρ x = .slice A m c) (hr : Rd w size A m news) (h1 : ∀ u ∈ news, u.oneCell' = true)
    (h63 : n + m ≤ maxLen) (hbytes : (n + m) * bytes ≤ 140737488355328) (hbase : base ≤ w.heap.size)
    (h : ∀ v' w', w'.ownsRow base e size v' (n + m) (xs ++ news) → w.grownBy w' v.ownBlock → S w' ∧ H v' w') :
    ∃ v' w', (execOp ρ o).run P w = .ok (.value v') w' ∧ S w' ∧ H v' w' := by
  obtain ⟨v', w', hrun, h2, h3, _⟩ := run_append_rd (P := P) w base t o.type e i z size bytes ht hi hz hsize hby hzs hsz v n xs hown A m c news hr h1 h63 hbytes hbase
  refine ⟨v', w', ?_, h v' w' h2 h3⟩
  unfold execOp
  simp only [ho, resolve, invoke, builtin, Sem.run_bind, Sem.run_pure, Result.andThen_ok, List.map_toArray, List.map_cons, List.map_nil, hs, hx, hrun]

end Go.Proofs.Ytjgdcdojigcefaa
