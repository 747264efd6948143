/- What a maker's call keeps beside; the iterator over lists whose goods are short. -/
import Derived.Test.YtjgdcdojigcefaaIAll
import Derived.Test.YtjgdcdojigcefaaIMay
import Derived.Test.YtjgdcdojigcefaaCObj
import Derived.Test.YtjgdcdojigcefaaCText
namespace Go.Proofs.Ytjgdcdojigcefaa
open Go.RowKit Go.Shelf
attribute [local go_sem] Oper.semAt_some

theorem own_grown {w w' : World} {row : Option Nat} {base : Nat} {e : TypeId} {size n : Nat} {v : Value} {xs : List Value} (ho : w.ownsRow base e size v n xs) (hg : w.grownBy w' row) (hr : ∀ r, row = some r → ∃ o : Obj, w.heap[r]? = some o ∧ o.isCells = false) : w'.ownsRow base e size v n xs := by
  refine ho.kept hg ?_
  rcases ho.2 with ⟨rfl, _⟩ | ⟨g, cap, cur, rfl, _, hgb, _⟩
  · exact .inl rfl
  · refine .inr fun e' => ?_
    obtain ⟨o, h1, h2⟩ := hr g (by rw [← e']; simp [Value.ownBlock])
    rw [hgb] at h1
    injection h1 with h1
    subst h1
    simp [Obj.isCells] at h2
theorem block_grown {w w' : World} {row : Option Nat} {k : Nat} {cs : Array Value} {t : TypeId} {f : Nat × Nat} (h : w.heap[k]? = some (.cells cs t f)) (hg : w.grownBy w' row) (hr : ∀ r, row = some r → ∃ o : Obj, w.heap[r]? = some o ∧ o.isCells = false) : w'.heap[k]? = some (.cells cs t f) := by
  rw [hg.block _ (lt_of_block h) ?_]
  · exact h
  · intro e
    obtain ⟨o, k1, k2⟩ := hr _ e.symm
    rw [h] at k1
    injection k1 with k1
    subst k1
    simp [Obj.isCells] at k2
/-- What a maker's call keeps beside. -/
theorem mk_keep {w W : World} {p : Nat} {s s' : List Nat × Bool} {f : FuncId} {args : Array Value} (h : Mk w p s W) (hc : ∀ G, IsM W p G s → Calls Try.prog f args W (RetM p G s' W)) :
    Calls Try.prog f args W fun e W' => e = .returned (.pointer (some ⟨p, 0, none⟩)) ∧ Mk w p s' W' ∧ KeepsOthers W W' ∧ Below w.heap.size W W' ∧ ∀ (k : Nat) (cs : Array Value) (T : TypeId) (f : Nat × Nat), W.heap[k]? = some (Obj.cells cs T f) → T ≠ 75 → T ≠ 5 → W'.heap[k]? = some (Obj.cells cs T f) := by
  obtain ⟨G, h1, h2, h3, h4⟩ := h
  refine (hc G h1).mono fun e W' ⟨G', he, hM, hf, hg⟩ => ⟨he, ⟨G', hM, h2, fun g hg' => ?_, h4.trans (hf.belowM h2 h3 h4.size)⟩, ?_, hf.belowM h2 h3 h4.size, fun k cs T f hk h5 h6 => ?_⟩
  · rcases hg with e | ⟨g', e, hn⟩
    · exact h3 g (e ▸ hg')
    · rw [hg'] at e
      injection e with e
      have := h4.size
      omega
  · obtain ⟨v, hp, ho, hv⟩ := h1
    refine ⟨hf.size, fun k o hk hn => (hf.block k (lt_of_block hk) (.inr ⟨fun _ _ _ _ => by simp, fun hm => ?_⟩)).trans hk⟩
    rcases List.mem_cons.1 hm with rfl | hm
    · rw [hp] at hk
      injection hk with hk
      subst hk
      simp [Obj.isCells] at hn
    · obtain ⟨_, cs, hb⟩ := own_block ho (k := k) (by rw [hv]; simpa using hm)
      rw [hb] at hk
      injection hk with hk
      subst hk
      simp [Obj.isCells] at hn
  · obtain ⟨v, hp, ho, hv⟩ := h1
    refine hf.keep hk (by simp) fun hm => ?_
    rcases List.mem_cons.1 hm with rfl | hm
    · rw [hp] at hk
      injection hk with hk
      injection hk with _ hk
      exact h5 hk.symm
    · obtain ⟨_, cs', hb⟩ := own_block ho (k := k) (by rw [hv]; simpa using hm)
      rw [hb] at hk
      injection hk with hk
      injection hk with _ hk
      exact h6 hk.symm
theorem mkk_num {w W : World} {p : Nat} {s : List Nat × Bool} (h : Mk w p s W) (n : Int) (hn : I64 n) : Calls Try.prog 26 #[.pointer (some ⟨p, 0, none⟩), .int .i64 n] W fun e W' => e = .returned (.pointer (some ⟨p, 0, none⟩)) ∧ Mk w p (putS s (numB n)) W' ∧ KeepsOthers W W' ∧ Below w.heap.size W W' ∧ ∀ (k : Nat) (cs : Array Value) (T : TypeId) (f : Nat × Nat), W.heap[k]? = some (Obj.cells cs T f) → T ≠ 75 → T ≠ 5 → W'.heap[k]? = some (Obj.cells cs T f) :=
  mk_keep h fun G hM => mnum_any p G s n W hM hn
theorem mkk_text {w W : World} {p : Nat} {s : List Nat × Bool} (h : Mk w p s W) (t : ByteArray) (ht : t.size ≤ 140737488351232) : Calls Try.prog 54 #[.pointer (some ⟨p, 0, none⟩), .string t] W fun e W' => e = .returned (.pointer (some ⟨p, 0, none⟩)) ∧ Mk w p (putS s (textB (natsOf t))) W' ∧ KeepsOthers W W' ∧ Below w.heap.size W W' ∧ ∀ (k : Nat) (cs : Array Value) (T : TypeId) (f : Nat × Nat), W.heap[k]? = some (Obj.cells cs T f) → T ≠ 75 → T ≠ 5 → W'.heap[k]? = some (Obj.cells cs T f) :=
  mk_keep h fun G hM => mtext_any p G s t W hM ht
/-- An item whose good is short. -/
abbrev PIt : Type := { z : It // z.good.size ≤ 16 ∧ -9223372036854775808 ≤ z.n ∧ z.n ≤ 9223372036854775807 }
theorem pits_of : ∀ {rs : List It}, (∀ z ∈ rs, z.good.size ≤ 16 ∧ -9223372036854775808 ≤ z.n ∧ z.n ≤ 9223372036854775807) → ∃ qs : List PIt, qs.map (·.1) = rs
  | [], _ => ⟨[], rfl⟩
  | z :: rs, h => by
    obtain ⟨qs, hq⟩ := pits_of (fun y hy => h y (by simp [hy]) : ∀ z ∈ rs, z.good.size ≤ 16 ∧ -9223372036854775808 ≤ z.n ∧ z.n ≤ 9223372036854775807)
    exact ⟨⟨z, h z (by simp)⟩ :: qs, by simp [hq]⟩
def encRowP (z : PIt) : Array Value := #[.string z.1.good, .int .i64 z.1.n]
set_option maxRecDepth 100000 in
set_option maxHeartbeats 2000000 in
theorem all_iterP (n n₀ Bx : Nat) (A : Option Addr) (c : Nat) (rs : List It) (qs : List PIt) (hq : qs.map (·.1) = rs) (w : World) (hb : w.cell? ⟨Bx, 0, none⟩ = some (.slice A rs.length c)) (hr : Rd w 2 A rs.length (rs.flatMap encI)) (hm : rs.length ≤ 4611686018427387903) (hn : 1 ≤ n) (hA : ∀ a, A = some a → 0 < rs.length → a.block < n₀) :
    SeqStopsK Fence.wide n Try.prog 70 #[.pointer (some ⟨Bx, 0, none⟩)] encRowP (Below n₀) (fun xs => xs = qs) (fun pre => pre <+: qs) rs.length w := fun l J Jx W hW hJ hJx hY h0 => by
  have hBn := World.block_lt_of_cell? w _ hb
  have hb' : W.cell? ⟨Bx, 0, none⟩ = some (.slice A rs.length c) := (hW.cell (p := ⟨Bx, 0, none⟩) hBn).trans hb
  have HRD := Lib.hid (hr.below hW)
  have HA := Lib.hid hA
  have hql : qs.length = rs.length := by rw [← hq]; simp
  have HQA : Hid (∀ k (h1 : k < qs.length) (h2 : k < rs.length), qs[k].1 = rs[k]) := Lib.hid (fun k h1 h2 => by simp only [← hq, List.getElem_map])
  have HQL := Lib.hid hql
  clear hb hW hr hA hq hql
  refine CallsIn.mono (R := fun e W' => (∃ v, e = .returned v) ∧ ((∃ xs, xs = qs ∧ J xs W') ∨ (∃ pre : List PIt, pre <+: qs ∧ Jx pre W'))) ?_ (fun _ _ h => h)
  refine callsIn_of_wp Try.func70 rfl trivial ?_ rfl
  simp only [Try.ntmps70, List.size_toArray, List.length_cons, List.length_nil, Nat.reduceAdd, Nat.reduceSub, Array.replicate_succ, Array.replicate_zero, List.push_toArray, List.append_toArray, List.nil_append, List.cons_append]
  gi_wp2
  gi_loopw [7] (fun i wr => ∃ k : Nat, k ≤ rs.length ∧ i = .int .i64 k ∧ J (qs.take k) wr ∧ (∀ a, A = some a → ∀ o, wr.cell? ⟨a.block, o, none⟩ = W.cell? ⟨a.block, o, none⟩) ∧ W.heap.size ≤ wr.heap.size) (fun i _ => rs.length - (intOf i).toNat)
  case atStart => exact ⟨0, Nat.zero_le _, rfl, by simpa using h0, fun _ _ _ => rfl, Nat.le_refl _⟩
  case round =>
    obtain ⟨k, hk, rfl, hJk, hsame, hsz⟩ := hrel
    have HS := Lib.hid hsame
    have HJk := Lib.hid hJk
    clear hsame hJk
    by_cases hlt : k < rs.length
    · obtain ⟨g, o, rfl, hg, c0', c1'⟩ := rdi_at HRD.out hlt
      have hg0 : g < n₀ := HA.out _ rfl (by omega)
      have hkq : k < qs.length := by have := HQL.out; omega
      have c0 : wr.cell? ⟨g, o + k * 2, none⟩ = some (.string rs[k].good) := (HS.out _ rfl _).trans c0'
      have c1 : wr.cell? ⟨g, o + k * 2 + 1, none⟩ = some (.int .i64 rs[k].n) := (HS.out _ rfl _).trans c1'
      obtain ⟨x, hx⟩ : ∃ x, qs[k] = x := ⟨_, rfl⟩
      rw [← HQA.out k hkq hlt, hx] at c0 c1
      have HX := Lib.hid hx
      have hJa := hJ _ _ (wr.alloc (.cells #[.string x.1.good, .int .i64 x.1.n] 46)) none HJk.out (World.grownBy_alloc wr _ none) (by intro r e; cases e)
      obtain ⟨fn, tmps, assign, body, hy, hR⟩ := hY (qs.take k) x _ hJa (by simp; omega)
      dsimp only [encRowP] at hy
      clear c0' c1' hx
      gi_wp2
      refine hR.mono ?_
      rintro e W3 (⟨rfl, hJ3, hk3⟩ | ⟨rfl, hJx3⟩)
      · have hs3 : ∀ o', W3.cell? ⟨g, o', none⟩ = W.cell? ⟨g, o', none⟩ := fun o' => by
          rw [hk3.cell (p := ⟨g, o', none⟩) hg0, World.cell?_alloc_lt wr _ ⟨g, o', none⟩ (by simp; omega)]
          exact HS.out _ rfl o'
        have hz3 : W.heap.size ≤ W3.heap.size := by have := hk3.size; simp at this; omega
        have HS3 := Lib.hid hs3
        have HJ3 := Lib.hid hJ3
        clear hs3 hJ3 hk3
        gi_wp2
        go_roundw
        case rel =>
          refine ⟨k + 1, by omega, by go_num, ?_, fun a ha o => by cases ha; exact HS3.out o, hz3⟩
          rw [List.take_succ_eq_append_getElem hkq, HX.out]
          exact HJ3.out
        case measure => simp [intOf]; omega
      · have HJx := Lib.hid hJx3
        clear hJx3
        gi_wp2
        refine bodyPost_ret (results_none rfl _ _ _) rfl ?_
        refine ⟨⟨_, rfl⟩, .inr ⟨qs.take (k + 1), List.take_prefix _ _, ?_⟩⟩
        rw [List.take_succ_eq_append_getElem hkq, HX.out]
        exact HJx.out
    · gi_wp2
      go_end0
      refine ⟨⟨_, rfl⟩, .inl ⟨qs, rfl, ?_⟩⟩
      have := HJk.out
      rwa [List.take_of_length_le (by have := HQL.out; omega)] at this
end Go.Proofs.Ytjgdcdojigcefaa
