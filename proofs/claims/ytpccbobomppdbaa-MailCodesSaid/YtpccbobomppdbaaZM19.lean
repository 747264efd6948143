/- Joined: What a maker's call keeps beside; the iterator over lists whose goods are short. ask.put, ask.Body and ask.Encode. -/
import Derived.Test.YtpccbobomppdbaaZM3
import Derived.Test.YtpccbobomppdbaaZM8
import Derived.Test.YtpccbobomppdbaaZM17
import Derived.Test.YtpccbobomppdbaaZM18
import Derived.Test.YtpccbobomppdbaaZM10
namespace Go.Proofs.Ytpccbobomppdbaa
open Go.RowKit Go.Shelf
attribute [local go_sem] Oper.semAt_some

theorem own_grown {w w' : World} {row : Option Nat} {base : Nat} {e : TypeId} {size n : Nat} {v : Value} {xs : List Value} (ho : w.ownsRow base e size v n xs) (hg : w.grownBy w' row) (hr : ∀ r, row = some r → ∃ o : Obj, w.heap[r]? = some o ∧ o.isCells = false) : w'.ownsRow base e size v n xs := by
  refine ho.kept hg ?_
  rcases ho.2 with ⟨rfl, _⟩ | ⟨g, cap, cur, rfl, _, hgb, _⟩
  · exact .inl rfl
  · refine .inr fun e' => ?_
    obtain ⟨o, h1, h2⟩ := hr g (by rw [← e']; simp [Value.ownBlock])
    rw [hgb] at h1
    injection h1 with h1
    subst h1
    simp [Obj.isCells] at h2
theorem block_grown {w w' : World} {row : Option Nat} {k : Nat} {cs : Array Value} {t : TypeId} {f : Nat × Nat} (h : w.heap[k]? = some (.cells cs t f)) (hg : w.grownBy w' row) (hr : ∀ r, row = some r → ∃ o : Obj, w.heap[r]? = some o ∧ o.isCells = false) : w'.heap[k]? = some (.cells cs t f) := by
  rw [hg.block _ (lt_of_block h) ?_]
  · exact h
  · intro e
    obtain ⟨o, k1, k2⟩ := hr _ e.symm
    rw [h] at k1
    injection k1 with k1
    subst k1
    simp [Obj.isCells] at k2
/-- What a maker's call keeps beside. -/
theorem mk_keep {w W : World} {p : Nat} {s s' : List Nat × Bool} {f : FuncId} {args : Array Value} (h : Mk w p s W) (hc : ∀ G, IsM W p G s → Calls Try.prog f args W (RetM p G s' W)) :
    Calls Try.prog f args W fun e W' => e = .returned (.pointer (some ⟨p, 0, none⟩)) ∧ Mk w p s' W' ∧ KeepsOthers W W' ∧ Below w.heap.size W W' ∧ ∀ (k : Nat) (cs : Array Value) (T : TypeId) (f : Nat × Nat), W.heap[k]? = some (Obj.cells cs T f) → T ≠ 88 → T ≠ 5 → W'.heap[k]? = some (Obj.cells cs T f) := by
  obtain ⟨G, h1, h2, h3, h4⟩ := h
  refine (hc G h1).mono fun e W' ⟨G', he, hM, hf, hg⟩ => ⟨he, ⟨G', hM, h2, fun g hg' => ?_, h4.trans (hf.belowM h2 h3 h4.size)⟩, ?_, hf.belowM h2 h3 h4.size, fun k cs T f hk h5 h6 => ?_⟩
  · rcases hg with e | ⟨g', e, hn⟩
    · exact h3 g (e ▸ hg')
    · rw [hg'] at e
      injection e with e
      have := h4.size
      omega
  · obtain ⟨v, hp, ho, hv⟩ := h1
    refine ⟨hf.size, fun k o hk hn => (hf.block k (lt_of_block hk) (.inr ⟨fun _ _ _ _ => by simp, fun hm => ?_⟩)).trans hk⟩
    rcases List.mem_cons.1 hm with rfl | hm
    · rw [hp] at hk
      injection hk with hk
      subst hk
      simp [Obj.isCells] at hn
    · obtain ⟨_, cs, hb⟩ := own_block ho (k := k) (by rw [hv]; simpa using hm)
      rw [hb] at hk
      injection hk with hk
      subst hk
      simp [Obj.isCells] at hn
  · obtain ⟨v, hp, ho, hv⟩ := h1
    refine hf.keep hk (by simp) fun hm => ?_
    rcases List.mem_cons.1 hm with rfl | hm
    · rw [hp] at hk
      injection hk with hk
      injection hk with _ hk
      exact h5 hk.symm
    · obtain ⟨_, cs', hb⟩ := own_block ho (k := k) (by rw [hv]; simpa using hm)
      rw [hb] at hk
      injection hk with hk
      injection hk with _ hk
      exact h6 hk.symm
theorem mkk_num {w W : World} {p : Nat} {s : List Nat × Bool} (h : Mk w p s W) (n : Int) (hn : I64 n) : Calls Try.prog 20 #[.pointer (some ⟨p, 0, none⟩), .int .i64 n] W fun e W' => e = .returned (.pointer (some ⟨p, 0, none⟩)) ∧ Mk w p (putS s (numB n)) W' ∧ KeepsOthers W W' ∧ Below w.heap.size W W' ∧ ∀ (k : Nat) (cs : Array Value) (T : TypeId) (f : Nat × Nat), W.heap[k]? = some (Obj.cells cs T f) → T ≠ 88 → T ≠ 5 → W'.heap[k]? = some (Obj.cells cs T f) :=
  mk_keep h fun G hM => mnum_any p G s n W hM hn
theorem mkk_text {w W : World} {p : Nat} {s : List Nat × Bool} (h : Mk w p s W) (t : ByteArray) (ht : t.size ≤ 140737488351232) : Calls Try.prog 22 #[.pointer (some ⟨p, 0, none⟩), .string t] W fun e W' => e = .returned (.pointer (some ⟨p, 0, none⟩)) ∧ Mk w p (putS s (textB (natsOf t))) W' ∧ KeepsOthers W W' ∧ Below w.heap.size W W' ∧ ∀ (k : Nat) (cs : Array Value) (T : TypeId) (f : Nat × Nat), W.heap[k]? = some (Obj.cells cs T f) → T ≠ 88 → T ≠ 5 → W'.heap[k]? = some (Obj.cells cs T f) :=
  mk_keep h fun G hM => mtext_any p G s t W hM ht
/-- An item whose good is short. -/
abbrev PIt : Type := { z : It // z.good.size ≤ 16 ∧ -9223372036854775808 ≤ z.n ∧ z.n ≤ 9223372036854775807 }
theorem pits_of : ∀ {rs : List It}, (∀ z ∈ rs, z.good.size ≤ 16 ∧ -9223372036854775808 ≤ z.n ∧ z.n ≤ 9223372036854775807) → ∃ qs : List PIt, qs.map (·.1) = rs
  | [], _ => ⟨[], rfl⟩
  | z :: rs, h => by
    obtain ⟨qs, hq⟩ := pits_of (fun y hy => h y (by simp [hy]) : ∀ z ∈ rs, z.good.size ≤ 16 ∧ -9223372036854775808 ≤ z.n ∧ z.n ≤ 9223372036854775807)
    exact ⟨⟨z, h z (by simp)⟩ :: qs, by simp [hq]⟩
def encRowP (z : PIt) : Array Value := #[.string z.1.good, .int .i64 z.1.n]
set_option maxRecDepth 100000 in
set_option maxHeartbeats 2000000 in
theorem all_iterP (n n₀ Bx : Nat) (A : Option Addr) (c : Nat) (rs : List It) (qs : List PIt) (hq : qs.map (·.1) = rs) (w : World) (hb : w.cell? ⟨Bx, 0, none⟩ = some (.slice A rs.length c)) (hr : Rd w 2 A rs.length (rs.flatMap encI)) (hm : rs.length ≤ 4611686018427387903) (hn : 1 ≤ n) (hA : ∀ a, A = some a → 0 < rs.length → a.block < n₀) :
    SeqStopsK Fence.wide n Try.prog 54 #[.pointer (some ⟨Bx, 0, none⟩)] encRowP (Below n₀) (fun xs => xs = qs) (fun pre => pre <+: qs) rs.length w := fun l J Jx W hW hJ hJx hY h0 => by
  have hBn := World.block_lt_of_cell? w _ hb
  have hb' : W.cell? ⟨Bx, 0, none⟩ = some (.slice A rs.length c) := (hW.cell (p := ⟨Bx, 0, none⟩) hBn).trans hb
  have HRD := Lib.hid (hr.below hW)
  have HA := Lib.hid hA
  have hql : qs.length = rs.length := by rw [← hq]; simp
  have HQA : Hid (∀ k (h1 : k < qs.length) (h2 : k < rs.length), qs[k].1 = rs[k]) := Lib.hid (fun k h1 h2 => by simp only [← hq, List.getElem_map])
  have HQL := Lib.hid hql
  clear hb hW hr hA hq hql
  refine CallsIn.mono (R := fun e W' => (∃ v, e = .returned v) ∧ ((∃ xs, xs = qs ∧ J xs W') ∨ (∃ pre : List PIt, pre <+: qs ∧ Jx pre W'))) ?_ (fun _ _ h => h)
  refine callsIn_of_wp Try.func54 rfl trivial ?_ rfl
  simp only [Try.ntmps54, List.size_toArray, List.length_cons, List.length_nil, Nat.reduceAdd, Nat.reduceSub, Array.replicate_succ, Array.replicate_zero, List.push_toArray, List.append_toArray, List.nil_append, List.cons_append]
  gi_wp2
  gi_loopw [7] (fun i wr => ∃ k : Nat, k ≤ rs.length ∧ i = .int .i64 k ∧ J (qs.take k) wr ∧ (∀ a, A = some a → ∀ o, wr.cell? ⟨a.block, o, none⟩ = W.cell? ⟨a.block, o, none⟩) ∧ W.heap.size ≤ wr.heap.size) (fun i _ => rs.length - (intOf i).toNat)
  case atStart => exact ⟨0, Nat.zero_le _, rfl, by simpa using h0, fun _ _ _ => rfl, Nat.le_refl _⟩
  case round =>
    obtain ⟨k, hk, rfl, hJk, hsame, hsz⟩ := hrel
    have HS := Lib.hid hsame
    have HJk := Lib.hid hJk
    clear hsame hJk
    by_cases hlt : k < rs.length
    · obtain ⟨g, o, rfl, hg, c0', c1'⟩ := rdi_at HRD.out hlt
      have hg0 : g < n₀ := HA.out _ rfl (by omega)
      have hkq : k < qs.length := by have := HQL.out; omega
      have c0 : wr.cell? ⟨g, o + k * 2, none⟩ = some (.string rs[k].good) := (HS.out _ rfl _).trans c0'
      have c1 : wr.cell? ⟨g, o + k * 2 + 1, none⟩ = some (.int .i64 rs[k].n) := (HS.out _ rfl _).trans c1'
      obtain ⟨x, hx⟩ : ∃ x, qs[k] = x := ⟨_, rfl⟩
      rw [← HQA.out k hkq hlt, hx] at c0 c1
      have HX := Lib.hid hx
      have hJa := hJ _ _ (wr.alloc (.cells #[.string x.1.good, .int .i64 x.1.n] 46)) none HJk.out (World.grownBy_alloc wr _ none) (by intro r e; cases e)
      obtain ⟨fn, tmps, assign, body, hy, hR⟩ := hY (qs.take k) x _ hJa (by simp; omega)
      dsimp only [encRowP] at hy
      clear c0' c1' hx
      gi_wp2
      refine hR.mono ?_
      rintro e W3 (⟨rfl, hJ3, hk3⟩ | ⟨rfl, hJx3⟩)
      · have hs3 : ∀ o', W3.cell? ⟨g, o', none⟩ = W.cell? ⟨g, o', none⟩ := fun o' => by
          rw [hk3.cell (p := ⟨g, o', none⟩) hg0, World.cell?_alloc_lt wr _ ⟨g, o', none⟩ (by simp; omega)]
          exact HS.out _ rfl o'
        have hz3 : W.heap.size ≤ W3.heap.size := by have := hk3.size; simp at this; omega
        have HS3 := Lib.hid hs3
        have HJ3 := Lib.hid hJ3
        clear hs3 hJ3 hk3
        gi_wp2
        go_roundw
        case rel =>
          refine ⟨k + 1, by omega, by go_num, ?_, fun a ha o => by cases ha; exact HS3.out o, hz3⟩
          rw [List.take_succ_eq_append_getElem hkq, HX.out]
          exact HJ3.out
        case measure => simp [intOf]; omega
      · have HJx := Lib.hid hJx3
        clear hJx3
        gi_wp2
        refine bodyPost_ret (results_none rfl _ _ _) rfl ?_
        refine ⟨⟨_, rfl⟩, .inr ⟨qs.take (k + 1), List.take_prefix _ _, ?_⟩⟩
        rw [List.take_succ_eq_append_getElem hkq, HX.out]
        exact HJx.out
    · gi_wp2
      go_end0
      refine ⟨⟨_, rfl⟩, .inl ⟨qs, rfl, ?_⟩⟩
      have := HJk.out
      rwa [List.take_of_length_le (by have := HQL.out; omega)] at this
end Go.Proofs.Ytpccbobomppdbaa

namespace Go.Proofs.Ytpccbobomppdbaa
open Go.RowKit Go.Shelf
attribute [local go_sem] Oper.semAt_some

theorem LimA.pit {a : Ak} (h : LimA a) : ∀ z ∈ a.items, z.good.size ≤ 16 ∧ -9223372036854775808 ≤ z.n ∧ z.n ≤ 9223372036854775807 := fun z hz => by
  obtain ⟨h1, h2, h3⟩ := mayI_item h.c9 z hz
  exact ⟨h1, by omega, by omega⟩
theorem putS_app {s c : List Nat} (h : s.length + c.length ≤ 262144) : putS (s, false) c = (s ++ c, false) := putS_fits rfl (by simp only; omega)
/-- What holds between two rounds of put. -/
def PutI (w0 : World) (p px : Nat) (s : List Nat) (pre : List PIt) (W : World) : Prop := Mk w0 p (s ++ itemsB (pre.map (·.1)), false) W ∧ W.heap[px]? = some (.cells #[.pointer (some ⟨p, 0, none⟩)] 47 (0, 0)) ∧ w0.heap.size ≤ px
theorem putI_own {w0 : World} {p px B : Nat} {s : List Nat} (hB : w0.heap.size ≤ B) : OwnFrom B (PutI w0 p px s) := by
  rintro pre W W' row ⟨⟨G, ⟨v, h1, h2, h3⟩, h4, h5, h6⟩, h7, h8⟩ hg hr
  have hr' : ∀ r, row = some r → ∃ o : Obj, W.heap[r]? = some o ∧ o.isCells = false := fun r e => (hr r e).2
  exact ⟨⟨G, ⟨v, block_grown h1 hg hr', own_grown h2 hg hr', h3⟩, h4, h5, h6.grown hg h6.size (fun k e => Nat.le_trans hB (hr k e).1)⟩, block_grown h7 hg hr', h8⟩
theorem putI_next {s : List Nat} {pre : List PIt} {x : PIt} (hs : s.length ≤ 1000) (hl : pre.length ≤ 16) : putS (putS (s ++ itemsB (pre.map (·.1)), false) (textB (natsOf x.1.good))) (numB x.1.n) = (s ++ itemsB ((pre ++ [x]).map (·.1)), false) := by
  have h1 := itemsB_le (l := pre.map (·.1)) (fun y hy => by obtain ⟨z, _, rfl⟩ := List.mem_map.1 hy; exact z.2.1)
  have h2 := textB_le (natsOf x.1.good)
  have h3 := numB_le9 x.1.n
  have h4 := x.2.1
  rw [natsOf_length] at h2
  rw [List.length_map] at h1
  rw [putS_app (by rw [List.length_append]; omega), putS_app (by simp only [List.length_append]; omega), List.map_append, List.map_cons, List.map_nil, itemsB_snoc]
  simp only [itemB, List.append_assoc]
/-- What put puts ahead of the items. -/
def headB (a : Ak) : List Nat := numsB [a.kind, a.order, a.region, a.to, a.n] ++ (textB (natsOf a.good) ++ numB a.items.length)
theorem headB_le {a : Ak} (h : a.good.size ≤ 16) : (headB a).length ≤ 79 := by
  have h1 := numsB_le [a.kind, a.order, a.region, a.to, a.n]
  have h2 := textB_le (natsOf a.good)
  have h3 := numB_le9 a.items.length
  rw [natsOf_length] at h2
  unfold headB
  simp only [List.length_append, List.length_cons, List.length_nil] at *
  omega
theorem bodyA_head (a : Ak) : bodyA a = headB a ++ itemsB a.items := by
  unfold bodyA headB tailA
  simp only [List.append_assoc]
theorem head_put {a : Ak} {s : List Nat} (h : a.good.size ≤ 16) (hs : s.length ≤ 900) : putS (putS (putS (putS (putS (putS (putS (s, false) (numB a.kind)) (numB a.order)) (numB a.region)) (numB a.to)) (numB a.n)) (textB (natsOf a.good))) (numB a.items.length) = (s ++ headB a, false) := by
  have h1 := numB_le9 a.kind
  have h2 := numB_le9 a.order
  have h3 := numB_le9 a.region
  have h4 := numB_le9 a.to
  have h5 := numB_le9 a.n
  have h6 := textB_le (natsOf a.good)
  have h7 := numB_le9 a.items.length
  rw [natsOf_length] at h6
  rw [putS_app (by omega), putS_app (by simp only [List.length_append]; omega), putS_app (by simp only [List.length_append]; omega), putS_app (by simp only [List.length_append]; omega), putS_app (by simp only [List.length_append]; omega), putS_app (by simp only [List.length_append]; omega), putS_app (by simp only [List.length_append]; omega)]
  unfold headB
  simp only [numsB, List.append_assoc, List.append_nil]
set_option maxRecDepth 100000 in
set_option maxHeartbeats 4000000 in
theorem aput_any (a : Ak) (A : Option Addr) (c : Nat) (w0 W0 : World) (p : Nat) (s : List Nat) (hM : Mk w0 p (s, false) W0) (hr : Rd w0 2 A a.items.length (a.items.flatMap encI)) (hl : LimA a) (hs : s.length ≤ 900) :
    Calls Try.prog 55 #[.pointer (some ⟨p, 0, none⟩), akV a (.slice A a.items.length c)] W0 fun e W => e = .returned (.tuple #[]) ∧ Mk w0 p (s ++ bodyA a, false) W := by
  obtain ⟨qs, hq⟩ := pits_of hl.pit
  have HQ := Lib.hid hq
  have hql : qs.length = a.items.length := by rw [← hq]; simp
  have HQL := Lib.hid hql
  have h16 := (mayI_at hl.c9).1
  have HHP := Lib.hid (head_put (s := s) hl.c8 hs)
  have hhl := headB_le hl.c8
  have HHL : Hid ((s ++ headB a).length ≤ 1000) := Lib.hid (by rw [List.length_append]; omega)
  have HBO := Lib.hid (bodyA_head a)
  obtain ⟨l1, l2, l3, l4, l5, l6, l7, l8, _⟩ := hl
  have HI : Hid (I64 a.kind ∧ I64 a.order ∧ I64 a.region ∧ I64 a.to ∧ I64 a.n ∧ I64 a.items.length) := Lib.hid (by unfold I64; omega)
  have HTX : Hid (a.good.size ≤ 140737488351232) := Lib.hid (by omega)
  obtain ⟨BO, hBO⟩ : ∃ BO, bodyA a = BO := ⟨_, rfl⟩
  rw [hBO] at HBO ⊢
  obtain ⟨HD, hHD⟩ : ∃ HD, headB a = HD := ⟨_, rfl⟩
  rw [hHD] at HBO HHP HHL
  obtain ⟨client, number, kind, order, region, to, n, good, items⟩ := a
  simp only at *
  obtain ⟨m, hm2⟩ : ∃ m, items.length = m := ⟨_, rfl⟩
  have HMM := Lib.hid hm2
  rw [hm2] at HHP HI HQL h16 hr ⊢
  have HM := Lib.hid hM
  have HR := Lib.hid hr
  have hbm := hM.below
  have hb2 := (hbm.alloc hbm.size (.cells #[.pointer (some ⟨p, 0, none⟩)] 47)).alloc (by have := hbm.size; simp; omega) (.cells #[.int .i64 client, .int .i64 number, .int .i64 kind, .int .i64 order, .int .i64 region, .int .i64 to, .int .i64 n, .string good, .slice A m c] 24)
  have k0 := block_alloc (block_new W0 (.cells #[.pointer (some ⟨p, 0, none⟩)] 47)) (.cells #[.int .i64 client, .int .i64 number, .int .i64 kind, .int .i64 order, .int .i64 region, .int .i64 to, .int .i64 n, .string good, .slice A m c] 24)
  have k1 := block_new (W0.alloc (.cells #[.pointer (some ⟨p, 0, none⟩)] 47)) (.cells #[.int .i64 client, .int .i64 number, .int .i64 kind, .int .i64 order, .int .i64 region, .int .i64 to, .int .i64 n, .string good, .slice A m c] 24)
  have hbb := ((Below.refl _ W0).alloc (Nat.le_refl _) (.cells #[.pointer (some ⟨p, 0, none⟩)] 47)).alloc (by simp) (.cells #[.int .i64 client, .int .i64 number, .int .i64 kind, .int .i64 order, .int .i64 region, .int .i64 to, .int .i64 n, .string good, .slice A m c] 24)
  simp only [World.size_alloc] at k1
  obtain ⟨W2, hW2⟩ : ∃ W2, (W0.alloc (.cells #[.pointer (some ⟨p, 0, none⟩)] 47)).alloc (.cells #[.int .i64 client, .int .i64 number, .int .i64 kind, .int .i64 order, .int .i64 region, .int .i64 to, .int .i64 n, .string good, .slice A m c] 24) = W2 := ⟨_, rfl⟩
  rw [hW2] at hb2 k0 k1 hbb
  have hM2 := hM.keep hbb
  have HM2 := Lib.hid hM2
  have HB2 := Lib.hid hb2
  have HWW := Lib.hid hW2
  obtain ⟨px, hpx⟩ : ∃ px, W0.heap.size = px := ⟨_, rfl⟩
  have hpx0 : w0.heap.size ≤ px := by rw [← hpx]; exact hbm.size
  rw [hpx] at k0 k1
  have HPX := Lib.hid hpx
  have HK0 := Lib.hid k0
  have HK1 := Lib.hid k1
  clear hq hql l1 l2 l3 l4 l5 l6 l7 l8 hM hr hbm hb2 k0 k1 hbb hM2 hBO hHD hm2 hhl hW2 hpx
  refine (callsIn_wide (n := 9)).1 ?_
  refine callsIn_of_wp_marks Try.func55 rfl trivial ?_ rfl
  simp only [Try.ntmps55, List.size_toArray, List.length_cons, List.length_nil, Nat.reduceAdd, Nat.reduceSub, Array.replicate_succ, Array.replicate_zero, List.push_toArray, List.append_toArray, List.nil_append, List.cons_append]
  refine wpIn_wide.2 ?_
  go_wp2_with fail
  rw [HWW.out, HPX.out]
  refine wp_region_flow2 (fun W => Below w0.heap.size w0 W ∧ W.heap[px]? = some (.cells #[.pointer (some ⟨p, 0, none⟩)] 47 (0, 0)) ∧ W.heap[px + 1]? = some (.cells #[.int .i64 client, .int .i64 number, .int .i64 kind, .int .i64 order, .int .i64 region, .int .i64 to, .int .i64 n, .string good, .slice A m c] 24 (0, 0))) (fun W => Mk w0 p (s, false) W) [0, 1, 2, 4, 5, 7, 8, 10, 11, 13, 14, 16, 17, 19, 20, 21, 3, 6, 9, 12, 15, 18, 22] (by kernel_rfl) (by kernel_rfl) (by kernel_rfl) (⟨HB2.out.drew, HK0.out, HK1.out⟩) (HM2.out.keep ((Below.refl _ _).drew)) ?_
  refine flow_val ?_ rfl (by kernel_rfl) (by rfl) (fun W hW => ?_) ?_
  rotate_left 1
  · have c0 := cell_at hW.2.1 0; go_simp <;> with_reducible rfl
  simp only [Act.put, List.setIfInBounds_toArray, List.set_cons_succ, List.set_cons_zero]
  refine flow_val ?_ rfl (by kernel_rfl) (by rfl) (fun W hW => ?_) ?_
  rotate_left 1
  · go_simp <;> with_reducible rfl
  simp only [Act.put, List.setIfInBounds_toArray, List.set_cons_succ, List.set_cons_zero]
  refine flow_val ?_ rfl (by kernel_rfl) (by rfl) (fun W hW => ?_) ?_
  rotate_left 1
  · have c2 := cell_at hW.2.2 2; go_simp <;> with_reducible rfl
  simp only [Act.put, List.setIfInBounds_toArray, List.set_cons_succ, List.set_cons_zero]
  refine flow_val ?_ rfl (by kernel_rfl) (by rfl) (fun W hW => ?_) ?_
  rotate_left 1
  · go_simp <;> with_reducible rfl
  simp only [Act.put, List.setIfInBounds_toArray, List.set_cons_succ, List.set_cons_zero]
  refine flow_val ?_ rfl (by kernel_rfl) (by rfl) (fun W hW => ?_) ?_
  rotate_left 1
  · have c3 := cell_at hW.2.2 3; go_simp <;> with_reducible rfl
  simp only [Act.put, List.setIfInBounds_toArray, List.set_cons_succ, List.set_cons_zero]
  refine flow_val ?_ rfl (by kernel_rfl) (by rfl) (fun W hW => ?_) ?_
  rotate_left 1
  · go_simp <;> with_reducible rfl
  simp only [Act.put, List.setIfInBounds_toArray, List.set_cons_succ, List.set_cons_zero]
  refine flow_val ?_ rfl (by kernel_rfl) (by rfl) (fun W hW => ?_) ?_
  rotate_left 1
  · have c4 := cell_at hW.2.2 4; go_simp <;> with_reducible rfl
  simp only [Act.put, List.setIfInBounds_toArray, List.set_cons_succ, List.set_cons_zero]
  refine flow_val ?_ rfl (by kernel_rfl) (by rfl) (fun W hW => ?_) ?_
  rotate_left 1
  · go_simp <;> with_reducible rfl
  simp only [Act.put, List.setIfInBounds_toArray, List.set_cons_succ, List.set_cons_zero]
  refine flow_val ?_ rfl (by kernel_rfl) (by rfl) (fun W hW => ?_) ?_
  rotate_left 1
  · have c5 := cell_at hW.2.2 5; go_simp <;> with_reducible rfl
  simp only [Act.put, List.setIfInBounds_toArray, List.set_cons_succ, List.set_cons_zero]
  refine flow_val ?_ rfl (by kernel_rfl) (by rfl) (fun W hW => ?_) ?_
  rotate_left 1
  · go_simp <;> with_reducible rfl
  simp only [Act.put, List.setIfInBounds_toArray, List.set_cons_succ, List.set_cons_zero]
  refine flow_val ?_ rfl (by kernel_rfl) (by rfl) (fun W hW => ?_) ?_
  rotate_left 1
  · have c6 := cell_at hW.2.2 6; go_simp <;> with_reducible rfl
  simp only [Act.put, List.setIfInBounds_toArray, List.set_cons_succ, List.set_cons_zero]
  refine flow_val ?_ rfl (by kernel_rfl) (by rfl) (fun W hW => ?_) ?_
  rotate_left 1
  · go_simp <;> with_reducible rfl
  simp only [Act.put, List.setIfInBounds_toArray, List.set_cons_succ, List.set_cons_zero]
  refine flow_val ?_ rfl (by kernel_rfl) (by rfl) (fun W hW => ?_) ?_
  rotate_left 1
  · have c7 := cell_at hW.2.2 7; go_simp <;> with_reducible rfl
  simp only [Act.put, List.setIfInBounds_toArray, List.set_cons_succ, List.set_cons_zero]
  refine flow_val ?_ rfl (by kernel_rfl) (by rfl) (fun W hW => ?_) ?_
  rotate_left 1
  · go_simp <;> with_reducible rfl
  simp only [Act.put, List.setIfInBounds_toArray, List.set_cons_succ, List.set_cons_zero]
  refine flow_val ?_ rfl (by kernel_rfl) (by rfl) (fun W hW => ?_) ?_
  rotate_left 1
  · have c8 := cell_at hW.2.2 8; go_simp <;> with_reducible rfl
  simp only [Act.put, List.setIfInBounds_toArray, List.set_cons_succ, List.set_cons_zero]
  refine flow_val ?_ rfl (by kernel_rfl) (by rfl) (fun W hW => ?_) ?_
  rotate_left 1
  · go_simp <;> with_reducible rfl
  simp only [Act.put, List.setIfInBounds_toArray, List.set_cons_succ, List.set_cons_zero]
  refine flow_turn (.pointer (some ⟨p, 0, none⟩)) (fun W => Mk w0 p (putS (s, false) (numB kind)) W) rfl (by kernel_rfl) (by rfl) (by kernel_rfl) (fun W hW hC => ⟨_, _, _, by go_simp, (mkk_num hC kind HI.out.1).mono fun e w1 hh => ?_⟩) ?_
  · obtain ⟨he, h1, _, _, h5⟩ := hh
    exact ⟨he, ⟨h1.below, h5 _ _ _ _ hW.2.1 (by decide) (by decide), h5 _ _ _ _ hW.2.2 (by decide) (by decide)⟩, h1⟩
  simp only [Act.put, List.setIfInBounds_toArray, List.set_cons_succ, List.set_cons_zero]
  refine flow_turn (.pointer (some ⟨p, 0, none⟩)) (fun W => Mk w0 p (putS (putS (s, false) (numB kind)) (numB order)) W) rfl (by kernel_rfl) (by rfl) (by kernel_rfl) (fun W hW hC => ⟨_, _, _, by go_simp, (mkk_num hC order HI.out.2.1).mono fun e w1 hh => ?_⟩) ?_
  · obtain ⟨he, h1, _, _, h5⟩ := hh
    exact ⟨he, ⟨⟨h1.below, h5 _ _ _ _ hW.1.2.1 (by decide) (by decide), h5 _ _ _ _ hW.1.2.2 (by decide) (by decide)⟩, trivial⟩, h1⟩
  simp only [Act.put, List.setIfInBounds_toArray, List.set_cons_succ, List.set_cons_zero]
  refine flow_turn (.pointer (some ⟨p, 0, none⟩)) (fun W => Mk w0 p (putS (putS (putS (s, false) (numB kind)) (numB order)) (numB region)) W) rfl (by kernel_rfl) (by rfl) (by kernel_rfl) (fun W hW hC => ⟨_, _, _, by go_simp, (mkk_num hC region HI.out.2.2.1).mono fun e w1 hh => ?_⟩) ?_
  · obtain ⟨he, h1, _, _, h5⟩ := hh
    exact ⟨he, ⟨⟨⟨h1.below, h5 _ _ _ _ hW.1.1.2.1 (by decide) (by decide), h5 _ _ _ _ hW.1.1.2.2 (by decide) (by decide)⟩, trivial⟩, trivial⟩, h1⟩
  simp only [Act.put, List.setIfInBounds_toArray, List.set_cons_succ, List.set_cons_zero]
  refine flow_turn (.pointer (some ⟨p, 0, none⟩)) (fun W => Mk w0 p (putS (putS (putS (putS (s, false) (numB kind)) (numB order)) (numB region)) (numB to)) W) rfl (by kernel_rfl) (by rfl) (by kernel_rfl) (fun W hW hC => ⟨_, _, _, by go_simp, (mkk_num hC to HI.out.2.2.2.1).mono fun e w1 hh => ?_⟩) ?_
  · obtain ⟨he, h1, _, _, h5⟩ := hh
    exact ⟨he, ⟨⟨⟨⟨h1.below, h5 _ _ _ _ hW.1.1.1.2.1 (by decide) (by decide), h5 _ _ _ _ hW.1.1.1.2.2 (by decide) (by decide)⟩, trivial⟩, trivial⟩, trivial⟩, h1⟩
  simp only [Act.put, List.setIfInBounds_toArray, List.set_cons_succ, List.set_cons_zero]
  refine flow_turn (.pointer (some ⟨p, 0, none⟩)) (fun W => Mk w0 p (putS (putS (putS (putS (putS (s, false) (numB kind)) (numB order)) (numB region)) (numB to)) (numB n)) W) rfl (by kernel_rfl) (by rfl) (by kernel_rfl) (fun W hW hC => ⟨_, _, _, by go_simp, (mkk_num hC n HI.out.2.2.2.2.1).mono fun e w1 hh => ?_⟩) ?_
  · obtain ⟨he, h1, _, _, h5⟩ := hh
    exact ⟨he, ⟨⟨⟨⟨⟨h1.below, h5 _ _ _ _ hW.1.1.1.1.2.1 (by decide) (by decide), h5 _ _ _ _ hW.1.1.1.1.2.2 (by decide) (by decide)⟩, trivial⟩, trivial⟩, trivial⟩, trivial⟩, h1⟩
  simp only [Act.put, List.setIfInBounds_toArray, List.set_cons_succ, List.set_cons_zero]
  refine flow_turn (.pointer (some ⟨p, 0, none⟩)) (fun W => Mk w0 p (putS (putS (putS (putS (putS (putS (s, false) (numB kind)) (numB order)) (numB region)) (numB to)) (numB n)) (textB (natsOf good))) W) rfl (by kernel_rfl) (by rfl) (by kernel_rfl) (fun W hW hC => ⟨_, _, _, by go_simp, (mkk_text hC good HTX.out).mono fun e w1 hh => ?_⟩) ?_
  · obtain ⟨he, h1, _, _, h5⟩ := hh
    exact ⟨he, ⟨⟨⟨⟨⟨⟨h1.below, h5 _ _ _ _ hW.1.1.1.1.1.2.1 (by decide) (by decide), h5 _ _ _ _ hW.1.1.1.1.1.2.2 (by decide) (by decide)⟩, trivial⟩, trivial⟩, trivial⟩, trivial⟩, trivial⟩, h1⟩
  simp only [Act.put, List.setIfInBounds_toArray, List.set_cons_succ, List.set_cons_zero]
  refine flow_turn (.pointer (some ⟨p, 0, none⟩)) (fun W => Mk w0 p (putS (putS (putS (putS (putS (putS (putS (s, false) (numB kind)) (numB order)) (numB region)) (numB to)) (numB n)) (textB (natsOf good))) (numB (m : Int))) W) rfl (by kernel_rfl) (by rfl) (by kernel_rfl) (fun W hW hC => ⟨_, _, _, by go_simp, (mkk_num hC (m : Int) HI.out.2.2.2.2.2).mono fun e w1 hh => ?_⟩) ?_
  · obtain ⟨he, h1, _, _, h5⟩ := hh
    exact ⟨he, ⟨⟨⟨⟨⟨⟨⟨h1.below, h5 _ _ _ _ hW.1.1.1.1.1.1.2.1 (by decide) (by decide), h5 _ _ _ _ hW.1.1.1.1.1.1.2.2 (by decide) (by decide)⟩, trivial⟩, trivial⟩, trivial⟩, trivial⟩, trivial⟩, trivial⟩, h1⟩
  simp only [Act.put, List.setIfInBounds_toArray, List.set_cons_succ, List.set_cons_zero]
  refine flow_done2 ?_
  intro W hW hC
  rw [HHP.out] at hC
  obtain ⟨W3, hW3⟩ : ∃ W3, W3 = W := ⟨_, rfl⟩
  subst hW3
  have HM3 := Lib.hid hC
  have HS3 := Lib.hid hW.1.1.1.1.1.1.1
  obtain ⟨hb3, x0, x1⟩ := HS3.out
  have d0 := cell_at x0 0
  have d8 := cell_at x1 8
  clear hW hC hb3 x0 x1
  go_wp2_with fail
  refine (all_any _ _ _ _).mono ?_
  rintro e w5 ⟨rfl, hw5⟩
  obtain ⟨pc, hpc⟩ : ∃ pc, W3.heap.size = pc := ⟨_, rfl⟩
  have hbw : Below W3.heap.size W3 w5 := by rw [← hw5]; exact (Below.refl _ W3).alloc (Nat.le_refl _) _
  have c0 : w5.heap[pc]? = some (.cells #[.slice A m c] 22 (0, 0)) := by rw [← hw5, ← hpc]; exact block_new _ _
  have hB5 : Below w0.heap.size w0 w5 := HS3.out.1.trans (hbw.mono HS3.out.1.size)
  have hP5 : PutI w0 p px (s ++ HD) [] w5 := ⟨by simpa [itemsB] using HM3.out.keep hbw, (hbw.block _ (lt_of_block HS3.out.2.1)).trans HS3.out.2.1, hpx0⟩
  have hsz5 : w0.heap.size ≤ w5.heap.size := hB5.size
  rw [hpc]
  have HP5 := Lib.hid hP5
  have HB5 := Lib.hid hB5
  have HC0 := Lib.hid c0
  have hA : ∀ a, A = some a → 0 < items.length → a.block < w0.heap.size := fun a ha hp => by
    obtain ⟨g, o', e, hg, _⟩ := HR.out.2 (by rw [HMM.out] at hp; exact hp)
    rw [e] at ha
    cases ha
    exact hg
  clear hw5 hpc hbw c0 hB5 hP5 HS3 HM3
  go_wp2_with fail
  refine (wpIn_wide (n := 9)).1 ?_
  apply wpIn_rangeFunc_ownF (F := Fence.wide) (n := 9) (hro := rfl) (h1 := by omega) (gf := 54) (lb := #[.pointer (some ⟨pc, 0, none⟩)]) (hg := rfl) (hFg := trivial) (eg := enters_of Try.func54 (by kernel_rfl) rfl)
    (hseq := all_iterP _ w0.heap.size pc A c items qs HQ.out w5 (by rw [cell_at HC0.out, HMM.out]; rfl) (by rw [HMM.out]; exact HR.out.below HB5.out) (by rw [HMM.out]; omega) (by omega) hA) (hKt := belowK_t) (hKb := belowK_b hsz5) (hb0 := Below.refl _ _) (hps := fun _ => rfl)
    (I := PutI w0 p px (s ++ HD)) (Ix := fun _ _ _ => False) (hI := putI_own hsz5) (hIx := fun _ _ _ _ _ hs _ _ => hs) (h0 := HP5.out)
  case hassign =>
    intro l x W K hK
    dsimp only [encRowP]
    gi_wp2
    exact hK
  case hstop =>
    rintro D c pre W3 hD hpre hf _
    exact hf.elim
  case hbody =>
    rintro l pre x W hi hlt
    obtain ⟨k1, k2, k3⟩ := hi
    have x0 := cell_at k2 0
    have K1 := Lib.hid k1
    have K2 := Lib.hid k2
    have HS := Lib.hid (putI_next (x := x) HHL.out (by have := HMM.out; omega : pre.length ≤ 16))
    have hx16 : x.1.good.size ≤ 140737488351232 := by have := x.2.1; omega
    have HX16 := Lib.hid hx16
    have HX64 : Hid (I64 x.1.n) := Lib.hid ⟨x.2.2.1, x.2.2.2⟩
    clear k1 k2 hx16 hlt
    gi_wp2_with fail
    refine ⟨trivial, CallsIn.mono (CallsIn.inRound l (callsIn_wide.2 (mkk_text K1.out x.1.good HX16.out))) ?_⟩
    rintro e W2 ⟨rfl, h2, hk2, hb2, hx2⟩
    have H2 := Lib.hid h2
    have HK2 := Lib.hid hk2
    have HB2 := Lib.hid hb2
    have HX2 := Lib.hid (hx2 _ _ _ _ K2.out (by decide) (by decide))
    clear h2 hk2 hb2 hx2 x0
    gi_wp2_with fail
    refine ⟨trivial, CallsIn.mono (CallsIn.inRound l (callsIn_wide.2 (mkk_num H2.out x.1.n HX64.out))) ?_⟩
    rintro e W4 ⟨rfl, h4, hk4, hb4, hx4⟩
    rw [HS.out] at h4
    have H4 := Lib.hid h4
    have HK4 := Lib.hid (HK2.out.trans hk4)
    have HB4 := Lib.hid (HB2.out.trans hb4)
    have HX4 := Lib.hid (hx4 _ _ _ _ HX2.out (by decide) (by decide))
    clear h4 hk4 hb4 hx4
    gi_wp2
    exact ⟨HK4.out, HB4.out, H4.out, HX4.out, k3⟩
  case hdone =>
    rintro D ys W3 hD rfl ⟨k1, k2, k3⟩ hK
    have e : s ++ HD ++ itemsB (ys.map (·.1)) = s ++ BO := by rw [HQ.out, HBO.out, List.append_assoc]
    rw [e] at k1
    have K1 := Lib.hid k1
    have HKD : Hid (W3.heap[D]? = some (.deferred (some []))) := Lib.hid hK
    clear k1 k2 hK e
    go_wp2
    refine ⟨by simp, .inl ⟨_, _, rfl, run_takeDeferred HKD.out, ?_⟩⟩
    refine ⟨.tuple #[], by simp [results, Try.f55, go_sem], rfl, ?_⟩
    obtain ⟨G, ⟨v, j1, j2, j3⟩, j4, j5, j6⟩ := K1.out
    exact ⟨G, ⟨v, block_grown j1 (grownBy_putObj' _ D (.deferred none)) (fun r e => by cases e; exact ⟨_, HKD.out, rfl⟩), ownsRow_putObj j2 (.deferred none) HKD.out rfl, j3⟩, j4, j5, j6.trans (belowK_b (w := w0) (Nat.le_refl _) _ D _ _ (by omega) HKD.out rfl rfl)⟩
end Go.Proofs.Ytpccbobomppdbaa
