/- Joined: Pack: a backlog's code. -/
import Derived.Test.YtglfbihdbdcgiaaZBP26
import Derived.Test.YtglfbihdbdcgiaaZBP30
import Derived.Test.YtglfbihdbdcgiaaZBP10
namespace Go.Proofs.Ytglfbihdbdcgiaa
open Go.RowKit Go.Shelf
attribute [local go_sem] Oper.semAt_some

/-- A row whose order is a number of the machine's. -/
abbrev RowN := {x : Int × Bool // I64 x.1}
set_option maxRecDepth 100000 in
set_option maxHeartbeats 2000000 in
theorem iter_rowsN (n n₀ Bn B p : Nat) (qs : List RowN) (out : Int) (w : World) (hb : w.cell? ⟨Bn, 0, none⟩ = some (.pointer (some ⟨p, 0, none⟩))) (hi : IsB w B p (qs.map (·.1)) out) (hm : qs.length ≤ 256) (hn : 1 ≤ n)
    (hlt : ∀ k, IsB w B p (qs.map (·.1)) out → ∀ v, w.heap[p]? = some (.cells #[v, .int .i64 out] 58 (0, 0)) → v.ownBlock = some k → k < n₀) :
    SeqStopsK Fence.wide n Try.prog 36 #[.pointer (some ⟨Bn, 0, none⟩)] (fun x : RowN => encRow x.1) (Below n₀) (fun xs => xs = qs) (fun pre => pre <+: qs) qs.length w := fun l J Jx W hW hJ hJx hY h0 => by
  have hBn := World.block_lt_of_cell? w _ hb
  have hb' : W.cell? ⟨Bn, 0, none⟩ = some (.pointer (some ⟨p, 0, none⟩)) := (hW.cell (p := ⟨Bn, 0, none⟩) hBn).trans hb
  have hf : Fr B [] [] w W := Fr.of_below hW
  obtain ⟨rs, hrs⟩ : ∃ rs, qs.map (·.1) = rs := ⟨_, rfl⟩
  have hql : rs.length = qs.length := by rw [← hrs, List.length_map]
  have hqa : ∀ k (h : k < qs.length), rs[k]'(by omega) = (qs[k]).1 := fun k h => by subst hrs; simp
  rw [hrs] at hi hlt
  clear hrs
  have HQA := Lib.hid hqa
  clear hqa
  obtain ⟨hB, v, hp, ho⟩ := id hi
  have hg₀ := fun k => hlt k hi v hp
  have hpW := hf.keep hp (by simp) (by simp)
  have hoW := hf.own ho (by simp) (by simp)
  obtain ⟨A, c, rfl, hnc, hcm, hrd, hA⟩ := own_slice hoW
  have hp0 := cell_at hpW 0
  have HRD := Lib.hid hrd
  have HA := Lib.hid hA
  have HG := Lib.hid hg₀
  clear hb hW hf hp ho hpW hoW hi hlt hg₀ hcm hrd hA
  refine CallsIn.mono (R := fun e W' => ItPost _ e) ?_ (fun _ _ h => h)
  refine callsIn_of_wp Try.func36 rfl trivial ?_ rfl
  simp only [Try.ntmps36, List.size_toArray, List.length_cons, List.length_nil, Nat.reduceAdd, Nat.reduceSub, Array.replicate_succ, Array.replicate_zero, List.push_toArray, List.append_toArray, List.nil_append, List.cons_append]
  gi_wp2
  gi_loopw [12] (fun i wr => ∃ k : Nat, k ≤ rs.length ∧ i = .int .i64 k ∧ J (qs.take k) wr ∧ (∀ a, A = some a → ∀ o, wr.cell? ⟨a.block, o, none⟩ = W.cell? ⟨a.block, o, none⟩) ∧ W.heap.size ≤ wr.heap.size) (fun i _ => rs.length - (intOf i).toNat)
  case atStart => exact ⟨0, Nat.zero_le _, rfl, by simpa using h0, fun _ _ _ => rfl, Nat.le_refl _⟩
  case round =>
    obtain ⟨k, hk, rfl, hJk, hsame, hsz⟩ := hrel
    have HS := Lib.hid hsame
    have HJk := Lib.hid hJk
    clear hsame hJk
    by_cases hlt : k < rs.length
    · obtain ⟨g, o, rfl, hg, hcell⟩ := HRD.out.2 (by omega)
      obtain ⟨hown, ho0, _⟩ := HA.out _ rfl
      simp only at ho0 hown
      subst ho0
      have c0 : wr.cell? ⟨g, k * 2, none⟩ = some (.int .i64 rs[k].1) := by
        rw [HS.out _ rfl]
        have := hcell _ _ (flat_fst hlt)
        simpa using this
      have c1 : wr.cell? ⟨g, k * 2 + 1, none⟩ = some (.bool rs[k].2) := by
        rw [HS.out _ rfl]
        have := hcell _ _ (flat_snd hlt)
        simpa using this
      have hg0 := HG.out g hown
      have hkq : k < qs.length := by omega
      obtain ⟨xq, hxq⟩ : ∃ xq, qs[k] = xq := ⟨_, rfl⟩
      obtain ⟨x, hx⟩ : ∃ x, rs[k] = x := ⟨_, rfl⟩
      have hxx : xq.1 = x := by rw [← hxq, ← hx]; exact (HQA.out k hkq).symm
      rw [hx] at c0 c1
      have HX := Lib.hid hxq
      have hJa := hJ _ _ (wr.alloc (.cells #[.int .i64 x.1, .bool x.2] 60)) none HJk.out (World.grownBy_alloc wr _ none) (by intro r e; cases e)
      obtain ⟨fn, tmps, assign, body, hy, hR⟩ := hY (qs.take k) xq _ hJa (by simp; omega)
      rw [hxx] at hy
      dsimp only [encRow] at hy
      clear hcell hx hown hxx hxq
      gi_wp2
      refine hR.mono ?_
      rintro e W3 (⟨rfl, hJ3, hk3⟩ | ⟨rfl, hJx3⟩)
      · have hs3 : ∀ o, W3.cell? ⟨g, o, none⟩ = W.cell? ⟨g, o, none⟩ := fun o => by
          rw [hk3.cell (p := ⟨g, o, none⟩) hg0, World.cell?_alloc_lt wr _ ⟨g, o, none⟩ (by simp; omega)]
          exact HS.out _ rfl o
        have hz3 : W.heap.size ≤ W3.heap.size := by have := hk3.size; simp at this; omega
        have HS3 := Lib.hid hs3
        have HJ3 := Lib.hid hJ3
        clear hs3 hJ3 hk3
        gi_wp2
        go_roundw
        case rel =>
          refine ⟨k + 1, by omega, by go_num, ?_, fun a ha o => by cases ha; exact HS3.out o, hz3⟩
          rw [List.take_succ_eq_append_getElem hkq, HX.out]
          exact HJ3.out
        case measure => simp [intOf]; omega
      · have HJx := Lib.hid hJx3
        clear hJx3
        gi_wp2
        refine bodyPost_ret (results_none rfl _ _ _) rfl ?_
        refine itPost_intro (.inr ⟨qs.take (k + 1), List.take_prefix _ _, ?_⟩)
        rw [List.take_succ_eq_append_getElem hkq, HX.out]
        exact HJx.out
    · gi_wp2
      go_end0
      refine itPost_intro (.inl ⟨qs, rfl, ?_⟩)
      have := HJk.out
      rwa [List.take_of_length_le (by omega)] at this


theorem own_grown {w w' : World} {row : Option Nat} {base : Nat} {e : TypeId} {size n : Nat} {v : Value} {xs : List Value} (ho : w.ownsRow base e size v n xs) (hg : w.grownBy w' row) (hr : ∀ r, row = some r → ∃ o : Obj, w.heap[r]? = some o ∧ o.isCells = false) : w'.ownsRow base e size v n xs := by
  refine ho.kept hg ?_
  rcases ho.2 with ⟨rfl, _⟩ | ⟨g, cap, cur, rfl, _, hgb, _⟩
  · exact .inl rfl
  · refine .inr fun e' => ?_
    obtain ⟨o, h1, h2⟩ := hr g (by rw [← e']; simp [Value.ownBlock])
    rw [hgb] at h1
    injection h1 with h1
    subst h1
    simp [Obj.isCells] at h2
theorem block_grown {w w' : World} {row : Option Nat} {k : Nat} {cs : Array Value} {t : TypeId} {f : Nat × Nat} (h : w.heap[k]? = some (.cells cs t f)) (hg : w.grownBy w' row) (hr : ∀ r, row = some r → ∃ o : Obj, w.heap[r]? = some o ∧ o.isCells = false) : w'.heap[k]? = some (.cells cs t f) := by
  rw [hg.block _ (lt_of_block h) ?_]
  · exact h
  · intro e
    obtain ⟨o, k1, k2⟩ := hr _ e.symm
    rw [h] at k1
    injection k1 with k1
    subst k1
    simp [Obj.isCells] at k2
/-- What a maker's call keeps beside. -/
theorem mk_keep {w W : World} {p : Nat} {s s' : List Nat × Bool} {f : FuncId} {args : Array Value} (h : Mk w p s W) (hc : ∀ G, IsM W p G s → Calls Try.prog f args W (RetM p G s' W)) :
    Calls Try.prog f args W fun e W' => e = .returned (.pointer (some ⟨p, 0, none⟩)) ∧ Mk w p s' W' ∧ KeepsOthers W W' ∧ Below w.heap.size W W' ∧ ∀ (k : Nat) (cs : Array Value) (T : TypeId) (f : Nat × Nat), W.heap[k]? = some (Obj.cells cs T f) → T ≠ 94 → T ≠ 5 → W'.heap[k]? = some (Obj.cells cs T f) := by
  obtain ⟨G, h1, h2, h3, h4⟩ := h
  refine (hc G h1).mono fun e W' ⟨G', he, hM, hf, hg⟩ => ⟨he, ⟨G', hM, h2, fun g hg' => ?_, h4.trans (hf.belowM h2 h3 h4.size)⟩, ?_, hf.belowM h2 h3 h4.size, fun k cs T f hk h5 h6 => ?_⟩
  · rcases hg with e | ⟨g', e, hn⟩
    · exact h3 g (e ▸ hg')
    · rw [hg'] at e
      injection e with e
      have := h4.size
      omega
  · obtain ⟨v, hp, ho, hv⟩ := h1
    refine ⟨hf.size, fun k o hk hn => (hf.block k (lt_of_block hk) (.inr ⟨fun _ _ _ _ => by simp, fun hm => ?_⟩)).trans hk⟩
    rcases List.mem_cons.1 hm with rfl | hm
    · rw [hp] at hk
      injection hk with hk
      subst hk
      simp [Obj.isCells] at hn
    · obtain ⟨_, cs, hb⟩ := own_block ho (k := k) (by rw [hv]; simpa using hm)
      rw [hb] at hk
      injection hk with hk
      subst hk
      simp [Obj.isCells] at hn
  · obtain ⟨v, hp, ho, hv⟩ := h1
    refine hf.keep hk (by simp) fun hm => ?_
    rcases List.mem_cons.1 hm with rfl | hm
    · rw [hp] at hk
      injection hk with hk
      injection hk with _ hk
      exact h5 hk.symm
    · obtain ⟨_, cs', hb⟩ := own_block ho (k := k) (by rw [hv]; simpa using hm)
      rw [hb] at hk
      injection hk with hk
      injection hk with _ hk
      exact h6 hk.symm
theorem mkk_num {w W : World} {p : Nat} {s : List Nat × Bool} (h : Mk w p s W) (n : Int) (hn : I64 n) : Calls Try.prog 44 #[.pointer (some ⟨p, 0, none⟩), .int .i64 n] W fun e W' => e = .returned (.pointer (some ⟨p, 0, none⟩)) ∧ Mk w p (putS s (numB n)) W' ∧ KeepsOthers W W' ∧ Below w.heap.size W W' ∧ ∀ (k : Nat) (cs : Array Value) (T : TypeId) (f : Nat × Nat), W.heap[k]? = some (Obj.cells cs T f) → T ≠ 94 → T ≠ 5 → W'.heap[k]? = some (Obj.cells cs T f) :=
  mk_keep h fun G hM => mnum_any p G s n W hM hn
theorem mkk_flag {w W : World} {p : Nat} {s : List Nat × Bool} (h : Mk w p s W) (b : Bool) : Calls Try.prog 45 #[.pointer (some ⟨p, 0, none⟩), .bool b] W fun e W' => e = .returned (.pointer (some ⟨p, 0, none⟩)) ∧ Mk w p (putS s (flagB b)) W' ∧ KeepsOthers W W' ∧ Below w.heap.size W W' ∧ ∀ (k : Nat) (cs : Array Value) (T : TypeId) (f : Nat × Nat), W.heap[k]? = some (Obj.cells cs T f) → T ≠ 94 → T ≠ 5 → W'.heap[k]? = some (Obj.cells cs T f) :=
  mk_keep h fun G hM => mflag_any p G s b W hM
theorem Mk.set {w W : World} {p px : Nat} {s : List Nat × Bool} (h : Mk w p s W) {cs : Array Value} {T : TypeId} {f : Nat × Nat} (hx : W.heap[px]? = some (.cells cs T f)) (h5 : T ≠ 94) (h6 : T ≠ 5) (hl : w.heap.size ≤ px) (i : Nat) (u : Value) : Mk w p s (W.setCell ⟨px, i, none⟩ u) := by
  obtain ⟨G, h1, h2, h3, h4⟩ := h
  have f : Fr 0 [] [px] W (W.setCell ⟨px, i, none⟩ u) := (Fr.refl W).setCell (p := ⟨px, i, none⟩) _ (Nat.zero_le _) (.inl (by simp))
  refine ⟨G, h1.keep f (fun hm => ?_) (fun g hg hm => ?_), h2, h3, h4.trans (f.belowT hl h4.size)⟩
  · obtain ⟨v, hp, _⟩ := h1
    simp at hm
    subst hm
    rw [hx] at hp
    injection hp with hp
    injection hp with _ hp
    exact h5 hp
  · obtain ⟨v, _, ho, hv⟩ := h1
    simp at hm
    subst hm
    obtain ⟨_, cs', hb⟩ := own_block ho (k := g) (by rw [hv]; exact hg)
    rw [hx] at hb
    injection hb with hb
    injection hb with _ hb
    exact h6 hb
/-- The same, where two values tell the state at the end. -/
theorem wp_region_mid2 {P : Program} {ops : Array Oper} {Q : Exit → Act → World → Prop} {id : Nat} {a : Act} {w : World} {α β : Type} {M : α → β → World → Prop} {tm : α → β → Act} (hm : P.follows .mixedOrders = true)
    (h : RegOK Fence.wide 9 P ops (fun x a w => x = .normal ∧ (∃ p q, a = tm p q ∧ M p q w) ∨ x ≠ .normal ∧ Q x a w) a w.drew) (hk : ∀ p q w, M p q w → Q .normal (tm p q) w) : (Code.region id ops true).wp P Q a w :=
  (wpIn_wide (n := 9)).1 (region_mid (fun a w => ∃ p q, a = tm p q ∧ M p q w) hm h fun a w hx => by
    obtain ⟨p, q, rfl, hx⟩ := hx
    exact hk p q w hx)
/-- What holds where the maker has been made: the variable at px names it. -/
def PkM (w : World) (s : List Nat × Bool) (pm px : Nat) (W : World) : Prop := Mk w pm s W ∧ W.heap[px]? = some (.cells #[.pointer (some ⟨pm, 0, none⟩)] 75 (0, 0)) ∧ w.heap.size ≤ px
/-- What holds between two rounds. -/
def PkI (w : World) (out : Int) (n : Nat) (pm px : Nat) (pre : List RowN) (W : World) : Prop := PkM w (numB out ++ (numB n ++ rowsB (pre.map (·.1))), false) pm px W
theorem pkM_own {w : World} {s : List Nat × Bool} {pm px B : Nat} (hB : w.heap.size ≤ B) {W W' : World} {row : Option Nat} (h : PkM w s pm px W) (hg : W.grownBy W' row) (hr : ∀ r, row = some r → B ≤ r ∧ ∃ o : Obj, W.heap[r]? = some o ∧ o.isCells = false) : PkM w s pm px W' := by
  have hr' : ∀ r, row = some r → ∃ o : Obj, W.heap[r]? = some o ∧ o.isCells = false := fun r e => (hr r e).2
  obtain ⟨⟨G, ⟨v, h1, h2, h3⟩, h4, h5, h6⟩, h7, h8⟩ := h
  exact ⟨⟨G, ⟨v, block_grown h1 hg hr', own_grown h2 hg hr', h3⟩, h4, h5, h6.grown hg h6.size (fun k e => Nat.le_trans hB (hr k e).1)⟩, block_grown h7 hg hr', h8⟩
theorem exists_rowN {rs : List (Int × Bool)} (h : ∀ r ∈ rs, I64 r.1) : ∃ qs : List RowN, qs.map (·.1) = rs := ⟨rs.pmap Subtype.mk h, by simp [List.map_pmap]⟩
theorem pkN_succ (out : Int) (n : Nat) (pre : List RowN) (x : RowN) (h : pre.length < 256) : putS (putS (numB out ++ (numB n ++ rowsB (pre.map (·.1))), false) (numB x.1.1)) (flagB x.1.2) = (numB out ++ (numB n ++ rowsB ((pre ++ [x]).map (·.1))), false) := by
  have h1 := (numB_length x.1.1).2
  have h2 := (numB_length (if x.1.2 then 1 else 0)).2
  have h3 := rowsB_len (pre.map (·.1))
  have h4 := (numB_length out).2
  have h5 := (numB_length n).2
  rw [List.length_map] at h3
  have e1 : putS (numB out ++ (numB n ++ rowsB (pre.map (·.1))), false) (numB x.1.1) = (numB out ++ (numB n ++ rowsB (pre.map (·.1))) ++ numB x.1.1, false) := putS_fits rfl (by simp only [List.length_append]; omega)
  rw [e1, putS_fits rfl (by simp only [flagB, List.length_append]; omega), List.map_append, List.map_cons, List.map_nil, rowsB_snoc]
  simp only [rowB, List.append_assoc]

set_option maxRecDepth 100000 in
set_option maxHeartbeats 4000000 in
theorem pack_any (B p : Nat) (rs : List (Int × Bool)) (out : Int) (w : World) (hb : IsB w B p rs out) (hgd : GoodB rs out) :
    Calls Try.prog 30 #[.pointer (some ⟨p, 0, none⟩)] w fun e w' => ∃ v, e = .returned v ∧ Bs w' v (packB rs out) ∧ Below w.heap.size w w' := by
  have ho := hgd.o
  have hm : rs.length ≤ 256 := hgd.good.1
  obtain ⟨qs, hqs⟩ := exists_rowN (rs := rs) (fun r hr => by have := hgd.low r hr; unfold I64; omega)
  have hql : qs.length = rs.length := by rw [← hqs, List.length_map]
  have h0 := pk_0 rs out
  have HQS := Lib.hid hqs
  have HQL := Lib.hid hql
  have HB := Lib.hid hb
  obtain ⟨hBp, vr, hp, hr⟩ := id hb
  obtain ⟨A, c, rfl, _⟩ := own_slice hr
  obtain ⟨n, hn⟩ : ∃ n, rs.length = n := ⟨_, rfl⟩
  rw [hn] at hm h0 hql hp
  have HN := Lib.hid hn
  have HK0 := Lib.hid h0
  have HP := Lib.hid hp
  have HPL := Lib.hid (lt_of_block hp)
  have HC : Hid (∀ W, Below w.heap.size w W → W.cell? ⟨p, 0, none⟩ = some (.slice A n c) ∧ W.cell? ⟨p, 1, none⟩ = some (.int .i64 out)) := Lib.hid (fun W hW => by
    have := (hW.block p (lt_of_block hp)).trans hp
    exact ⟨cell_at this 0, cell_at this 1⟩)
  clear hqs hb hr h0 hn hp hgd hBp
  refine (callsIn_wide (n := 9)).1 ?_
  refine callsIn_of_wp_marks Try.func30 rfl trivial ?_ rfl
  simp only [Try.ntmps30, List.size_toArray, List.length_cons, List.length_nil, Nat.reduceAdd, Nat.reduceSub, Array.replicate_succ, Array.replicate_zero, List.push_toArray, List.append_toArray, List.nil_append, List.cons_append]
  refine wpIn_wide.2 ?_
  go_wp2_with fail
  apply wp_region_mid2 (M := PkM w (pk rs out 0, false)) (hm := by kernel_rfl)
  case h =>
    refine ok_split 12 11 (by decide) ?_ ?_
    · simp only [addAfter, addL]
      refine ok_flow (fun W => Below w.heap.size w W) Nil_ [1, 2, 3, 4, 6, 7, 8, 9, 10, 0, 5, 11, 12, 13] (fun _ => trivial) rfl (fun _ _ _ _ _ h => callsIn_wide.2 h) (by kernel_rfl) (by kernel_rfl) ((Below.refl _ w).drew) (trivial) ?_
      refine flow_val ?_ rfl (by kernel_rfl) (by rfl) (fun W hW => ?_) ?_
      rotate_left 1
      · go_simp <;> with_reducible rfl
      simp only [Act.put, List.setIfInBounds_toArray, List.set_cons_succ, List.set_cons_zero]
      refine flow_val ?_ rfl (by kernel_rfl) (by rfl) (fun W hW => ?_) ?_
      rotate_left 1
      · go_simp <;> with_reducible rfl
      simp only [Act.put, List.setIfInBounds_toArray, List.set_cons_succ, List.set_cons_zero]
      refine flow_val ?_ rfl (by kernel_rfl) (by rfl) (fun W hW => ?_) ?_
      rotate_left 1
      · go_simp <;> with_reducible rfl
      simp only [Act.put, List.setIfInBounds_toArray, List.set_cons_succ, List.set_cons_zero]
      refine flow_val ?_ rfl (by kernel_rfl) (by rfl) (fun W hW => ?_) ?_
      rotate_left 1
      · obtain ⟨_, c1⟩ := HC.out W hW; go_simp <;> with_reducible rfl
      simp only [Act.put, List.setIfInBounds_toArray, List.set_cons_succ, List.set_cons_zero]
      refine flow_val ?_ rfl (by kernel_rfl) (by rfl) (fun W hW => ?_) ?_
      rotate_left 1
      · go_simp <;> with_reducible rfl
      simp only [Act.put, List.setIfInBounds_toArray, List.set_cons_succ, List.set_cons_zero]
      refine flow_val ?_ rfl (by kernel_rfl) (by rfl) (fun W hW => ?_) ?_
      rotate_left 1
      · go_simp <;> with_reducible rfl
      simp only [Act.put, List.setIfInBounds_toArray, List.set_cons_succ, List.set_cons_zero]
      refine flow_val ?_ rfl (by kernel_rfl) (by rfl) (fun W hW => ?_) ?_
      rotate_left 1
      · go_simp <;> with_reducible rfl
      simp only [Act.put, List.setIfInBounds_toArray, List.set_cons_succ, List.set_cons_zero]
      refine flow_val ?_ rfl (by kernel_rfl) (by rfl) (fun W hW => ?_) ?_
      rotate_left 1
      · obtain ⟨c0, _⟩ := HC.out W hW; go_simp <;> with_reducible rfl
      simp only [Act.put, List.setIfInBounds_toArray, List.set_cons_succ, List.set_cons_zero]
      refine flow_val ?_ rfl (by kernel_rfl) (by rfl) (fun W hW => ?_) ?_
      rotate_left 1
      · go_simp <;> with_reducible rfl
      simp only [Act.put, List.setIfInBounds_toArray, List.set_cons_succ, List.set_cons_zero]
      refine flow_gcall (fun v W => ∃ p, v = .pointer (some ⟨p, 0, none⟩) ∧ Mk w p ([], false) W) rfl (by kernel_rfl) (by rfl) (by kernel_rfl) (fun W hW hC => ⟨_, _, _, by go_simp, (new_any W).mono fun e w1 hh => ?_⟩) ?_
      · obtain ⟨he, hM, hb⟩ := hh
        exact ⟨_, he, hW.trans (hb.mono hW.size), _, rfl, ⟨none, hM, hW.size, by simp, hW.trans (hb.mono hW.size)⟩⟩
      rintro v10 ⟨_, _, pm, rfl, _⟩
      simp only [Act.put, List.setIfInBounds_toArray, List.set_cons_succ, List.set_cons_zero]
      refine flow_turn (.pointer (some ⟨pm, 0, none⟩)) (fun W => Mk w pm (putS ([], false) (numB out)) W) rfl (by kernel_rfl) (by rfl) (by kernel_rfl) (fun W hW hC => ?_) ?_
      · have hM : Mk w pm (([], false)) W := by
          obtain ⟨g2, e2, h2⟩ := hC
          injection e2 with e2
          injection e2 with e2
          injection e2 with e2 _ _
          subst e2
          exact h2
        refine ⟨_, _, _, by go_simp, (mkk_num hM out ⟨by omega, ho.2⟩).mono fun e w1 hh => ?_⟩
        obtain ⟨he, h1, _, _, h5⟩ := hh
        exact ⟨he, ⟨h1.below, trivial⟩, h1⟩
      simp only [Act.put, List.setIfInBounds_toArray, List.set_cons_succ, List.set_cons_zero]
      refine flow_turn (.pointer (some ⟨pm, 0, none⟩)) (fun W => Mk w pm ((pk rs out 0, false)) W) rfl (by kernel_rfl) (by rfl) (by kernel_rfl) (fun W hW hC => ?_) ?_
      · have hM : Mk w pm (putS ([], false) (numB out)) W := by
          exact hC
        refine ⟨_, _, _, by go_simp, (mkk_num hM n ⟨by omega, by omega⟩).mono fun e w1 hh => ?_⟩
        obtain ⟨he, h1, _, _, h5⟩ := hh
        rw [HK0.out] at h1
        exact ⟨he, ⟨⟨h1.below, trivial⟩, trivial⟩, h1⟩
      simp only [Act.put, List.setIfInBounds_toArray, List.set_cons_succ, List.set_cons_zero]
      refine flow_gmake (fun v W => ∃ g, v = .pointer (some ⟨g, 0, none⟩) ∧ w.heap.size ≤ g ∧ W.heap[g]? = some (.cells #[.pointer none] 75 (0, 0)) ∧ Mk w pm ((pk rs out 0, false)) W) rfl (by kernel_rfl) (by rfl) (by kernel_rfl) (fun W hW hC => ?_) ?_
      · have hb : Below W.heap.size W (W.alloc (.cells #[.pointer none] 75)) := (Below.refl _ W).alloc (Nat.le_refl _) _
        have hM : Mk w pm ((pk rs out 0, false)) W := by
          exact hC
        exact ⟨_, _, by go_simp <;> with_reducible rfl, ⟨⟨⟨hW.1.1.1.trans (hb.mono hW.1.1.1.size), trivial⟩, trivial⟩, trivial⟩, ⟨_, rfl, hW.1.1.1.size, block_new _ _, hM.keep hb⟩⟩
      rintro v3 ⟨_, _, px, rfl, hpx, _, _⟩
      simp only [Act.put, List.setIfInBounds_toArray, List.set_cons_succ, List.set_cons_zero]
      refine flow_bar (fun W => PkM w (pk rs out 0, false) pm px W) (fun _ => True) rfl (by kernel_rfl) (by rfl) (by kernel_rfl) (by kernel_rfl) (fun W hW hC => ?_) ?_
      · have hM : Mk w pm ((pk rs out 0, false)) W ∧ W.heap[px]? = some (.cells #[.pointer none] 75 (0, 0)) := by
          obtain ⟨g2, e2, _, h2, h3⟩ := hC
          injection e2 with e2
          injection e2 with e2
          injection e2 with e2 _ _
          subst e2
          exact ⟨h3, h2⟩
        obtain ⟨h1, h2⟩ := hM
        have q1 := cell_at h2 0
        have q2 := frozen_at h2 0
        have H1 := Lib.hid h1
        have H2 := Lib.hid h2
        clear h1 h2 hC hW
        refine ⟨_, by go_simp <;> with_reducible rfl, ⟨?_, ?_, hpx⟩, trivial⟩
        · exact H1.out.set H2.out (by decide) (by decide) hpx 0 _
        · rw [block_set H2.out]; rfl
      simp only [Act.put]
      refine flow_end ?_
      rintro W ⟨hR, _⟩ _
      exact .inl ⟨by trivial, pm, px, rfl, hR⟩
    · refine ok_split 12 5 (by decide) ?_ ?_
      · simp only [addAfter, addL]
        refine ok_flow (fun W => Below w.heap.size w W) Nil_ [1, 2, 3, 4, 6, 7, 8, 9, 10, 0, 5, 12, 11, 13] (fun _ => trivial) rfl (fun _ _ _ _ _ h => callsIn_wide.2 h) (by kernel_rfl) (by kernel_rfl) ((Below.refl _ w).drew) (trivial) ?_
        refine flow_val ?_ rfl (by kernel_rfl) (by rfl) (fun W hW => ?_) ?_
        rotate_left 1
        · go_simp <;> with_reducible rfl
        simp only [Act.put, List.setIfInBounds_toArray, List.set_cons_succ, List.set_cons_zero]
        refine flow_val ?_ rfl (by kernel_rfl) (by rfl) (fun W hW => ?_) ?_
        rotate_left 1
        · go_simp <;> with_reducible rfl
        simp only [Act.put, List.setIfInBounds_toArray, List.set_cons_succ, List.set_cons_zero]
        refine flow_val ?_ rfl (by kernel_rfl) (by rfl) (fun W hW => ?_) ?_
        rotate_left 1
        · go_simp <;> with_reducible rfl
        simp only [Act.put, List.setIfInBounds_toArray, List.set_cons_succ, List.set_cons_zero]
        refine flow_val ?_ rfl (by kernel_rfl) (by rfl) (fun W hW => ?_) ?_
        rotate_left 1
        · obtain ⟨_, c1⟩ := HC.out W hW; go_simp <;> with_reducible rfl
        simp only [Act.put, List.setIfInBounds_toArray, List.set_cons_succ, List.set_cons_zero]
        refine flow_val ?_ rfl (by kernel_rfl) (by rfl) (fun W hW => ?_) ?_
        rotate_left 1
        · go_simp <;> with_reducible rfl
        simp only [Act.put, List.setIfInBounds_toArray, List.set_cons_succ, List.set_cons_zero]
        refine flow_val ?_ rfl (by kernel_rfl) (by rfl) (fun W hW => ?_) ?_
        rotate_left 1
        · go_simp <;> with_reducible rfl
        simp only [Act.put, List.setIfInBounds_toArray, List.set_cons_succ, List.set_cons_zero]
        refine flow_val ?_ rfl (by kernel_rfl) (by rfl) (fun W hW => ?_) ?_
        rotate_left 1
        · go_simp <;> with_reducible rfl
        simp only [Act.put, List.setIfInBounds_toArray, List.set_cons_succ, List.set_cons_zero]
        refine flow_val ?_ rfl (by kernel_rfl) (by rfl) (fun W hW => ?_) ?_
        rotate_left 1
        · obtain ⟨c0, _⟩ := HC.out W hW; go_simp <;> with_reducible rfl
        simp only [Act.put, List.setIfInBounds_toArray, List.set_cons_succ, List.set_cons_zero]
        refine flow_val ?_ rfl (by kernel_rfl) (by rfl) (fun W hW => ?_) ?_
        rotate_left 1
        · go_simp <;> with_reducible rfl
        simp only [Act.put, List.setIfInBounds_toArray, List.set_cons_succ, List.set_cons_zero]
        refine flow_gcall (fun v W => ∃ p, v = .pointer (some ⟨p, 0, none⟩) ∧ Mk w p ([], false) W) rfl (by kernel_rfl) (by rfl) (by kernel_rfl) (fun W hW hC => ⟨_, _, _, by go_simp, (new_any W).mono fun e w1 hh => ?_⟩) ?_
        · obtain ⟨he, hM, hb⟩ := hh
          exact ⟨_, he, hW.trans (hb.mono hW.size), _, rfl, ⟨none, hM, hW.size, by simp, hW.trans (hb.mono hW.size)⟩⟩
        rintro v10 ⟨_, _, pm, rfl, _⟩
        simp only [Act.put, List.setIfInBounds_toArray, List.set_cons_succ, List.set_cons_zero]
        refine flow_turn (.pointer (some ⟨pm, 0, none⟩)) (fun W => Mk w pm (putS ([], false) (numB out)) W) rfl (by kernel_rfl) (by rfl) (by kernel_rfl) (fun W hW hC => ?_) ?_
        · have hM : Mk w pm (([], false)) W := by
            obtain ⟨g2, e2, h2⟩ := hC
            injection e2 with e2
            injection e2 with e2
            injection e2 with e2 _ _
            subst e2
            exact h2
          refine ⟨_, _, _, by go_simp, (mkk_num hM out ⟨by omega, ho.2⟩).mono fun e w1 hh => ?_⟩
          obtain ⟨he, h1, _, _, h5⟩ := hh
          exact ⟨he, ⟨h1.below, trivial⟩, h1⟩
        simp only [Act.put, List.setIfInBounds_toArray, List.set_cons_succ, List.set_cons_zero]
        refine flow_gmake (fun v W => ∃ g, v = .pointer (some ⟨g, 0, none⟩) ∧ w.heap.size ≤ g ∧ W.heap[g]? = some (.cells #[.pointer none] 75 (0, 0)) ∧ Mk w pm (putS ([], false) (numB out)) W) rfl (by kernel_rfl) (by rfl) (by kernel_rfl) (fun W hW hC => ?_) ?_
        · have hb : Below W.heap.size W (W.alloc (.cells #[.pointer none] 75)) := (Below.refl _ W).alloc (Nat.le_refl _) _
          have hM : Mk w pm (putS ([], false) (numB out)) W := by
            exact hC
          exact ⟨_, _, by go_simp <;> with_reducible rfl, ⟨⟨hW.1.1.trans (hb.mono hW.1.1.size), trivial⟩, trivial⟩, ⟨_, rfl, hW.1.1.size, block_new _ _, hM.keep hb⟩⟩
        rintro v3 ⟨_, _, px, rfl, hpx, _, _⟩
        simp only [Act.put, List.setIfInBounds_toArray, List.set_cons_succ, List.set_cons_zero]
        refine flow_turn (.pointer (some ⟨pm, 0, none⟩)) (fun W => Mk w pm ((pk rs out 0, false)) W ∧ W.heap[px]? = some (.cells #[.pointer none] 75 (0, 0))) rfl (by kernel_rfl) (by rfl) (by kernel_rfl) (fun W hW hC => ?_) ?_
        · have hM : Mk w pm (putS ([], false) (numB out)) W ∧ W.heap[px]? = some (.cells #[.pointer none] 75 (0, 0)) := by
            obtain ⟨g2, e2, _, h2, h3⟩ := hC
            injection e2 with e2
            injection e2 with e2
            injection e2 with e2 _ _
            subst e2
            exact ⟨h3, h2⟩
          refine ⟨_, _, _, by go_simp, (mkk_num hM.1 n ⟨by omega, by omega⟩).mono fun e w1 hh => ?_⟩
          obtain ⟨he, h1, _, _, h5⟩ := hh
          rw [HK0.out] at h1
          exact ⟨he, ⟨⟨⟨h1.below, trivial⟩, trivial⟩, trivial⟩, ⟨h1, h5 _ _ _ _ hM.2 (by decide) (by decide)⟩⟩
        simp only [Act.put, List.setIfInBounds_toArray, List.set_cons_succ, List.set_cons_zero]
        refine flow_bar (fun W => PkM w (pk rs out 0, false) pm px W) (fun _ => True) rfl (by kernel_rfl) (by rfl) (by kernel_rfl) (by kernel_rfl) (fun W hW hC => ?_) ?_
        · have hM : Mk w pm ((pk rs out 0, false)) W ∧ W.heap[px]? = some (.cells #[.pointer none] 75 (0, 0)) := by
            exact hC
          obtain ⟨h1, h2⟩ := hM
          have q1 := cell_at h2 0
          have q2 := frozen_at h2 0
          have H1 := Lib.hid h1
          have H2 := Lib.hid h2
          clear h1 h2 hC hW
          refine ⟨_, by go_simp <;> with_reducible rfl, ⟨?_, ?_, hpx⟩, trivial⟩
          · exact H1.out.set H2.out (by decide) (by decide) hpx 0 _
          · rw [block_set H2.out]; rfl
        simp only [Act.put]
        refine flow_end ?_
        rintro W ⟨hR, _⟩ _
        exact .inl ⟨by trivial, pm, px, rfl, hR⟩
      · refine ok_split 12 0 (by decide) ?_ ?_
        · simp only [addAfter, addL]
          refine ok_flow (fun W => Below w.heap.size w W) Nil_ [1, 2, 3, 4, 6, 7, 8, 9, 10, 0, 12, 5, 11, 13] (fun _ => trivial) rfl (fun _ _ _ _ _ h => callsIn_wide.2 h) (by kernel_rfl) (by kernel_rfl) ((Below.refl _ w).drew) (trivial) ?_
          refine flow_val ?_ rfl (by kernel_rfl) (by rfl) (fun W hW => ?_) ?_
          rotate_left 1
          · go_simp <;> with_reducible rfl
          simp only [Act.put, List.setIfInBounds_toArray, List.set_cons_succ, List.set_cons_zero]
          refine flow_val ?_ rfl (by kernel_rfl) (by rfl) (fun W hW => ?_) ?_
          rotate_left 1
          · go_simp <;> with_reducible rfl
          simp only [Act.put, List.setIfInBounds_toArray, List.set_cons_succ, List.set_cons_zero]
          refine flow_val ?_ rfl (by kernel_rfl) (by rfl) (fun W hW => ?_) ?_
          rotate_left 1
          · go_simp <;> with_reducible rfl
          simp only [Act.put, List.setIfInBounds_toArray, List.set_cons_succ, List.set_cons_zero]
          refine flow_val ?_ rfl (by kernel_rfl) (by rfl) (fun W hW => ?_) ?_
          rotate_left 1
          · obtain ⟨_, c1⟩ := HC.out W hW; go_simp <;> with_reducible rfl
          simp only [Act.put, List.setIfInBounds_toArray, List.set_cons_succ, List.set_cons_zero]
          refine flow_val ?_ rfl (by kernel_rfl) (by rfl) (fun W hW => ?_) ?_
          rotate_left 1
          · go_simp <;> with_reducible rfl
          simp only [Act.put, List.setIfInBounds_toArray, List.set_cons_succ, List.set_cons_zero]
          refine flow_val ?_ rfl (by kernel_rfl) (by rfl) (fun W hW => ?_) ?_
          rotate_left 1
          · go_simp <;> with_reducible rfl
          simp only [Act.put, List.setIfInBounds_toArray, List.set_cons_succ, List.set_cons_zero]
          refine flow_val ?_ rfl (by kernel_rfl) (by rfl) (fun W hW => ?_) ?_
          rotate_left 1
          · go_simp <;> with_reducible rfl
          simp only [Act.put, List.setIfInBounds_toArray, List.set_cons_succ, List.set_cons_zero]
          refine flow_val ?_ rfl (by kernel_rfl) (by rfl) (fun W hW => ?_) ?_
          rotate_left 1
          · obtain ⟨c0, _⟩ := HC.out W hW; go_simp <;> with_reducible rfl
          simp only [Act.put, List.setIfInBounds_toArray, List.set_cons_succ, List.set_cons_zero]
          refine flow_val ?_ rfl (by kernel_rfl) (by rfl) (fun W hW => ?_) ?_
          rotate_left 1
          · go_simp <;> with_reducible rfl
          simp only [Act.put, List.setIfInBounds_toArray, List.set_cons_succ, List.set_cons_zero]
          refine flow_gcall (fun v W => ∃ p, v = .pointer (some ⟨p, 0, none⟩) ∧ Mk w p ([], false) W) rfl (by kernel_rfl) (by rfl) (by kernel_rfl) (fun W hW hC => ⟨_, _, _, by go_simp, (new_any W).mono fun e w1 hh => ?_⟩) ?_
          · obtain ⟨he, hM, hb⟩ := hh
            exact ⟨_, he, hW.trans (hb.mono hW.size), _, rfl, ⟨none, hM, hW.size, by simp, hW.trans (hb.mono hW.size)⟩⟩
          rintro v10 ⟨_, _, pm, rfl, _⟩
          simp only [Act.put, List.setIfInBounds_toArray, List.set_cons_succ, List.set_cons_zero]
          refine flow_gmake (fun v W => ∃ g, v = .pointer (some ⟨g, 0, none⟩) ∧ w.heap.size ≤ g ∧ W.heap[g]? = some (.cells #[.pointer none] 75 (0, 0)) ∧ Mk w pm (([], false)) W) rfl (by kernel_rfl) (by rfl) (by kernel_rfl) (fun W hW hC => ?_) ?_
          · have hb : Below W.heap.size W (W.alloc (.cells #[.pointer none] 75)) := (Below.refl _ W).alloc (Nat.le_refl _) _
            have hM : Mk w pm (([], false)) W := by
              obtain ⟨g2, e2, h2⟩ := hC
              injection e2 with e2
              injection e2 with e2
              injection e2 with e2 _ _
              subst e2
              exact h2
            exact ⟨_, _, by go_simp <;> with_reducible rfl, ⟨hW.1.trans (hb.mono hW.1.size), trivial⟩, ⟨_, rfl, hW.1.size, block_new _ _, hM.keep hb⟩⟩
          rintro v3 ⟨_, _, px, rfl, hpx, _, _⟩
          simp only [Act.put, List.setIfInBounds_toArray, List.set_cons_succ, List.set_cons_zero]
          refine flow_turn (.pointer (some ⟨pm, 0, none⟩)) (fun W => Mk w pm (putS ([], false) (numB out)) W ∧ W.heap[px]? = some (.cells #[.pointer none] 75 (0, 0))) rfl (by kernel_rfl) (by rfl) (by kernel_rfl) (fun W hW hC => ?_) ?_
          · have hM : Mk w pm (([], false)) W ∧ W.heap[px]? = some (.cells #[.pointer none] 75 (0, 0)) := by
              obtain ⟨g2, e2, _, h2, h3⟩ := hC
              injection e2 with e2
              injection e2 with e2
              injection e2 with e2 _ _
              subst e2
              exact ⟨h3, h2⟩
            refine ⟨_, _, _, by go_simp, (mkk_num hM.1 out ⟨by omega, ho.2⟩).mono fun e w1 hh => ?_⟩
            obtain ⟨he, h1, _, _, h5⟩ := hh
            exact ⟨he, ⟨⟨h1.below, trivial⟩, trivial⟩, ⟨h1, h5 _ _ _ _ hM.2 (by decide) (by decide)⟩⟩
          simp only [Act.put, List.setIfInBounds_toArray, List.set_cons_succ, List.set_cons_zero]
          refine flow_turn (.pointer (some ⟨pm, 0, none⟩)) (fun W => Mk w pm ((pk rs out 0, false)) W ∧ W.heap[px]? = some (.cells #[.pointer none] 75 (0, 0))) rfl (by kernel_rfl) (by rfl) (by kernel_rfl) (fun W hW hC => ?_) ?_
          · have hM : Mk w pm (putS ([], false) (numB out)) W ∧ W.heap[px]? = some (.cells #[.pointer none] 75 (0, 0)) := by
              exact hC
            refine ⟨_, _, _, by go_simp, (mkk_num hM.1 n ⟨by omega, by omega⟩).mono fun e w1 hh => ?_⟩
            obtain ⟨he, h1, _, _, h5⟩ := hh
            rw [HK0.out] at h1
            exact ⟨he, ⟨⟨⟨h1.below, trivial⟩, trivial⟩, trivial⟩, ⟨h1, h5 _ _ _ _ hM.2 (by decide) (by decide)⟩⟩
          simp only [Act.put, List.setIfInBounds_toArray, List.set_cons_succ, List.set_cons_zero]
          refine flow_bar (fun W => PkM w (pk rs out 0, false) pm px W) (fun _ => True) rfl (by kernel_rfl) (by rfl) (by kernel_rfl) (by kernel_rfl) (fun W hW hC => ?_) ?_
          · have hM : Mk w pm ((pk rs out 0, false)) W ∧ W.heap[px]? = some (.cells #[.pointer none] 75 (0, 0)) := by
              exact hC
            obtain ⟨h1, h2⟩ := hM
            have q1 := cell_at h2 0
            have q2 := frozen_at h2 0
            have H1 := Lib.hid h1
            have H2 := Lib.hid h2
            clear h1 h2 hC hW
            refine ⟨_, by go_simp <;> with_reducible rfl, ⟨?_, ?_, hpx⟩, trivial⟩
            · exact H1.out.set H2.out (by decide) (by decide) hpx 0 _
            · rw [block_set H2.out]; rfl
          simp only [Act.put]
          refine flow_end ?_
          rintro W ⟨hR, _⟩ _
          exact .inl ⟨by trivial, pm, px, rfl, hR⟩
        · simp only [addAfter, addL]
          refine ok_flow (fun W => Below w.heap.size w W) Nil_ [1, 2, 3, 4, 6, 7, 8, 9, 10, 12, 0, 5, 11, 13] (fun _ => trivial) rfl (fun _ _ _ _ _ h => callsIn_wide.2 h) (by kernel_rfl) (by kernel_rfl) ((Below.refl _ w).drew) (trivial) ?_
          refine flow_val ?_ rfl (by kernel_rfl) (by rfl) (fun W hW => ?_) ?_
          rotate_left 1
          · go_simp <;> with_reducible rfl
          simp only [Act.put, List.setIfInBounds_toArray, List.set_cons_succ, List.set_cons_zero]
          refine flow_val ?_ rfl (by kernel_rfl) (by rfl) (fun W hW => ?_) ?_
          rotate_left 1
          · go_simp <;> with_reducible rfl
          simp only [Act.put, List.setIfInBounds_toArray, List.set_cons_succ, List.set_cons_zero]
          refine flow_val ?_ rfl (by kernel_rfl) (by rfl) (fun W hW => ?_) ?_
          rotate_left 1
          · go_simp <;> with_reducible rfl
          simp only [Act.put, List.setIfInBounds_toArray, List.set_cons_succ, List.set_cons_zero]
          refine flow_val ?_ rfl (by kernel_rfl) (by rfl) (fun W hW => ?_) ?_
          rotate_left 1
          · obtain ⟨_, c1⟩ := HC.out W hW; go_simp <;> with_reducible rfl
          simp only [Act.put, List.setIfInBounds_toArray, List.set_cons_succ, List.set_cons_zero]
          refine flow_val ?_ rfl (by kernel_rfl) (by rfl) (fun W hW => ?_) ?_
          rotate_left 1
          · go_simp <;> with_reducible rfl
          simp only [Act.put, List.setIfInBounds_toArray, List.set_cons_succ, List.set_cons_zero]
          refine flow_val ?_ rfl (by kernel_rfl) (by rfl) (fun W hW => ?_) ?_
          rotate_left 1
          · go_simp <;> with_reducible rfl
          simp only [Act.put, List.setIfInBounds_toArray, List.set_cons_succ, List.set_cons_zero]
          refine flow_val ?_ rfl (by kernel_rfl) (by rfl) (fun W hW => ?_) ?_
          rotate_left 1
          · go_simp <;> with_reducible rfl
          simp only [Act.put, List.setIfInBounds_toArray, List.set_cons_succ, List.set_cons_zero]
          refine flow_val ?_ rfl (by kernel_rfl) (by rfl) (fun W hW => ?_) ?_
          rotate_left 1
          · obtain ⟨c0, _⟩ := HC.out W hW; go_simp <;> with_reducible rfl
          simp only [Act.put, List.setIfInBounds_toArray, List.set_cons_succ, List.set_cons_zero]
          refine flow_val ?_ rfl (by kernel_rfl) (by rfl) (fun W hW => ?_) ?_
          rotate_left 1
          · go_simp <;> with_reducible rfl
          simp only [Act.put, List.setIfInBounds_toArray, List.set_cons_succ, List.set_cons_zero]
          refine flow_gmake (fun v W => ∃ g, v = .pointer (some ⟨g, 0, none⟩) ∧ w.heap.size ≤ g ∧ W.heap[g]? = some (.cells #[.pointer none] 75 (0, 0))) rfl (by kernel_rfl) (by rfl) (by kernel_rfl) (fun W hW hC => ?_) ?_
          · have hb : Below W.heap.size W (W.alloc (.cells #[.pointer none] 75)) := (Below.refl _ W).alloc (Nat.le_refl _) _
            exact ⟨_, _, by go_simp <;> with_reducible rfl, hW.trans (hb.mono hW.size), ⟨_, rfl, hW.size, block_new _ _⟩⟩
          rintro v3 ⟨_, _, px, rfl, hpx, _⟩
          simp only [Act.put, List.setIfInBounds_toArray, List.set_cons_succ, List.set_cons_zero]
          refine flow_gcall (fun v W => ∃ p, v = .pointer (some ⟨p, 0, none⟩) ∧ Mk w p ([], false) W ∧ W.heap[px]? = some (.cells #[.pointer none] 75 (0, 0))) rfl (by kernel_rfl) (by rfl) (by kernel_rfl) (fun W hW hC => ⟨_, _, _, by go_simp, (new_any W).mono fun e w1 hh => ?_⟩) ?_
          · obtain ⟨he, hM, hb⟩ := hh
            have hx : W.heap[px]? = some (.cells #[.pointer none] 75 (0, 0)) := by
              obtain ⟨g2, e2, _, h2⟩ := hC
              injection e2 with e2
              injection e2 with e2
              injection e2 with e2 _ _
              subst e2
              exact h2
            exact ⟨_, he, ⟨hW.1.trans (hb.mono hW.1.size), trivial⟩, _, rfl, ⟨none, hM, hW.1.size, by simp, hW.1.trans (hb.mono hW.1.size)⟩, (hb.block _ (lt_of_block hx)).trans hx⟩
          rintro v10 ⟨_, _, pm, rfl, _, _⟩
          simp only [Act.put, List.setIfInBounds_toArray, List.set_cons_succ, List.set_cons_zero]
          refine flow_turn (.pointer (some ⟨pm, 0, none⟩)) (fun W => Mk w pm (putS ([], false) (numB out)) W ∧ W.heap[px]? = some (.cells #[.pointer none] 75 (0, 0))) rfl (by kernel_rfl) (by rfl) (by kernel_rfl) (fun W hW hC => ?_) ?_
          · have hM : Mk w pm (([], false)) W ∧ W.heap[px]? = some (.cells #[.pointer none] 75 (0, 0)) := by
              obtain ⟨g2, e2, h2⟩ := hC
              injection e2 with e2
              injection e2 with e2
              injection e2 with e2 _ _
              subst e2
              exact h2
            refine ⟨_, _, _, by go_simp, (mkk_num hM.1 out ⟨by omega, ho.2⟩).mono fun e w1 hh => ?_⟩
            obtain ⟨he, h1, _, _, h5⟩ := hh
            exact ⟨he, ⟨⟨h1.below, trivial⟩, trivial⟩, ⟨h1, h5 _ _ _ _ hM.2 (by decide) (by decide)⟩⟩
          simp only [Act.put, List.setIfInBounds_toArray, List.set_cons_succ, List.set_cons_zero]
          refine flow_turn (.pointer (some ⟨pm, 0, none⟩)) (fun W => Mk w pm ((pk rs out 0, false)) W ∧ W.heap[px]? = some (.cells #[.pointer none] 75 (0, 0))) rfl (by kernel_rfl) (by rfl) (by kernel_rfl) (fun W hW hC => ?_) ?_
          · have hM : Mk w pm (putS ([], false) (numB out)) W ∧ W.heap[px]? = some (.cells #[.pointer none] 75 (0, 0)) := by
              exact hC
            refine ⟨_, _, _, by go_simp, (mkk_num hM.1 n ⟨by omega, by omega⟩).mono fun e w1 hh => ?_⟩
            obtain ⟨he, h1, _, _, h5⟩ := hh
            rw [HK0.out] at h1
            exact ⟨he, ⟨⟨⟨h1.below, trivial⟩, trivial⟩, trivial⟩, ⟨h1, h5 _ _ _ _ hM.2 (by decide) (by decide)⟩⟩
          simp only [Act.put, List.setIfInBounds_toArray, List.set_cons_succ, List.set_cons_zero]
          refine flow_bar (fun W => PkM w (pk rs out 0, false) pm px W) (fun _ => True) rfl (by kernel_rfl) (by rfl) (by kernel_rfl) (by kernel_rfl) (fun W hW hC => ?_) ?_
          · have hM : Mk w pm ((pk rs out 0, false)) W ∧ W.heap[px]? = some (.cells #[.pointer none] 75 (0, 0)) := by
              exact hC
            obtain ⟨h1, h2⟩ := hM
            have q1 := cell_at h2 0
            have q2 := frozen_at h2 0
            have H1 := Lib.hid h1
            have H2 := Lib.hid h2
            clear h1 h2 hC hW
            refine ⟨_, by go_simp <;> with_reducible rfl, ⟨?_, ?_, hpx⟩, trivial⟩
            · exact H1.out.set H2.out (by decide) (by decide) hpx 0 _
            · rw [block_set H2.out]; rfl
          simp only [Act.put]
          refine flow_end ?_
          rintro W ⟨hR, _⟩ _
          exact .inl ⟨by trivial, pm, px, rfl, hR⟩
  case hk =>
    rintro pm px W0 h0
    have H0 := Lib.hid h0
    clear h0
    go_wp2_with fail
    refine (all_any _ _).mono ?_
    rintro e w1 ⟨rfl, hw1⟩
    obtain ⟨pc, hpc⟩ : ∃ pc, W0.heap.size = pc := ⟨_, rfl⟩
    have hbw : Below W0.heap.size W0 w1 := by rw [← hw1]; exact (Below.refl _ W0).alloc (Nat.le_refl _) _
    have c0 : w1.heap[pc]? = some (.cells #[.pointer (some ⟨p, 0, none⟩)] 23 (0, 0)) := by rw [← hw1, ← hpc]; exact block_new _ _
    have hsz : w.heap.size ≤ W0.heap.size := H0.out.1.below.size
    have hB1 : Below w.heap.size w w1 := H0.out.1.below.trans (hbw.mono hsz)
    have h1 : PkI w out n pm px [] w1 := by
      obtain ⟨k1, k2, k3⟩ := H0.out
      refine ⟨?_, (hbw.block _ (lt_of_block k2)).trans k2, k3⟩
      have := k1.keep hbw
      rw [← HN.out]
      exact this
    have hsz1 : w.heap.size ≤ w1.heap.size := hB1.size
    rw [hpc]
    have H1 := Lib.hid h1
    have HB1 := Lib.hid hB1
    have HC0 := Lib.hid c0
    clear hw1 hpc hbw c0 hsz hB1 h1 H0
    go_wp2_with fail
    refine (wpIn_wide (n := 9)).1 ?_
    apply wpIn_rangeFunc_ownF (F := Fence.wide) (n := 9) (hro := rfl) (h1 := by omega) (gf := 36) (lb := #[.pointer (some ⟨pc, 0, none⟩)]) (hg := rfl) (hFg := trivial) (eg := enters_of Try.func36 (by kernel_rfl) rfl)
      (hseq := iter_rowsN _ w.heap.size pc B p qs out w1 (by rw [cell_at HC0.out]; rfl) (by rw [HQS.out]; exact HB.out.below HB1.out) (by omega) (by omega) (by rw [HQS.out]; exact looks_lt HB.out HB1.out)) (hKt := belowK_t) (hKb := belowK_b hsz1) (hb0 := Below.refl _ _) (hps := fun _ => rfl)
      (I := PkI w out n pm px) (Ix := fun _ _ _ => False) (hI := fun _ _ _ _ hs hg hr => pkM_own hsz1 hs hg hr) (hIx := fun _ _ _ _ _ hs _ _ => hs) (h0 := H1.out)
    case hassign =>
      intro l x W K hK
      dsimp only [encRow]
      gi_wp2
      exact hK
    case hstop =>
      rintro D c pre W3 hD hpre hf _
      exact hf.elim
    case hbody =>
      rintro l pre x W hi hlt
      obtain ⟨k1, k2, k3⟩ := hi
      have x0 := cell_at k2 0
      have K1 := Lib.hid k1
      have K2 := Lib.hid k2
      have HS := Lib.hid (pkN_succ out n pre x (by omega))
      have hx64 := Lib.hid x.2
      clear k1 k2
      gi_wp2_with fail
      refine ⟨trivial, CallsIn.mono (CallsIn.inRound l (callsIn_wide.2 (mkk_num K1.out x.1.1 hx64.out))) ?_⟩
      rintro e W2 ⟨rfl, h2, hk2, hb2, hx2⟩
      have H2 := Lib.hid h2
      have HK2 := Lib.hid hk2
      have HB2 := Lib.hid hb2
      have HX2 := Lib.hid (hx2 _ _ _ _ K2.out (by decide) (by decide))
      clear h2 hk2 hb2 hx2 x0
      gi_wp2_with fail
      refine ⟨trivial, CallsIn.mono (CallsIn.inRound l (callsIn_wide.2 (mkk_flag H2.out x.1.2))) ?_⟩
      rintro e W4 ⟨rfl, h4, hk4, hb4, hx4⟩
      rw [HS.out] at h4
      have H4 := Lib.hid h4
      have HK4 := Lib.hid (HK2.out.trans hk4)
      have HB4 := Lib.hid (HB2.out.trans hb4)
      have HX4 := Lib.hid (hx4 _ _ _ _ HX2.out (by decide) (by decide))
      clear h4 hk4 hb4 hx4
      gi_wp2
      exact ⟨HK4.out, HB4.out, H4.out, HX4.out, k3⟩
    case hdone =>
      rintro D ys W3 hD rfl ⟨k1, k2, k3⟩ hK
      have x0 := cell_at k2 0
      have hln := pk_len rs out n (by rw [HN.out]; exact hm)
      have e : numB out ++ (numB n ++ rowsB (ys.map (·.1))) = packB rs out := by rw [HQS.out, ← HN.out]; rfl
      rw [e] at k1
      have hpl := packB_len rs out
      rw [HN.out] at hpl
      have K1 := Lib.hid k1
      have HKD : Hid (W3.heap[D]? = some (.deferred (some []))) := Lib.hid hK
      obtain ⟨P, hP⟩ : ∃ P, packB rs out = P := ⟨_, rfl⟩
      rw [hP] at K1 hpl
      have HPP := Lib.hid hP
      have HBel := Lib.hid k1.below
      clear k1 k2 hK e hln hP
      obtain ⟨G, j1, j2, j3, j4⟩ := id K1.out
      have J1 := Lib.hid j1
      clear j1 j2 j3 j4
      go_wp2_with fail
      refine (mdone_any pm G (P, false) W3 J1.out (by simp only; omega)).mono ?_
      rintro e W4 ⟨v, rfl, hv, hb4⟩
      simp only [Bool.false_eq_true, if_false] at hv ⊢
      have HV := Lib.hid hv
      have HB4 := Lib.hid hb4
      have hK0 : W4.heap[D]? = some (.deferred (some [])) := (hb4.block D (lt_of_block HKD.out)).trans HKD.out
      have hK1 := Lib.hid hK0
      clear hv hb4 hK0 x0
      go_wp2_with fail
      refine ⟨by simp, .inl ⟨_, _, rfl, run_takeDeferred hK1.out, ?_⟩⟩
      have o2 := ownsRow_putObj HV.out (.deferred none) hK1.out rfl
      refine ⟨v, by simp [results, Try.f30, go_sem], v, rfl, by rw [HPP.out]; exact Bs.own_n o2, (HBel.out.trans (HB4.out.mono HBel.out.size)).trans (belowK_b (w := w) (Nat.le_refl _) _ D _ _ (by omega) hK1.out rfl rfl)⟩
end Go.Proofs.Ytglfbihdbdcgiaa
