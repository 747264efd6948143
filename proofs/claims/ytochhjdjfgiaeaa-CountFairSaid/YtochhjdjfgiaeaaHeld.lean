/- A drawn region, by one walk: where each operation yields the same value in every world of a set that all operations keep, every order comes to the same end. In a round too. -/
import Derived.OrdersIn
import Derived.OwnWalkIn
import Derived.RangeFuncCalls
namespace Go.Proofs.Ytochhjdjfgiaeaa

/-- The operation yields v in every world of S and keeps S. -/
def Held (P : Program) (S : World → Prop) (o : Oper) (v : Value) (ρ : Operand → Value) : Prop :=
  ∀ w, S w → (∃ w', (execOp ρ o).run P w = .ok (.value v) w' ∧ S w') ∨ (v = undef ∧ ∃ w', (execOp ρ o).run P w = .ok .skip w' ∧ S w') ∨
    (∃ f args w', (execOp ρ o).run P w = .ok (.enter f args) w' ∧ Calls P f args w' fun e w'' => e = .returned v ∧ S w'')

/-- What is asked of one operation. -/
def HeldOp (P : Program) (ops : Array Oper) (S : World → Prop) (o : Oper) (v : Value) (a : Act) : Prop :=
  (Region.wanted o (yielded ops a.tmps) = true ∧ Held P S o v a.eval) ∨ (Region.wanted o (yielded ops a.tmps) = false ∧ v = undef)

def HeldAll (P : Program) (ops : Array Oper) (S : World → Prop) (R : Act → Prop) : List Oper → Act → Prop
  | [], a => R a
  | o :: l, a => ∃ v, HeldOp P ops S o v a ∧ HeldAll P ops S R l (a.put o.dst v)

def tidyOp (ops : Array Oper) (i : Nat) (o : Oper) : Bool :=
  (match o.op with | .select .. => false | .defer .. => false | _ => true) && o.after.all (fun e => decide (e.on < i)) &&
  (o.looksAt ops).all (fun t => (List.range ops.size).all fun j => ((ops[j]?).bind (·.dst) != some t) || o.after.any fun e => e.on == j && Region.binds .any e) &&
  (List.range ops.size).all (fun j => j == i || o.dst.isNone || (ops[j]?).bind (·.dst) != o.dst)
/-- No operation sees what has not bound it, and none writes another's slot. -/
def tidy (ops : Array Oper) : Bool := (List.range ops.size).all fun i => match ops[i]? with | some o => tidyOp ops i o | none => true

structure Tidy (ops : Array Oper) (i : Nat) (o : Oper) : Prop where
  sel : ∀ cs b, o.op ≠ .select cs b
  dfr : ∀ c, o.op ≠ .defer c
  low : ∀ e ∈ o.after, e.on < i
  sees : ∀ t ∈ o.looksAt ops, ∀ j oj, ops[j]? = some oj → oj.dst = some t → ∃ e ∈ o.after, e.on = j ∧ Region.binds .any e = true
  own : ∀ t, o.dst = some t → ∀ j oj, ops[j]? = some oj → oj.dst = some t → j = i

theorem lt_of_some {α : Type} {xs : Array α} {i : Nat} {x : α} (h : xs[i]? = some x) : i < xs.size := (Array.getElem?_eq_some_iff.1 h).1

theorem tidy_spec {ops : Array Oper} (h : tidy ops = true) {i : Nat} {o : Oper} (ho : ops[i]? = some o) : Tidy ops i o := by
  unfold tidy at h
  rw [List.all_eq_true] at h
  have h1 := h i (List.mem_range.2 (lt_of_some ho))
  rw [ho] at h1
  simp only [tidyOp, Bool.and_eq_true] at h1
  obtain ⟨⟨⟨h1, h2⟩, h3⟩, h4⟩ := h1
  refine ⟨fun cs b e => by simp [e] at h1, fun c e => by simp [e] at h1, fun e he => ?_, fun t ht j oj hj hd => ?_, fun t ht j oj hj hd => ?_⟩
  · rw [Array.all_eq_true_iff_forall_mem] at h2
    simpa using h2 e he
  · rw [List.all_eq_true] at h3
    have := h3 t ht
    rw [List.all_eq_true] at this
    have := this j (List.mem_range.2 (lt_of_some hj))
    rw [hj, Option.bind_some, hd, Bool.or_eq_true] at this
    rcases this with h5 | h5
    · simp at h5
    · obtain ⟨k, hk, h6⟩ := Array.any_eq_true.1 h5
      rw [Bool.and_eq_true] at h6
      exact ⟨_, Array.getElem_mem hk, by simpa using h6.1, h6.2⟩
  · rw [List.all_eq_true] at h4
    have := h4 j (List.mem_range.2 (lt_of_some hj))
    rw [hj, ht] at this
    simpa [hd] using this

/-- The frame with the values of the operations that are done. -/
structure Agree (ops : Array Oper) (a₀ : Act) (vals : Nat → Value) (L : Nat → Bool) (a : Act) : Prop where
  defers : a.defers = a₀.defers
  size : a.tmps.size = a₀.tmps.size
  out : ∀ t, (∀ j o, ops[j]? = some o → o.dst = some t → L j = false) → a.tmps[t]? = a₀.tmps[t]?
  at_ : ∀ j o t, ops[j]? = some o → o.dst = some t → L j = true → t < a₀.tmps.size → a.tmps[t]? = some (vals j)

section
variable {ops : Array Oper} {a₀ : Act} {vals : Nat → Value}

theorem Agree.refl (L : Nat → Bool) (hL : ∀ j, L j = false) : Agree ops a₀ vals L a₀ :=
  ⟨rfl, rfl, fun _ _ => rfl, fun j _ _ _ _ h => by rw [hL j] at h; cases h⟩

theorem Agree.put {L L' : Nat → Bool} {a : Act} {i : Nat} {o : Oper} (h : Agree ops a₀ vals L a) (ho : ops[i]? = some o) (ht : Tidy ops i o) (hL : ∀ j, j < ops.size → L' j = (L j || j == i)) :
    Agree ops a₀ vals L' (a.put o.dst (vals i)) := by
  cases hd : o.dst with
  | none =>
    refine ⟨h.defers, h.size, fun t hj => h.out t fun j oj hoj hdj => ?_, fun j oj t hoj hdj hl hlt => h.at_ j oj t hoj hdj ?_ hlt⟩
    · have := hj j oj hoj hdj
      rw [hL j (lt_of_some hoj)] at this
      simp at this
      exact this.1
    · rw [hL j (lt_of_some hoj)] at hl
      by_cases e : j = i
      · subst e
        rw [ho] at hoj
        cases hoj
        rw [hd] at hdj
        cases hdj
      · simpa [e] using hl
  | some d =>
    refine ⟨h.defers, by simp [Act.put, h.size], fun t hj => ?_, fun j oj t hoj hdj hl hlt => ?_⟩
    · have hne : d ≠ t := by
        rintro rfl
        have := hj i o ho hd
        rw [hL i (lt_of_some ho)] at this
        simp at this
      simp only [Act.put, Array.getElem?_setIfInBounds_ne hne]
      refine h.out t fun j oj hoj hdj => ?_
      have := hj j oj hoj hdj
      rw [hL j (lt_of_some hoj)] at this
      simp at this
      exact this.1
    · by_cases e : j = i
      · subst e
        rw [ho] at hoj
        cases hoj
        rw [hd] at hdj
        cases hdj
        simp [Act.put, h.size, hlt]
      · have hne : d ≠ t := by
          rintro rfl
          exact e (ht.own d hd j oj hoj hdj)
        simp only [Act.put, Array.getElem?_setIfInBounds_ne hne]
        refine h.at_ j oj t hoj hdj ?_ hlt
        rw [hL j (lt_of_some hoj)] at hl
        simpa [e] using hl

theorem agree_at {L L' : Nat → Bool} {a a' : Act} (h : Agree ops a₀ vals L a) (h' : Agree ops a₀ vals L' a') (t : Nat)
    (ht : ∀ j o, ops[j]? = some o → o.dst = some t → L j = true ∧ L' j = true) : a.tmps[t]? = a'.tmps[t]? := by
  by_cases hx : ∃ (j : Nat) (o : Oper), ops[j]? = some o ∧ o.dst = some t
  · obtain ⟨j, o, ho, hd⟩ := hx
    obtain ⟨h1, h2⟩ := ht j o ho hd
    by_cases hlt : t < a₀.tmps.size
    · rw [h.at_ j o t ho hd h1 hlt, h'.at_ j o t ho hd h2 hlt]
    · rw [Array.getElem?_eq_none (by rw [h.size]; omega), Array.getElem?_eq_none (by rw [h'.size]; omega)]
  · rw [h.out t fun j o ho hd => absurd ⟨j, o, ho, hd⟩ hx, h'.out t fun j o ho hd => absurd ⟨j, o, ho, hd⟩ hx]

theorem agree_eq {L L' : Nat → Bool} {a a' : Act} (h : Agree ops a₀ vals L a) (h' : Agree ops a₀ vals L' a') (hL : ∀ j, j < ops.size → L j = true ∧ L' j = true) : a = a' := by
  have e : a.tmps = a'.tmps := Array.ext_getElem? fun t => agree_at h h' t fun j o ho _ => hL j (lt_of_some ho)
  have e' : a.defers = a'.defers := h.defers.trans h'.defers.symm
  cases a; cases a'; simp_all

theorem agree_op {P : Program} {S : World → Prop} {L L' : Nat → Bool} {a a' : Act} {i : Nat} {o : Oper} {v : Value} (h : Agree ops a₀ vals L a) (h' : Agree ops a₀ vals L' a') (hti : Tidy ops i o)
    (hL : ∀ e ∈ o.after, Region.binds .any e = true → L e.on = true ∧ L' e.on = true) (hh : HeldOp P ops S o v a) : HeldOp P ops S o v a' := by
  have same : ∀ t ∈ o.looksAt ops, a.tmps[t]? = a'.tmps[t]? := fun t ht => agree_at h h' t fun j oj hj hd => by
    obtain ⟨e, he, rfl, hb⟩ := hti.sees t ht j oj hj hd
    exact hL e he hb
  have e1 : execOp a.eval o = execOp a'.eval o := execOp_congr o hti.sel fun x hx => by
    cases x with
    | tmp t =>
      have := same t (List.mem_append_left _ (List.mem_filterMap.2 ⟨.tmp t, by simpa using hx, rfl⟩))
      simp only [Act.eval, Array.getD_eq_getD_getElem?, this]
    | _ => rfl
  have e2 : Region.wanted o (yielded ops a.tmps) = Region.wanted o (yielded ops a'.tmps) := by
    unfold Region.wanted
    cases hg : o.guard with
    | none => rfl
    | some gw =>
      obtain ⟨g, want⟩ := gw
      have hy : yielded ops a.tmps g = yielded ops a'.tmps g := by
        unfold yielded
        cases ht : (ops[g]?).bind (·.dst) with
        | none => rfl
        | some t =>
          have := same t (List.mem_append_right _ (by simp [hg, ht]))
          simp only [Option.bind_some, this]
      simp only [hy]
  unfold HeldOp Held at *
  rw [← e1, ← e2]
  exact hh

theorem heldAll_vals {P : Program} {S : World → Prop} {R : Act → Prop} (hti : ∀ i o, ops[i]? = some o → Tidy ops i o) : ∀ (l : List Oper) (k : Nat) (a : Act), HeldAll P ops S R l a → (∀ j, l[j]? = ops[k + j]?) →
    ∃ vs : Nat → Value, ∀ vals : Nat → Value, (∀ j, j < l.length → vals (k + j) = vs j) → Agree ops a₀ vals (fun j => decide (j < k)) a →
      (∀ j o, l[j]? = some o → ∃ a', Agree ops a₀ vals (fun i => decide (i < k + j)) a' ∧ HeldOp P ops S o (vals (k + j)) a') ∧
      ∃ af, Agree ops a₀ vals (fun i => decide (i < k + l.length)) af ∧ R af := by
  intro l
  induction l with
  | nil => exact fun k a h _ => ⟨fun _ => undef, fun vals _ hA => ⟨fun j o hj => by simp at hj, a, hA, h⟩⟩
  | cons o l ih =>
    intro k a h hl
    obtain ⟨v, h1, h2⟩ := h
    have ho : ops[k]? = some o := by rw [← Nat.add_zero k, ← hl 0]; rfl
    obtain ⟨vs, hvs⟩ := ih (k + 1) _ h2 fun j => by
      have := hl (j + 1)
      rw [List.getElem?_cons_succ] at this
      rw [this]
      congr 1
      omega
    refine ⟨fun j => if j = 0 then v else vs (j - 1), fun vals hv hA => ?_⟩
    have hv0 : vals k = v := hv 0 (by simp)
    have hA' : Agree ops a₀ vals (fun j => decide (j < k + 1)) (a.put o.dst v) := by
      rw [← hv0]
      refine hA.put ho (hti k o ho) fun j _ => ?_
      by_cases e : j = k
      · simp [e]
      · by_cases e' : j < k
        · simp [e', show j < k + 1 by omega]
        · simp [e, show ¬ j < k + 1 by omega]; omega
    obtain ⟨g1, af, g2, g3⟩ := hvs vals (fun j hj => by
      have := hv (j + 1) (by simp; omega)
      rw [show k + 1 + j = k + (j + 1) by omega, this]
      simp) hA'
    refine ⟨fun j oj hj => ?_, af, ?_, g3⟩
    · cases j with
      | zero =>
        simp at hj
        subst hj
        exact ⟨a, hA, by rw [Nat.add_zero, hv0]; exact h1⟩
      | succ j =>
        rw [List.getElem?_cons_succ] at hj
        obtain ⟨a', h3, h4⟩ := g1 j oj hj
        rw [show k + (j + 1) = k + 1 + j by omega]
        exact ⟨a', h3, h4⟩
    · rw [List.length_cons, show k + (l.length + 1) = k + 1 + l.length by omega]
      exact g2

end

theorem heldOp_wpOpIn {F : Fence} {n : Nat} {P : Program} {ops : Array Oper} {Q : Exit → Act → World → Prop} {S : World → Prop} {i : Nat} {o : Oper} {v : Value} {a : Act} {w : World} {K : Act → World → Prop}
    (hF : ∀ f, F.fn f) (hd : F.depth = none) (hc : ∀ n f args w R, Calls P f args w R → CallsIn F n P f args w R) (ho : ops[i]? = some o) (ht : Tidy ops i o) (hS : S w)
    (h : HeldOp P ops S o v a) (hK : ∀ w', S w' → K (a.put o.dst v) w') : wpOpIn F n P ops Q i K a w := by
  unfold wpOpIn
  rw [ho]
  simp only
  rcases h with ⟨hw, h⟩ | ⟨hw, rfl⟩
  · rw [if_pos hw]
    refine ⟨fun f _ => hF f, ?_⟩
    rw [Oper.semAt_plain F _ _ ht.dfr]
    rcases h w hS with ⟨w', h1, h2⟩ | ⟨rfl, w', h1, h2⟩ | ⟨f, args, w', h1, h2⟩
    · rw [h1]; exact hK _ h2
    · rw [h1]; exact hK _ h2
    · rw [h1, Oper.uponIn_enter]
      refine ⟨fun e => by rw [hd] at e; simp at e, (hc _ _ _ _ _ h2).mono fun e w'' ⟨he, hs⟩ => ?_⟩
      subst he
      exact hK _ hs
  · rw [if_neg (by rw [hw]; simp)]
    exact ⟨fun f _ => hF f, hK _ hS⟩

theorem wpIn_region_held {F : Fence} {n : Nat} {P : Program} {ops : Array Oper} {id : Nat} {Q : Exit → Act → World → Prop} {a : Act} {w : World} (S : World → Prop)
    (hF : ∀ f, F.fn f) (hd : F.depth = none) (hc : ∀ n f args w R, Calls P f args w R → CallsIn F n P f args w R) (hm : P.follows .mixedOrders = true) (ht : tidy ops = true)
    (hS : S w.drew) (h : HeldAll P ops S (fun a => ∀ w, S w → Q .normal a w) ops.toList a) : (Code.region id ops true).wpIn F n P Q a w := by
  have hti : ∀ i o, ops[i]? = some o → Tidy ops i o := fun i o ho => tidy_spec ht ho
  obtain ⟨vals, hv⟩ := heldAll_vals (a₀ := a) hti ops.toList 0 a h fun j => by simp
  obtain ⟨h1, af, h2, h3⟩ := hv vals (fun j _ => by simp) (Agree.refl _ fun j => by simp)
  refine wpIn_region_any hm ?_
  have key : ∀ (fuel : Nat) (listed : Array Bool) (b : Act) (w : World), listed.size = ops.size → Agree ops a vals (fun j => listed.getD j false) b → S w → listed.toList.count false ≤ fuel →
      wpAnyIn F n P .any ops Q fuel listed b w := by
    have fin : ∀ (listed : Array Bool) (b : Act) (w : World), listed.size = ops.size → Agree ops a vals (fun j => listed.getD j false) b → S w → (∀ j, j < ops.size → listed.getD j false = true) → Q .normal b w := by
      intro listed b w hsz hA hs hall
      have : b = af := agree_eq hA h2 fun j hj => ⟨hall j hj, by simpa using hj⟩
      subst this
      exact h3 w hs
    have rdy : ∀ (listed : Array Bool), listed.size = ops.size → Region.ready .any ops listed = [] → ∀ j, j < ops.size → listed.getD j false = true := by
      intro listed hsz hr j
      induction j using Nat.strongRecOn with
      | ind j ih =>
        intro hj
        have hjl : j < listed.size := by omega
        cases hx : listed[j] with
        | true => simp [hjl, hx]
        | false =>
          have : j ∈ Region.ready .any ops listed := mem_ready.2 ⟨by simp [hjl, hx], ops[j], by simp [hj], fun e he _ => by
            have := (hti j ops[j] (by simp [hj])).low e he
            exact ih e.on this (by omega)⟩
          rw [hr] at this
          cases this
    intro fuel
    induction fuel with
    | zero =>
      intro listed b w hsz hA hs hcnt
      have hall : ∀ j, j < ops.size → listed.getD j false = true := fun j hj => by
        have hjl : j < listed.size := by omega
        cases hx : listed[j] with
        | true => simp [hjl, hx]
        | false =>
          have : false ∈ listed.toList := by
            rw [← hx]
            simp
          have := List.count_pos_iff.2 this
          omega
      refine ⟨?_, fin listed b w hsz hA hs hall⟩
      cases hr : Region.ready .any ops listed with
      | nil => rfl
      | cons x xs =>
        have hx : x ∈ Region.ready .any ops listed := by rw [hr]; simp
        obtain ⟨h5, o, h6, _⟩ := mem_ready.1 hx
        have h7 := hall x (lt_of_some h6)
        have hlt : x < listed.size := by rw [hsz]; exact lt_of_some h6
        simp [hlt] at h5 h7
        rw [h5] at h7
        cases h7
    | succ fuel ih =>
      intro listed b w hsz hA hs hcnt
      refine ⟨fun hr => fin listed b w hsz hA hs (rdy listed hsz hr), fun i hi => ?_⟩
      obtain ⟨h5, o, h6, h7⟩ := mem_ready.1 hi
      have hlt : i < listed.size := by rw [hsz]; exact lt_of_some h6
      have h5' : listed[i] = false := by simpa [hlt] using h5
      obtain ⟨a', h8, h9⟩ := h1 i o (by simpa using h6)
      rw [Nat.zero_add] at h8 h9
      have h10 : HeldOp P ops S o (vals i) b := agree_op h8 hA (hti i o h6) (fun e he hb => ⟨by simpa using (hti i o h6).low e he, h7 e he hb⟩) h9
      refine heldOp_wpOpIn hF hd hc h6 (hti i o h6) hs h10 fun w' hs' => ih _ _ _ (by simpa using hsz) ?_ hs' ?_
      · refine hA.put h6 (hti i o h6) fun j hj => ?_
        have hjl : j < listed.size := by omega
        by_cases e : j = i
        · subst e; simp [hjl]
        · rw [Array.getD_eq_getD_getElem?, Array.getElem?_setIfInBounds_ne (Ne.symm e)]
          simp [e]
      · have hc1 : (listed.setIfInBounds i true).toList.count false + 1 = listed.toList.count false := by
          rw [Array.toList_setIfInBounds, List.count_set (by simpa using hlt)]
          have : 0 < listed.toList.count false := List.count_pos_iff.2 (by rw [← h5']; simp)
          have e1 : (listed.toList[i]'(by simpa using hlt)) = false := by simpa using h5'
          rw [e1]
          simp only [beq_self_eq_true, if_true]
          rw [if_neg (by simp)]
          omega
        omega
  refine key ops.size _ _ _ (by simp) (Agree.refl _ fun j => ?_) hS (by simp)
  rw [Array.getD_eq_getD_getElem?]
  by_cases hj : j < ops.size <;> simp [hj]

/-- The same outside rounds, for the plain walk. -/
theorem wp_region_held {P : Program} {ops : Array Oper} {id : Nat} {Q : Exit → Act → World → Prop} {a : Act} {w : World} (S : World → Prop)
    (hm : P.follows .mixedOrders = true) (ht : tidy ops = true)
    (hS : S w.drew) (h : HeldAll P ops S (fun a => ∀ w, S w → Q .normal a w) ops.toList a) : (Code.region id ops true).wp P Q a w :=
  wpIn_wide (n := 9) |>.1 (wpIn_region_held S (fun _ => trivial) rfl (fun _ _ _ _ _ h => callsIn_wide.2 h) hm ht hS h)

end Go.Proofs.Ytochhjdjfgiaeaa
