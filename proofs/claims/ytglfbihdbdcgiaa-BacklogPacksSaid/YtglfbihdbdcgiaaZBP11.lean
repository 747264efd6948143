/- Joined: A drawn region whose calls come in a fixed order and turn the world step by step: one walk in the list's order. -/
import Derived.Test.YtglfbihdbdcgiaaZBP9
namespace Go.Proofs.Ytglfbihdbdcgiaa

/-- The operation yields v in every world of S and goes from S to S'. -/
def Step (P : Program) (ops : Array Oper) (S S' : World → Prop) (o : Oper) (v : Value) (a : Act) : Prop :=
  (Region.wanted o (yielded ops a.tmps) = true ∧ ∀ w, S w → (∃ w', (execOp a.eval o).run P w = .ok (.value v) w' ∧ S' w') ∨ (v = undef ∧ ∃ w', (execOp a.eval o).run P w = .ok .skip w' ∧ S' w') ∨
    (∃ f args w', (execOp a.eval o).run P w = .ok (.enter f args) w' ∧ Calls P f args w' fun e w'' => e = .returned v ∧ S' w'')) ∨
  (Region.wanted o (yielded ops a.tmps) = false ∧ v = undef ∧ ∀ w, S w → S' w)

/-- C names the operations that turn the world, in their order; S j: the worlds behind the first j of them. -/
def StepAt (P : Program) (ops : Array Oper) (S : Nat → World → Prop) (C : List Nat) (k : Nat) (o : Oper) (v : Value) (a : Act) : Prop :=
  (k ∉ C ∧ ∀ s, s ≤ C.length → Step P ops (S s) (S s) o v a) ∨ (∃ j, C[j]? = some k ∧ Step P ops (S j) (S (j + 1)) o v a)

def StepAll (P : Program) (ops : Array Oper) (S : Nat → World → Prop) (C : List Nat) (R : Act → Prop) : List Oper → Nat → Act → Prop
  | [], _, a => R a
  | o :: l, k, a => ∃ v, StepAt P ops S C k o v a ∧ StepAll P ops S C R l (k + 1) (a.put o.dst v)

/-- Each of C is bound behind the one before it. -/
def chained (ops : Array Oper) (C : List Nat) : Bool :=
  (List.range C.length).all fun j => match C[j]?, C[j + 1]? with
    | some c, some d => (match ops[d]? with | some o => o.after.any fun e => e.on == c && Region.binds .any e | none => false) && decide (c < d) && decide (d < ops.size)
    | some c, none => decide (c < ops.size)
    | _, _ => true

theorem chained_spec {ops : Array Oper} {C : List Nat} (h : chained ops C = true) {j c d : Nat} {o : Oper} (hc : C[j]? = some c) (hd : C[j + 1]? = some d) (ho : ops[d]? = some o) :
    ∃ e ∈ o.after, e.on = c ∧ Region.binds .any e = true := by
  unfold chained at h
  rw [List.all_eq_true] at h
  have hj : j < C.length := (List.getElem?_eq_some_iff.1 hc).1
  have := h j (List.mem_range.2 hj)
  rw [hc, hd] at this
  simp only [ho, Bool.and_eq_true] at this
  obtain ⟨k, hk, h6⟩ := Array.any_eq_true.1 this.1.1
  rw [Bool.and_eq_true] at h6
  exact ⟨_, Array.getElem_mem hk, by simpa using h6.1, h6.2⟩

theorem chained_lt {ops : Array Oper} {C : List Nat} (h : chained ops C = true) {j c : Nat} (hc : C[j]? = some c) : c < ops.size := by
  unfold chained at h
  rw [List.all_eq_true] at h
  have hj : j < C.length := (List.getElem?_eq_some_iff.1 hc).1
  have := h j (List.mem_range.2 hj)
  rw [hc] at this
  cases hd : C[j + 1]? with
  | none => simpa [hd] using this
  | some d =>
    simp only [hd, Bool.and_eq_true, decide_eq_true_eq] at this
    omega

theorem chained_mono {ops : Array Oper} {C : List Nat} (h : chained ops C = true) : ∀ (n i c d : Nat), C[i]? = some c → C[i + 1 + n]? = some d → c < d := by
  have one : ∀ j c d, C[j]? = some c → C[j + 1]? = some d → c < d := by
    intro j c d hc hd
    unfold chained at h
    rw [List.all_eq_true] at h
    have := h j (List.mem_range.2 (List.getElem?_eq_some_iff.1 hc).1)
    rw [hc, hd] at this
    simp only [Bool.and_eq_true, decide_eq_true_eq] at this
    exact this.1.2
  intro n
  induction n with
  | zero => exact fun i c d hc hd => one i c d hc hd
  | succ n ih =>
    intro i c d hc hd
    have hlt : i + 1 + n < C.length := by have := (List.getElem?_eq_some_iff.1 hd).1; omega
    have h1 := ih i c C[i + 1 + n] hc (by simp [hlt])
    have h2 := one (i + 1 + n) C[i + 1 + n] d (by simp [hlt]) hd
    omega

theorem chained_inj {ops : Array Oper} {C : List Nat} (h : chained ops C = true) {i j c : Nat} (hi : C[i]? = some c) (hj : C[j]? = some c) : i = j := by
  rcases Nat.lt_trichotomy i j with hl | hl | hl
  · have := chained_mono h (j - i - 1) i c c hi (by rw [show i + 1 + (j - i - 1) = j by omega]; exact hj)
    omega
  · exact hl
  · have := chained_mono h (i - j - 1) j c c hj (by rw [show j + 1 + (i - j - 1) = i by omega]; exact hi)
    omega

section
variable {ops : Array Oper} {a₀ : Act} {vals : Nat → Value}

theorem agree_step {L L' : Nat → Bool} {a a' : Act} {i : Nat} {o : Oper} (h : Agree ops a₀ vals L a) (h' : Agree ops a₀ vals L' a') (hti : Tidy ops i o)
    (hL : ∀ e ∈ o.after, Region.binds .any e = true → L e.on = true ∧ L' e.on = true) : Region.wanted o (yielded ops a.tmps) = Region.wanted o (yielded ops a'.tmps) ∧ execOp a.eval o = execOp a'.eval o := by
  have same : ∀ t ∈ o.looksAt ops, a.tmps[t]? = a'.tmps[t]? := fun t ht => agree_at h h' t fun j oj hj hd => by
    obtain ⟨e, he, rfl, hb⟩ := hti.sees t ht j oj hj hd
    exact hL e he hb
  refine ⟨?_, ?_⟩
  · unfold Region.wanted
    cases hg : o.guard with
    | none => rfl
    | some gw =>
      obtain ⟨g, want⟩ := gw
      have hy : yielded ops a.tmps g = yielded ops a'.tmps g := by
        unfold yielded
        cases ht : (ops[g]?).bind (·.dst) with
        | none => rfl
        | some t =>
          have := same t (List.mem_append_right _ (by simp [hg, ht]))
          simp only [Option.bind_some, this]
      simp only [hy]
  · exact execOp_congr o hti.sel fun x hx => by
      cases x with
      | tmp t =>
        have := same t (List.mem_append_left _ (List.mem_filterMap.2 ⟨.tmp t, by simpa using hx, rfl⟩))
        simp only [Act.eval, Array.getD_eq_getD_getElem?, this]
      | _ => rfl

theorem stepAll_vals {P : Program} {S : Nat → World → Prop} {C : List Nat} {R : Act → Prop} (hti : ∀ i o, ops[i]? = some o → Tidy ops i o) : ∀ (l : List Oper) (k : Nat) (a : Act), StepAll P ops S C R l k a → (∀ j, l[j]? = ops[k + j]?) →
    ∃ vs : Nat → Value, ∀ vals : Nat → Value, (∀ j, j < l.length → vals (k + j) = vs j) → Agree ops a₀ vals (fun j => decide (j < k)) a →
      (∀ j o, l[j]? = some o → ∃ a', Agree ops a₀ vals (fun i => decide (i < k + j)) a' ∧ StepAt P ops S C (k + j) o (vals (k + j)) a') ∧
      ∃ af, Agree ops a₀ vals (fun i => decide (i < k + l.length)) af ∧ R af := by
  intro l
  induction l with
  | nil => exact fun k a h _ => ⟨fun _ => undef, fun vals _ hA => ⟨fun j o hj => by simp at hj, a, hA, h⟩⟩
  | cons o l ih =>
    intro k a h hl
    obtain ⟨v, h1, h2⟩ := h
    have ho : ops[k]? = some o := by rw [← Nat.add_zero k, ← hl 0]; rfl
    obtain ⟨vs, hvs⟩ := ih (k + 1) _ h2 fun j => by
      have := hl (j + 1)
      rw [List.getElem?_cons_succ] at this
      rw [this]
      congr 1
      omega
    refine ⟨fun j => if j = 0 then v else vs (j - 1), fun vals hv hA => ?_⟩
    have hv0 : vals k = v := hv 0 (by simp)
    have hA' : Agree ops a₀ vals (fun j => decide (j < k + 1)) (a.put o.dst v) := by
      rw [← hv0]
      refine hA.put ho (hti k o ho) fun j _ => ?_
      by_cases e : j = k
      · simp [e]
      · by_cases e' : j < k
        · simp [e', show j < k + 1 by omega]
        · simp [e, show ¬ j < k + 1 by omega]; omega
    obtain ⟨g1, af, g2, g3⟩ := hvs vals (fun j hj => by
      have := hv (j + 1) (by simp; omega)
      rw [show k + 1 + j = k + (j + 1) by omega, this]
      simp) hA'
    refine ⟨fun j oj hj => ?_, af, ?_, g3⟩
    · cases j with
      | zero =>
        simp at hj
        subst hj
        exact ⟨a, hA, by rw [Nat.add_zero, hv0]; exact h1⟩
      | succ j =>
        rw [List.getElem?_cons_succ] at hj
        obtain ⟨a', h3, h4⟩ := g1 j oj hj
        rw [show k + (j + 1) = k + 1 + j by omega]
        exact ⟨a', h3, h4⟩
    · rw [List.length_cons, show k + (l.length + 1) = k + 1 + l.length by omega]
      exact g2

end

theorem step_wpOpIn {F : Fence} {n : Nat} {P : Program} {ops : Array Oper} {Q : Exit → Act → World → Prop} {S S' : World → Prop} {i : Nat} {o : Oper} {v : Value} {a a' : Act} {w : World} {K : Act → World → Prop}
    (hF : ∀ f, F.fn f) (hd : F.depth = none) (hc : ∀ n f args w R, Calls P f args w R → CallsIn F n P f args w R) (ho : ops[i]? = some o) (ht : Tidy ops i o) (hS : S w)
    (he : Region.wanted o (yielded ops a'.tmps) = Region.wanted o (yielded ops a.tmps) ∧ execOp a'.eval o = execOp a.eval o)
    (h : Step P ops S S' o v a') (hK : ∀ w', S' w' → K (a.put o.dst v) w') : wpOpIn F n P ops Q i K a w := by
  unfold Step at h
  rw [he.1, he.2] at h
  unfold wpOpIn
  rw [ho]
  simp only
  rcases h with ⟨hw, h⟩ | ⟨hw, rfl, h⟩
  · rw [if_pos hw]
    refine ⟨fun f _ => hF f, ?_⟩
    rw [Oper.semAt_plain F _ _ ht.dfr]
    rcases h w hS with ⟨w', h1, h2⟩ | ⟨rfl, w', h1, h2⟩ | ⟨f, args, w', h1, h2⟩
    · rw [h1]; exact hK _ h2
    · rw [h1]; exact hK _ h2
    · rw [h1, Oper.uponIn_enter]
      refine ⟨fun e => by rw [hd] at e; simp at e, (hc _ _ _ _ _ h2).mono fun e w'' ⟨he, hs⟩ => ?_⟩
      subst he
      exact hK _ hs
  · rw [if_neg (by rw [hw]; simp)]
    exact ⟨fun f _ => hF f, hK _ (h w hS)⟩

theorem wpIn_region_step {F : Fence} {n : Nat} {P : Program} {ops : Array Oper} {id : Nat} {Q : Exit → Act → World → Prop} {a : Act} {w : World} (S : Nat → World → Prop) (C : List Nat)
    (hF : ∀ f, F.fn f) (hd : F.depth = none) (hc : ∀ n f args w R, Calls P f args w R → CallsIn F n P f args w R) (hm : P.follows .mixedOrders = true) (ht : tidy ops = true) (hch : chained ops C = true)
    (hS : S 0 w.drew) (h : StepAll P ops S C (fun a => ∀ w, S C.length w → Q .normal a w) ops.toList 0 a) : (Code.region id ops true).wpIn F n P Q a w := by
  have hti : ∀ i o, ops[i]? = some o → Tidy ops i o := fun i o ho => tidy_spec ht ho
  obtain ⟨vals, hv⟩ := stepAll_vals (a₀ := a) hti ops.toList 0 a h fun j => by simp
  obtain ⟨h1, af, h2, h3⟩ := hv vals (fun j _ => by simp) (Agree.refl _ fun j => by simp)
  refine wpIn_region_any hm ?_
  have key : ∀ (fuel : Nat) (listed : Array Bool) (b : Act) (w : World) (s : Nat), listed.size = ops.size → Agree ops a vals (fun j => listed.getD j false) b → s ≤ C.length → S s w →
      (∀ j c, C[j]? = some c → listed.getD c false = decide (j < s)) → listed.toList.count false ≤ fuel → wpAnyIn F n P .any ops Q fuel listed b w := by
    have fin : ∀ (listed : Array Bool) (b : Act) (w : World) (s : Nat), listed.size = ops.size → Agree ops a vals (fun j => listed.getD j false) b → s ≤ C.length → S s w → (∀ j c, C[j]? = some c → listed.getD c false = decide (j < s)) →
        (∀ j, j < ops.size → listed.getD j false = true) → Q .normal b w := by
      intro listed b w s hsz hA hsl hs hC hall
      have : b = af := agree_eq hA h2 fun j hj => ⟨hall j hj, by simpa using hj⟩
      subst this
      have hse : s = C.length := by
        rcases Nat.lt_or_ge s C.length with hlt | hge
        · have hcs : C[s]? = some C[s] := by simp [hlt]
          have e1 := hC s _ hcs
          have e2 := hall _ (chained_lt hch hcs)
          rw [e2] at e1
          simp at e1
        · omega
      subst hse
      exact h3 w hs
    have rdy : ∀ (listed : Array Bool), listed.size = ops.size → Region.ready .any ops listed = [] → ∀ j, j < ops.size → listed.getD j false = true := by
      intro listed hsz hr j
      induction j using Nat.strongRecOn with
      | ind j ih =>
        intro hj
        have hjl : j < listed.size := by omega
        cases hx : listed[j] with
        | true => simp [hjl, hx]
        | false =>
          have : j ∈ Region.ready .any ops listed := mem_ready.2 ⟨by simp [hjl, hx], ops[j], by simp [hj], fun e he _ => by
            have := (hti j ops[j] (by simp [hj])).low e he
            exact ih e.on this (by omega)⟩
          rw [hr] at this
          cases this
    intro fuel
    induction fuel with
    | zero =>
      intro listed b w s hsz hA hsl hs hC hcnt
      have hall : ∀ j, j < ops.size → listed.getD j false = true := fun j hj => by
        have hjl : j < listed.size := by omega
        cases hx : listed[j] with
        | true => simp [hjl, hx]
        | false =>
          have : false ∈ listed.toList := by
            rw [← hx]
            simp
          have := List.count_pos_iff.2 this
          omega
      refine ⟨?_, fin listed b w s hsz hA hsl hs hC hall⟩
      cases hr : Region.ready .any ops listed with
      | nil => rfl
      | cons x xs =>
        have hx : x ∈ Region.ready .any ops listed := by rw [hr]; simp
        obtain ⟨h5, o, h6, _⟩ := mem_ready.1 hx
        have h7 := hall x (lt_of_some h6)
        have hlt : x < listed.size := by rw [hsz]; exact lt_of_some h6
        simp [hlt] at h5 h7
        rw [h5] at h7
        cases h7
    | succ fuel ih =>
      intro listed b w s hsz hA hsl hs hC hcnt
      refine ⟨fun hr => fin listed b w s hsz hA hsl hs hC (rdy listed hsz hr), fun i hi => ?_⟩
      obtain ⟨h5, o, h6, h7⟩ := mem_ready.1 hi
      have hlt : i < listed.size := by rw [hsz]; exact lt_of_some h6
      have h5' : listed[i] = false := by simpa [hlt] using h5
      obtain ⟨a', h8, h9⟩ := h1 i o (by simpa using h6)
      rw [Nat.zero_add] at h8 h9
      have he := agree_step h8 hA (hti i o h6) fun e he hb => ⟨by simpa using (hti i o h6).low e he, h7 e he hb⟩
      have hA' : Agree ops a vals (fun j => (listed.setIfInBounds i true).getD j false) (b.put o.dst (vals i)) := by
        refine hA.put h6 (hti i o h6) fun j hj => ?_
        have hjl : j < listed.size := by omega
        by_cases e : j = i
        · subst e; simp [hjl]
        · rw [Array.getD_eq_getD_getElem?, Array.getElem?_setIfInBounds_ne (Ne.symm e)]
          simp [e]
      have hcnt' : (listed.setIfInBounds i true).toList.count false ≤ fuel := by
        have hc1 : (listed.setIfInBounds i true).toList.count false + 1 = listed.toList.count false := by
          rw [Array.toList_setIfInBounds, List.count_set (by simpa using hlt)]
          have : 0 < listed.toList.count false := List.count_pos_iff.2 (by rw [← h5']; simp)
          have e1 : (listed.toList[i]'(by simpa using hlt)) = false := by simpa using h5'
          rw [e1]
          simp only [beq_self_eq_true, if_true]
          rw [if_neg (by simp)]
          omega
        omega
      have hset : ∀ c, c ≠ i → (listed.setIfInBounds i true).getD c false = listed.getD c false := fun c hc => by
        rw [Array.getD_eq_getD_getElem?, Array.getElem?_setIfInBounds_ne (Ne.symm hc), Array.getD_eq_getD_getElem?]
      rcases h9 with ⟨hni, h9⟩ | ⟨j, hj, h9⟩
      · refine step_wpOpIn hF hd hc h6 (hti i o h6) hs he (h9 s hsl) fun w' hs' => ih _ _ _ s (by simpa using hsz) hA' hsl hs' (fun k c hk => ?_) hcnt'
        rw [hset c (fun e => hni (e ▸ List.mem_of_getElem? hk))]
        exact hC k c hk
      · have hli := hC j i hj
        have hli' : listed.getD i false = false := by simp [hlt, h5']
        rw [hli'] at hli
        have hjs : s ≤ j := by simpa using hli.symm
        have hjl : j < C.length := (List.getElem?_eq_some_iff.1 hj).1
        have hjs' : j = s := by
          rcases Nat.lt_or_ge s j with hlt' | hge
          · obtain ⟨k, rfl⟩ : ∃ k, j = k + 1 := ⟨j - 1, by omega⟩
            have hk : C[k]? = some C[k] := by simp [show k < C.length by omega]
            obtain ⟨e, he1, he2, he3⟩ := chained_spec hch hk hj h6
            have h10 := h7 e he1 he3
            rw [he2, hC k _ hk] at h10
            simp at h10
            omega
          · omega
        subst hjs'
        refine step_wpOpIn hF hd hc h6 (hti i o h6) hs he h9 fun w' hs' => ih _ _ _ (j + 1) (by simpa using hsz) hA' hjl hs' (fun k c hk => ?_) hcnt'
        by_cases e : c = i
        · subst e
          have := chained_inj hch hk hj
          subst this
          simp [hlt]
        · rw [hset c e, hC k c hk]
          have : k ≠ j := fun e' => e (by rw [e'] at hk; rw [hk] at hj; cases hj; rfl)
          by_cases hkj : k < j
          · simp [hkj, show k < j + 1 by omega]
          · simp [hkj, show ¬ k < j + 1 by omega]
  refine key ops.size _ _ _ 0 (by simp) (Agree.refl _ fun j => ?_) (Nat.zero_le _) hS (fun j c hj => ?_) (by simp)
  · rw [Array.getD_eq_getD_getElem?]
    by_cases hj : j < ops.size <;> simp [hj]
  · rw [Array.getD_eq_getD_getElem?]
    by_cases hj : c < ops.size <;> simp [hj]

theorem wp_region_step {P : Program} {ops : Array Oper} {id : Nat} {Q : Exit → Act → World → Prop} {a : Act} {w : World} (S : Nat → World → Prop) (C : List Nat)
    (hm : P.follows .mixedOrders = true) (ht : tidy ops = true) (hch : chained ops C = true)
    (hS : S 0 w.drew) (h : StepAll P ops S C (fun a => ∀ w, S C.length w → Q .normal a w) ops.toList 0 a) : (Code.region id ops true).wp P Q a w :=
  wpIn_wide (n := 9) |>.1 (wpIn_region_step S C (fun _ => trivial) rfl (fun _ _ _ _ _ h => callsIn_wide.2 h) hm ht hch hS h)

end Go.Proofs.Ytglfbihdbdcgiaa
