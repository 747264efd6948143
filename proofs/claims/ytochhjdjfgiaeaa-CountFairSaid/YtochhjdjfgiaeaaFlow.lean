/- A drawn region, by one walk in an order of one's choice, some of whose operations turn the world and hand back what differs from world to world (calls that make new memory): each of these is one behind which all operations that are walked later are bound. -/
import Derived.Test.YtochhjdjfgiaeaaHeld
namespace Go.Proofs.Ytochhjdjfgiaeaa
/-- A step's value put into its slot, where the slots are listed. -/
theorem puts : (∀ (t : List Value) (ds : List Deferred) (d : Nat) (v : Value), Act.put ⟨t.toArray, ds⟩ (some d) v = ⟨(t.set d v).toArray, ds⟩) ∧ (∀ (a : Act) (v : Value), Act.put a none v = a) ∧ (∀ (x : Value) (l : List Value) (n : Nat) (v : Value), (x :: l).set (n + 1) v = x :: l.set n v) ∧ (∀ (x : Value) (l : List Value) (v : Value), (x :: l).set 0 v = v :: l) :=
  ⟨fun t ds d v => by simp only [Act.put, List.setIfInBounds_toArray], fun _ _ => rfl, fun _ _ _ _ => rfl, fun _ _ _ => rfl⟩

def tidyOp2 (ops : Array Oper) (i : Nat) (o : Oper) : Bool :=
  (match o.op with | .select .. => false | .defer .. => false | _ => true) &&
  (o.looksAt ops).all (fun t => (List.range ops.size).all fun j => ((ops[j]?).bind (·.dst) != some t) || (o.after.any fun e => e.on == j && Region.binds .any e) || (match ops[j]? with | some oj => oj.after.any fun e => e.on == i && Region.binds .any e | none => false)) &&
  (List.range ops.size).all (fun j => j == i || o.dst.isNone || (ops[j]?).bind (·.dst) != o.dst)
/-- No operation sees what neither has bound it nor is bound by it, and none writes another's slot. -/
def tidy2 (ops : Array Oper) : Bool := (List.range ops.size).all fun i => match ops[i]? with | some o => tidyOp2 ops i o | none => true
/-- A rank by which what binds an operation stands lower. -/
def Ranked (ops : Array Oper) : Prop := ∃ rk : Nat → Nat, ∀ i o, ops[i]? = some o → ∀ e ∈ o.after, Region.binds .any e = true → rk e.on < rk i ∧ e.on < ops.size
def rankedB (ops : Array Oper) (ord : List Nat) : Bool := (List.range ops.size).all fun i => match ops[i]? with | some o => o.after.all fun e => !Region.binds .any e || (decide (ord.idxOf e.on < ord.idxOf i) && decide (e.on < ops.size)) | none => true
theorem rankedB_spec {ops : Array Oper} {ord : List Nat} (h : rankedB ops ord = true) : Ranked ops := by
  refine ⟨fun i => ord.idxOf i, fun i o ho e he hb => ?_⟩
  unfold rankedB at h
  rw [List.all_eq_true] at h
  have h1 := h i (List.mem_range.2 (lt_of_some ho))
  rw [ho] at h1
  simp only at h1
  rw [Array.all_eq_true_iff_forall_mem] at h1
  have h2 := h1 e he
  rw [hb] at h2
  simpa using h2

structure Tidy2 (ops : Array Oper) (i : Nat) (o : Oper) : Prop where
  sel : ∀ cs b, o.op ≠ .select cs b
  dfr : ∀ c, o.op ≠ .defer c
  sees : ∀ t ∈ o.looksAt ops, ∀ j oj, ops[j]? = some oj → oj.dst = some t → (∃ e ∈ o.after, e.on = j ∧ Region.binds .any e = true) ∨ (∃ e ∈ oj.after, e.on = i ∧ Region.binds .any e = true)
  own : ∀ t, o.dst = some t → ∀ j oj, ops[j]? = some oj → oj.dst = some t → j = i

theorem tidy2_spec {ops : Array Oper} (h : tidy2 ops = true) {i : Nat} {o : Oper} (ho : ops[i]? = some o) : Tidy2 ops i o := by
  unfold tidy2 at h
  rw [List.all_eq_true] at h
  have h1 := h i (List.mem_range.2 (lt_of_some ho))
  rw [ho] at h1
  simp only [tidyOp2, Bool.and_eq_true] at h1
  obtain ⟨⟨h1, h3⟩, h4⟩ := h1
  refine ⟨fun cs b e => by simp [e] at h1, fun c e => by simp [e] at h1, fun t ht j oj hj hd => ?_, fun t ht j oj hj hd => ?_⟩
  · rw [List.all_eq_true] at h3
    have := h3 t ht
    rw [List.all_eq_true] at this
    have := this j (List.mem_range.2 (lt_of_some hj))
    rw [hj, Option.bind_some, hd, Bool.or_eq_true, Bool.or_eq_true] at this
    rcases this with (h5 | h5) | h5
    · simp at h5
    · obtain ⟨k, hk, h6⟩ := Array.any_eq_true.1 h5
      rw [Bool.and_eq_true] at h6
      exact .inl ⟨_, Array.getElem_mem hk, by simpa using h6.1, h6.2⟩
    · obtain ⟨k, hk, h6⟩ := Array.any_eq_true.1 h5
      rw [Bool.and_eq_true] at h6
      exact .inr ⟨_, Array.getElem_mem hk, by simpa using h6.1, h6.2⟩
  · rw [List.all_eq_true] at h4
    have := h4 j (List.mem_range.2 (lt_of_some hj))
    rw [hj, ht] at this
    simpa [hd] using this

section
variable {ops : Array Oper} {a₀ : Act} {vals : Nat → Value}
theorem Agree.put2 {L L' : Nat → Bool} {a : Act} {i : Nat} {o : Oper} (h : Agree ops a₀ vals L a) (ho : ops[i]? = some o) (ht : Tidy2 ops i o) (hL : ∀ j, j < ops.size → L' j = (L j || j == i)) :
    Agree ops a₀ vals L' (a.put o.dst (vals i)) := by
  cases hd : o.dst with
  | none =>
    refine ⟨h.defers, h.size, fun t hj => h.out t fun j oj hoj hdj => ?_, fun j oj t hoj hdj hl hlt => h.at_ j oj t hoj hdj ?_ hlt⟩
    · have := hj j oj hoj hdj
      rw [hL j (lt_of_some hoj)] at this
      simp at this
      exact this.1
    · rw [hL j (lt_of_some hoj)] at hl
      by_cases e : j = i
      · subst e
        rw [ho] at hoj
        cases hoj
        rw [hd] at hdj
        cases hdj
      · simpa [e] using hl
  | some d =>
    refine ⟨h.defers, by simp [Act.put, h.size], fun t hj => ?_, fun j oj t hoj hdj hl hlt => ?_⟩
    · have hne : d ≠ t := by
        rintro rfl
        have := hj i o ho hd
        rw [hL i (lt_of_some ho)] at this
        simp at this
      simp only [Act.put, Array.getElem?_setIfInBounds_ne hne]
      refine h.out t fun j oj hoj hdj => ?_
      have := hj j oj hoj hdj
      rw [hL j (lt_of_some hoj)] at this
      simp at this
      exact this.1
    · by_cases e : j = i
      · subst e
        rw [ho] at hoj
        cases hoj
        rw [hd] at hdj
        cases hdj
        simp [Act.put, h.size, hlt]
      · have hne : d ≠ t := by
          rintro rfl
          exact e (ht.own d hd j oj hoj hdj)
        simp only [Act.put, Array.getElem?_setIfInBounds_ne hne]
        refine h.at_ j oj t hoj hdj ?_ hlt
        rw [hL j (lt_of_some hoj)] at hl
        simpa [e] using hl

end
theorem heldOp_wpOpIn2 {F : Fence} {n : Nat} {P : Program} {ops : Array Oper} {Q : Exit → Act → World → Prop} {S : World → Prop} {i : Nat} {o : Oper} {v : Value} {a : Act} {w : World} {K : Act → World → Prop}
    (hF : ∀ f, F.fn f) (hd : F.depth = none) (hc : ∀ n f args w R, Calls P f args w R → CallsIn F n P f args w R) (ho : ops[i]? = some o) (ht : Tidy2 ops i o) (hS : S w)
    (h : HeldOp P ops S o v a) (hK : ∀ w', S w' → K (a.put o.dst v) w') : wpOpIn F n P ops Q i K a w := by
  unfold wpOpIn
  rw [ho]
  simp only
  rcases h with ⟨hw, h⟩ | ⟨hw, rfl⟩
  · rw [if_pos hw]
    refine ⟨fun f _ => hF f, ?_⟩
    rw [Oper.semAt_plain F _ _ ht.dfr]
    rcases h w hS with ⟨w', h1, h2⟩ | ⟨rfl, w', h1, h2⟩ | ⟨f, args, w', h1, h2⟩
    · rw [h1]; exact hK _ h2
    · rw [h1]; exact hK _ h2
    · rw [h1, Oper.uponIn_enter]
      refine ⟨fun e => by rw [hd] at e; simp at e, (hc _ _ _ _ _ h2).mono fun e w'' ⟨he, hs⟩ => ?_⟩
      subst he
      exact hK _ hs
  · rw [if_neg (by rw [hw]; simp)]
    exact ⟨fun f _ => hF f, hK _ hS⟩

/-- The operation hands back some v (or nothing), of which G holds for good and H for now, and S' holds behind it. -/
def Turn (P : Program) (S S' C : World → Prop) (G H : Value → World → Prop) (o : Oper) (ρ : Operand → Value) : Prop :=
  ∀ w, S w → C w → (∃ v w', (execOp ρ o).run P w = .ok (.value v) w' ∧ S' w' ∧ G v w' ∧ H v w') ∨ (∃ w', (execOp ρ o).run P w = .ok .skip w' ∧ S' w' ∧ G undef w' ∧ H undef w') ∨
    (∃ f args w', (execOp ρ o).run P w = .ok (.enter f args) w' ∧ Calls P f args w' fun e w'' => ∃ v, e = .returned v ∧ S' w'' ∧ G v w'' ∧ H v w'')

def markC (ops : Array Oper) (d : Nat) (m : List Nat) (n : Nat) : Bool := n == d || (match ops[n]? with | some o => o.after.any (fun e => Region.binds .any e && m.contains e.on) | none => false)
/-- The operations that are bound behind d, and d. -/
def marks (ops : Array Oper) (d : Nat) : List Nat :=
  (List.range ops.size ++ (List.range ops.size ++ List.range ops.size)).foldl (fun m n => if markC ops d m n = true then n :: m else m) []
def behindB (ops : Array Oper) (d : Nat) (r : List Nat) : Bool := let m := marks ops d; r.all fun i => m.contains i
/-- All that is in vis is done ahead of d, in whatever order. -/
def aheadB (ops : Array Oper) (d : Nat) (vis : List Nat) : Bool := vis.all fun j => (marks ops j).contains d
/-- All that binds the operation is in vis. -/
def boundIn (vis : List Nat) (o : Oper) : Bool := o.after.all fun e => !Region.binds .any e || vis.contains e.on
/-- A list of all operations. -/
def allOf (ops : Array Oper) (ord : List Nat) : Bool := (List.range ops.size).all (fun i => ord.contains i) && ord.all (fun i => decide (i < ops.size)) && decide ord.Nodup && rankedB ops ord

theorem marks_spec (ops : Array Oper) (d i : Nat) (h : i ∈ marks ops d) : i = d ∨ ∃ o, ops[i]? = some o ∧ ∃ e ∈ o.after, Region.binds .any e = true ∧ e.on ∈ marks ops d := by
  have key : ∀ (r m : List Nat), (∀ i ∈ m, i = d ∨ ∃ o, ops[i]? = some o ∧ ∃ e ∈ o.after, Region.binds .any e = true ∧ e.on ∈ m) →
      ∀ i ∈ r.foldl (fun m n => if markC ops d m n = true then n :: m else m) m,
        i = d ∨ ∃ o, ops[i]? = some o ∧ ∃ e ∈ o.after, Region.binds .any e = true ∧ e.on ∈ r.foldl (fun m n => if markC ops d m n = true then n :: m else m) m := by
    intro r
    induction r with
    | nil => exact fun m hm i hi => hm i hi
    | cons n r ih =>
      intro m hm i hi
      rw [List.foldl_cons] at hi ⊢
      refine ih _ ?_ i hi
      intro i hi
      split at hi
      · rename_i hc
        rw [if_pos hc]
        rcases List.mem_cons.1 hi with rfl | hi
        · unfold markC at hc
          rw [Bool.or_eq_true] at hc
          rcases hc with hc | hc
          · exact .inl (by simpa using hc)
          · right
            cases ho : ops[i]? with
            | none => rw [ho] at hc; cases hc
            | some o =>
              rw [ho] at hc
              obtain ⟨k, hk, h6⟩ := Array.any_eq_true.1 hc
              rw [Bool.and_eq_true] at h6
              exact ⟨o, rfl, _, Array.getElem_mem hk, h6.1, List.mem_cons_of_mem _ (by simpa using h6.2)⟩
        · rcases hm i hi with h | ⟨o, ho, e, he, hb, hem⟩
          · exact .inl h
          · exact .inr ⟨o, ho, e, he, hb, List.mem_cons_of_mem _ hem⟩
      · rename_i hc
        rw [if_neg hc]
        exact hm i hi
  exact key _ [] (by simp) i h

/-- Where all that is listed is bound behind what is listed, what is bound behind d is listed behind d alone. -/
theorem behind_listed {ops : Array Oper} {d : Nat} {L : Nat → Bool} (hti : Ranked ops) (hdown : ∀ i o, L i = true → ops[i]? = some o → ∀ e ∈ o.after, Region.binds .any e = true → L e.on = true) :
    ∀ i, i ∈ marks ops d → L i = true → L d = true := by
  obtain ⟨rk, hrk⟩ := hti
  have key : ∀ (n i : Nat), rk i < n → i ∈ marks ops d → L i = true → L d = true := by
    intro n
    induction n with
    | zero => intro i h; omega
    | succ n ih =>
      intro i hn hm hl
      rcases marks_spec ops d i hm with rfl | ⟨o, ho, e, he, hb, hem⟩
      · exact hl
      · exact ih e.on (by have := (hrk i o ho e he hb).1; omega) hem (hdown i o hl ho e he hb)
  exact fun i => key _ i (Nat.lt_succ_self _)

theorem boundIn_spec {vis : List Nat} {o : Oper} (h : boundIn vis o = true) : ∀ e ∈ o.after, Region.binds .any e = true → e.on ∈ vis := by
  intro e he hb
  unfold boundIn at h
  rw [Array.all_eq_true_iff_forall_mem] at h
  have := h e he
  rw [hb] at this
  simpa using this

/-- S: what holds for good; C: what holds now, until the next operation that turns the world. -/
def FlowAll (P : Program) (ops : Array Oper) (R : Act → (World → Prop) → Prop) : List Nat → List Nat → (World → Prop) → (World → Prop) → Act → Prop
  | [], _, S, C, a => R a (fun w => S w ∧ C w)
  | i :: r, vis, S, C, a => ∃ o, ops[i]? = some o ∧ boundIn vis o = true ∧ ((∃ v, (∀ w, S w → HeldOp P ops (fun x => x = w) o v a) ∧ FlowAll P ops R r (i :: vis) S C (a.put o.dst v)) ∨
      (Region.wanted o (yielded ops a.tmps) = true ∧ behindB ops i r = true ∧ ∃ S' : World → Prop, (aheadB ops i vis = true ∨ ∀ w, S' w → S w) ∧ ∃ G H : Value → World → Prop, Turn P S S' C G H o a.eval ∧ ∀ v, (∃ w, S' w ∧ G v w ∧ H v w) → FlowAll P ops R r (i :: vis) (fun w => S' w ∧ G v w) (H v) (a.put o.dst v)))

section
variable {ops : Array Oper} {a₀ : Act}
theorem Agree.congr {vals vals' : Nat → Value} {L : Nat → Bool} {a : Act} (h : Agree ops a₀ vals L a) (he : ∀ j, L j = true → vals' j = vals j) : Agree ops a₀ vals' L a :=
  ⟨h.defers, h.size, h.out, fun j o t ho hd hl ht => by rw [he j hl]; exact h.at_ j o t ho hd hl ht⟩
/-- j is one that may only be done behind i. -/
def After (ops : Array Oper) (i j : Nat) : Prop := ∃ oj, ops[j]? = some oj ∧ ∃ e ∈ oj.after, e.on = i ∧ Region.binds .any e = true
theorem agree_look {vals : Nat → Value} {L L' : Nat → Bool} {a a' : Act} {i : Nat} {o : Oper} (h : Agree ops a₀ vals L a) (h' : Agree ops a₀ vals L' a') (hti : Tidy2 ops i o) (hall : ∀ i o, ops[i]? = some o → Tidy2 ops i o)
    (hL : ∀ e ∈ o.after, Region.binds .any e = true → L e.on = true ∧ L' e.on = true) (hN : ∀ j, After ops i j → L j = false ∧ L' j = false) : ∀ t ∈ o.looksAt ops, a.tmps[t]? = a'.tmps[t]? := by
  intro t ht
  by_cases hx : ∃ (j : Nat) (oj : Oper), ops[j]? = some oj ∧ oj.dst = some t ∧ After ops i j
  · obtain ⟨j, oj, hj, hd, haft⟩ := hx
    obtain ⟨n1, n2⟩ := hN j haft
    have one : ∀ j' o', ops[j']? = some o' → o'.dst = some t → j' = j := fun j' o' ho' hd' => (hall j oj hj).own t hd j' o' ho' hd'
    rw [h.out t fun j' o' ho' hd' => by rw [one j' o' ho' hd']; exact n1, h'.out t fun j' o' ho' hd' => by rw [one j' o' ho' hd']; exact n2]
  · refine agree_at h h' t fun j oj hj hd => ?_
    rcases hti.sees t ht j oj hj hd with ⟨e, he, rfl, hb⟩ | ⟨e, he, hei, hb⟩
    · exact hL e he hb
    · exact absurd ⟨j, oj, hj, hd, oj, hj, e, he, hei, hb⟩ hx
theorem agree_exec {vals : Nat → Value} {L L' : Nat → Bool} {a a' : Act} {i : Nat} {o : Oper} (h : Agree ops a₀ vals L a) (h' : Agree ops a₀ vals L' a') (hti : Tidy2 ops i o) (hall : ∀ i o, ops[i]? = some o → Tidy2 ops i o)
    (hL : ∀ e ∈ o.after, Region.binds .any e = true → L e.on = true ∧ L' e.on = true) (hN : ∀ j, After ops i j → L j = false ∧ L' j = false) : execOp a.eval o = execOp a'.eval o ∧ Region.wanted o (yielded ops a.tmps) = Region.wanted o (yielded ops a'.tmps) := by
  have same := agree_look h h' hti hall hL hN
  refine ⟨execOp_congr o hti.sel fun x hx => ?_, ?_⟩
  · cases x with
    | tmp t =>
      have := same t (List.mem_append_left _ (List.mem_filterMap.2 ⟨.tmp t, by simpa using hx, rfl⟩))
      simp only [Act.eval, Array.getD_eq_getD_getElem?, this]
    | _ => rfl
  · unfold Region.wanted
    cases hg : o.guard with
    | none => rfl
    | some gw =>
      obtain ⟨g, want⟩ := gw
      have hy : yielded ops a.tmps g = yielded ops a'.tmps g := by
        unfold yielded
        cases ht : (ops[g]?).bind (·.dst) with
        | none => rfl
        | some t =>
          have := same t (List.mem_append_right _ (by simp [hg, ht]))
          simp only [Option.bind_some, this]
      simp only [hy]
theorem agree_op2 {P : Program} {S : World → Prop} {vals : Nat → Value} {L L' : Nat → Bool} {a a' : Act} {i : Nat} {o : Oper} {v : Value} (h : Agree ops a₀ vals L a) (h' : Agree ops a₀ vals L' a') (hti : Tidy2 ops i o) (hall : ∀ i o, ops[i]? = some o → Tidy2 ops i o)
    (hL : ∀ e ∈ o.after, Region.binds .any e = true → L e.on = true ∧ L' e.on = true) (hN : ∀ j, After ops i j → L j = false ∧ L' j = false) (hh : HeldOp P ops S o v a) : HeldOp P ops S o v a' := by
  obtain ⟨e1, e2⟩ := agree_exec h h' hti hall hL hN
  unfold HeldOp Held at *
  rw [← e1, ← e2]
  exact hh

theorem boundIn_mono {vis : List Nat} {o : Oper} {i : Nat} (h : boundIn vis o = true) : boundIn (i :: vis) o = true := by
  unfold boundIn at h ⊢
  rw [Array.all_eq_true_iff_forall_mem] at h ⊢
  intro e he
  have := h e he
  rw [Bool.or_eq_true] at this ⊢
  rcases this with h | h
  · exact .inl h
  · right
    simp at h ⊢
    exact .inr h
theorem after_in {vis : List Nat} {i k : Nat} (h : After ops i k) (hm : k ∈ vis) (hcl : ∀ j o, j ∈ vis → ops[j]? = some o → boundIn vis o = true) : i ∈ vis := by
  obtain ⟨oj, ho, e, he, hei, hb⟩ := h
  have := boundIn_spec (hcl k oj hm ho) e he hb
  rwa [hei] at this
/-- A value that is the same in every world of S, told where all that binds the operation is done. -/
def Fact (P : Program) (ops : Array Oper) (a₀ : Act) (vals : Nat → Value) (S : World → Prop) (U : List Nat) (j : Nat) (o : Oper) : Prop :=
  ∃ (a' : Act) (V : List Nat), boundIn V o = true ∧ (∀ i ∈ V, i ∈ U) ∧ (∀ k, After ops j k → k ∉ V) ∧ Agree ops a₀ vals (fun i => V.contains i) a' ∧ ∀ w, S w → HeldOp P ops (fun x => x = w) o (vals j) a'
/-- What a walk says up to the next operation that turns the world: vis is what is walked ahead of it. -/
def SegEnd (P : Program) (ops : Array Oper) (a₀ : Act) (vals : Nat → Value) (R : Act → (World → Prop) → Prop) (S C : World → Prop) (rem vis : List Nat) (n : Nat) : Prop :=
  (rem = [] ∧ ∃ af, Agree ops a₀ vals (fun i => vis.contains i) af ∧ R af (fun w => S w ∧ C w)) ∨
  (∃ d r o ad, rem = d :: r ∧ ops[d]? = some o ∧ boundIn vis o = true ∧ Agree ops a₀ vals (fun i => vis.contains i) ad ∧ Region.wanted o (yielded ops ad.tmps) = true ∧ behindB ops d r = true ∧ r.length < n ∧
    ∃ S' : World → Prop, (aheadB ops d vis = true ∨ ∀ w, S' w → S w) ∧ ∃ G H : Value → World → Prop, Turn P S S' C G H o ad.eval ∧ ∀ v, (∃ w, S' w ∧ G v w ∧ H v w) → FlowAll P ops R r (d :: vis) (fun w => S' w ∧ G v w) (H v) (ad.put o.dst v))

theorem flow_seg {P : Program} {R : Act → (World → Prop) → Prop} (hti : ∀ i o, ops[i]? = some o → Tidy2 ops i o) (S C : World → Prop) : ∀ (l vis : List Nat) (a : Act), FlowAll P ops R l vis S C a → l.Nodup → (∀ j ∈ l, j ∉ vis) → (∀ j o, j ∈ vis → ops[j]? = some o → boundIn vis o = true) →
    ∃ (vs : Nat → Value) (rem vis' : List Nat), (∀ j, j ∈ vis → j ∈ vis') ∧ (∀ j, j ∈ l → j ∈ vis' ∨ j ∈ rem) ∧ (∀ j, j ∈ vis' → j ∈ vis ∨ j ∈ l) ∧ rem.Nodup ∧ (∀ j ∈ rem, j ∉ vis' ∧ j ∈ l) ∧ (∀ j o, j ∈ vis' → ops[j]? = some o → boundIn vis' o = true) ∧ ∀ vals : Nat → Value, (∀ j, j ∈ l → vals j = vs j) → Agree ops a₀ vals (fun j => vis.contains j) a →
      (∀ j o, j ∈ vis' → j ∉ vis → ops[j]? = some o → Fact P ops a₀ vals S vis' j o) ∧ SegEnd P ops a₀ vals R S C rem vis' l.length := by
  intro l
  induction l with
  | nil =>
    intro vis a h _ _ hcl
    exact ⟨fun _ => undef, [], vis, fun _ h => h, fun j hj => by simp at hj, fun j hj => .inl hj, List.nodup_nil, fun j hj => by simp at hj, hcl, fun vals _ hA => ⟨fun j o h1 h2 => absurd h1 h2, .inl ⟨rfl, a, hA, h⟩⟩⟩
  | cons i l ih =>
    intro vis a h hnd hnv hcl
    obtain ⟨o, ho, hbd, h⟩ := h
    rw [List.nodup_cons] at hnd
    rcases h with ⟨v, h1, h2⟩ | ⟨h1, h2, S', h2', G, H, h3, h4⟩
    · obtain ⟨vs, rem, vis', q1, q2, q3, q4, q5, q6, hvs⟩ := ih (i :: vis) _ h2 hnd.2 (fun j hj hm => by
        rcases List.mem_cons.1 hm with rfl | hm
        · exact hnd.1 hj
        · exact hnv j (List.mem_cons_of_mem _ hj) hm) (fun j oj hj hoj => by
        rcases List.mem_cons.1 hj with rfl | hj
        · rw [ho] at hoj; cases hoj; exact boundIn_mono hbd
        · exact boundIn_mono (hcl j oj hj hoj))
      refine ⟨fun j => if j = i then v else vs j, rem, vis', fun j hj => q1 j (List.mem_cons_of_mem _ hj), fun j hj => ?_, fun j hj => ?_, q4, fun j hj => ⟨(q5 j hj).1, List.mem_cons_of_mem _ (q5 j hj).2⟩, q6, fun vals hv hA => ?_⟩
      · rcases List.mem_cons.1 hj with rfl | hj
        · exact .inl (q1 j (by simp))
        · exact q2 j hj
      · rcases q3 j hj with hj | hj
        · rcases List.mem_cons.1 hj with rfl | hj
          · exact .inr (by simp)
          · exact .inl hj
        · exact .inr (List.mem_cons_of_mem _ hj)
      · have hv0 : vals i = v := by rw [hv i (by simp)]; simp
        have hA' : Agree ops a₀ vals (fun j => (i :: vis).contains j) (a.put o.dst v) := by
          rw [← hv0]
          refine hA.put2 ho (hti i o ho) fun j _ => ?_
          rw [List.contains_cons, Bool.or_comm]
        obtain ⟨g1, g2⟩ := hvs vals (fun j hj => by
          rw [hv j (List.mem_cons_of_mem _ hj)]
          simp only
          rw [if_neg]
          rintro rfl
          exact hnd.1 hj) hA'
        refine ⟨fun j oj h5 h6 h7 => ?_, ?_⟩
        · by_cases e : j = i
          · subst e
            rw [ho] at h7
            cases h7
            exact ⟨a, vis, hbd, fun i' hi' => q1 i' (List.mem_cons_of_mem _ hi'), fun k' hk' hm => hnv j (by simp) (after_in hk' hm hcl), hA, fun w hw => by rw [hv0]; exact h1 w hw⟩
          · exact g1 j oj h5 (fun hm => by
              rcases List.mem_cons.1 hm with h | h
              · exact e h
              · exact h6 h) h7
        · rcases g2 with g2 | ⟨d, r, o', ad, p1, p2, p3, p4, p5, p6, p7, p8⟩
          · exact .inl g2
          · exact .inr ⟨d, r, o', ad, p1, p2, p3, p4, p5, p6, by rw [List.length_cons]; omega, p8⟩
    · exact ⟨fun _ => undef, i :: l, vis, fun _ h => h, fun j hj => .inr hj, fun j hj => .inl hj, List.nodup_cons.2 hnd, fun j hj => ⟨hnv j hj, hj⟩, hcl, fun vals _ hA => ⟨fun j o h5 h6 => absurd h5 h6, .inr ⟨i, l, o, a, rfl, ho, hbd, hA, h1, h2, by rw [List.length_cons]; omega, S', h2', G, H, h3, h4⟩⟩⟩
end

theorem wpAny_flow {F : Fence} {n : Nat} {P : Program} {ops : Array Oper} {Q : Exit → Act → World → Prop} {a : Act} {w : World} (S C : World → Prop) (ord : List Nat)
    (hF : ∀ f, F.fn f) (hd : F.depth = none) (hc : ∀ n f args w R, Calls P f args w R → CallsIn F n P f args w R) (ht : tidy2 ops = true) (hord : allOf ops ord = true)
    (hS : S w) (hC : C w) (h : FlowAll P ops (fun a S => ∀ w, S w → Q .normal a w) ord [] S C a) : wpAnyIn F n P .any ops Q ops.size (Array.replicate ops.size false) a w := by
  have hti : ∀ i o, ops[i]? = some o → Tidy2 ops i o := fun i o ho => tidy2_spec ht ho
  simp only [allOf, Bool.and_eq_true, decide_eq_true_eq] at hord
  obtain ⟨⟨⟨hord1, hord2⟩, hord3⟩, hord4⟩ := hord
  have hrk := rankedB_spec hord4
  have hmem : ∀ i, i < ops.size → i ∈ ord := fun i hi => by
    have := List.all_eq_true.1 hord1 i (List.mem_range.2 hi)
    simpa using this
  have rdy : ∀ (listed : Array Bool), listed.size = ops.size → Region.ready .any ops listed = [] → ∀ j, j < ops.size → listed.getD j false = true := by
    intro listed hsz hr
    obtain ⟨rk, hrk⟩ := hrk
    have key : ∀ (n j : Nat), rk j < n → j < ops.size → listed.getD j false = true := by
      intro n
      induction n with
      | zero => intro j h; omega
      | succ n ih =>
        intro j hn hj
        have hjl : j < listed.size := by omega
        cases hx : listed[j] with
        | true => simp [hjl, hx]
        | false =>
          have : j ∈ Region.ready .any ops listed := mem_ready.2 ⟨by simp [hjl, hx], ops[j], by simp [hj], fun e he hb => by
            have := hrk j ops[j] (by simp [hj]) e he hb
            exact ih e.on (by omega) this.2⟩
          rw [hr] at this
          cases this
    exact fun j => key _ j (Nat.lt_succ_self _)
  have main : ∀ (m : Nat) (l vis : List Nat) (S C : World → Prop) (ak : Act) (vals : Nat → Value), l.length < m → FlowAll P ops (fun a S => ∀ w, S w → Q .normal a w) l vis S C ak → l.Nodup → (∀ j ∈ l, j ∉ vis) → (∀ j, j < ops.size → j ∈ vis ∨ j ∈ l) → (∀ j ∈ l, j < ops.size) → (∀ j o, j ∈ vis → ops[j]? = some o → boundIn vis o = true) →
      Agree ops a vals (fun j => vis.contains j) ak →
      ∀ (fuel : Nat) (listed : Array Bool) (b : Act) (w : World), listed.size = ops.size → Agree ops a vals (fun j => listed.getD j false) b → S w → C w → (∀ j, listed.getD j false = true → j ∈ vis) →
        (∀ i o, listed.getD i false = true → ops[i]? = some o → ∀ e ∈ o.after, Region.binds .any e = true → listed.getD e.on false = true) →
        (∀ j o, j ∈ vis → ops[j]? = some o → listed.getD j false = false → Fact P ops a vals S vis j o) →
        listed.toList.count false ≤ fuel → wpAnyIn F n P .any ops Q fuel listed b w := by
    intro m
    induction m with
    | zero => intro l vis S C ak vals hlm; omega
    | succ m ihm =>
      intro l vis S C ak vals hlm hflow hnd hnv htot hlt0 hcl hAk
      obtain ⟨vs, rem, vis', q1, q2, q3, q4, q5, q6, hseg⟩ := flow_seg (a₀ := a) hti S C l vis ak hflow hnd hnv hcl
      obtain ⟨vals', hv'⟩ : ∃ vals' : Nat → Value, vals' = fun j => if j ∈ vis then vals j else vs j := ⟨_, rfl⟩
      have hlow : ∀ j, j ∈ vis → vals' j = vals j := fun j hj => by rw [hv']; simp [hj]
      obtain ⟨hpure, hend⟩ := hseg vals' (fun j hj => by rw [hv']; simp only; rw [if_neg (hnv j hj)]) (hAk.congr fun j hj => hlow j (by simpa using hj))
      intro fuel listed b w hsz hA hs hcw hlk hdown hprior hcnt
      have hA' : Agree ops a vals' (fun j => listed.getD j false) b := hA.congr fun j hj => hlow j (hlk j hj)
      have hprior' : ∀ j o, j ∈ vis' → ops[j]? = some o → listed.getD j false = false → Fact P ops a vals' S vis' j o := by
        intro j o hj ho hl
        by_cases hjk : j ∈ vis
        · obtain ⟨a', V, h0, hV, hN, h1, h2⟩ := hprior j o hjk ho hl
          exact ⟨a', V, h0, fun i hi => q1 i (hV i hi), hN, h1.congr fun i hi => hlow i (hV i (by simpa using hi)), fun w hw => by rw [hlow j hjk]; exact h2 w hw⟩
        · exact hpure j o hj hjk ho
      have hld : ∀ j, listed.getD j false = true → j ∈ vis' := fun j hj => q1 j (hlk j hj)
      have htot' : ∀ j, j < ops.size → j ∈ vis' ∨ j ∈ rem := fun j hj => by
        rcases htot j hj with h | h
        · exact .inl (q1 j h)
        · exact q2 j h
      clear hA hlk hprior hpure hv' hlow
      induction fuel generalizing listed b w with
      | zero =>
        have hall : ∀ j, j < ops.size → listed.getD j false = true := fun j hj => by
          have hjl : j < listed.size := by omega
          cases hx : listed[j] with
          | true => simp [hjl, hx]
          | false =>
            have : false ∈ listed.toList := by rw [← hx]; simp
            have := List.count_pos_iff.2 this
            omega
        rcases hend with ⟨hr0, af, hf1, hf2⟩ | ⟨d, r, o, ad, p1, p2, _⟩
        · have : b = af := agree_eq hA' hf1 fun j hj => ⟨hall j hj, by
            have := hld j (hall j hj)
            simpa using this⟩
          subst this
          refine ⟨?_, hf2 w ⟨hs, hcw⟩⟩
          cases hr : Region.ready .any ops listed with
          | nil => rfl
          | cons x xs =>
            have hx : x ∈ Region.ready .any ops listed := by rw [hr]; simp
            obtain ⟨h5, o, h6, _⟩ := mem_ready.1 hx
            have h7 := hall x (lt_of_some h6)
            have hlt : x < listed.size := by rw [hsz]; exact lt_of_some h6
            simp [hlt] at h5 h7
            rw [h5] at h7
            cases h7
        · exact absurd (hld d (hall d (lt_of_some p2))) (q5 d (by rw [p1]; simp)).1
      | succ fuel ih =>
        refine ⟨fun hr => ?_, fun i hi => ?_⟩
        · have hall := rdy listed hsz hr
          rcases hend with ⟨hr0, af, hf1, hf2⟩ | ⟨d, r, o, ad, p1, p2, _⟩
          · have : b = af := agree_eq hA' hf1 fun j hj => ⟨hall j hj, by
              have := hld j (hall j hj)
              simpa using this⟩
            subst this
            exact hf2 w ⟨hs, hcw⟩
          · exact absurd (hld d (hall d (lt_of_some p2))) (q5 d (by rw [p1]; simp)).1
        · obtain ⟨h5, o, h6, h7⟩ := mem_ready.1 hi
          have his := lt_of_some h6
          have hlt : i < listed.size := by rw [hsz]; exact his
          have h5' : listed[i] = false := by simpa [hlt] using h5
          have h5'' : listed.getD i false = false := by simp [hlt, h5']
          have hc1 : (listed.setIfInBounds i true).toList.count false + 1 = listed.toList.count false := by
            rw [Array.toList_setIfInBounds, List.count_set (by simpa using hlt)]
            have : 0 < listed.toList.count false := List.count_pos_iff.2 (by rw [← h5']; simp)
            have e1 : (listed.toList[i]'(by simpa using hlt)) = false := by simpa using h5'
            rw [e1]
            simp only [beq_self_eq_true, if_true]
            rw [if_neg (by simp)]
            omega
          have hset : ∀ j, (listed.setIfInBounds i true).getD j false = (listed.getD j false || j == i) := by
            intro j
            by_cases e : j = i
            · subst e; simp [hlt]
            · rw [Array.getD_eq_getD_getElem?, Array.getElem?_setIfInBounds_ne (Ne.symm e)]
              simp [e]
          have hdown' : ∀ i' o', (listed.setIfInBounds i true).getD i' false = true → ops[i']? = some o' → ∀ e ∈ o'.after, Region.binds .any e = true → (listed.setIfInBounds i true).getD e.on false = true := by
            intro i' o' hl' ho' e he hb
            rw [hset] at hl' ⊢
            rw [Bool.or_eq_true] at hl' ⊢
            left
            rcases hl' with hl' | hl'
            · exact hdown i' o' hl' ho' e he hb
            · have : i' = i := by simpa using hl'
              subst this
              rw [h6] at ho'
              cases ho'
              exact h7 e he hb
          have hlate : ∀ j, After ops i j → listed.getD j false = false := fun j haf => by
            obtain ⟨oj, hoj, e, he, hei, hb⟩ := haf
            cases hlj : listed.getD j false with
            | false => rfl
            | true =>
              have := hdown j oj hlj hoj e he hb
              rw [hei, h5''] at this
              cases this
          by_cases hid : i ∈ vis'
          · obtain ⟨a', V, h0, hV, hN, h8, h9⟩ := hprior' i o hid h6 h5''
            have h10 : HeldOp P ops (fun x => x = w) o (vals' i) b := agree_op2 h8 hA' (hti i o h6) hti (fun e he hb => ⟨by simpa using boundIn_spec h0 e he hb, h7 e he hb⟩) (fun j haf => ⟨by simpa using hN j haf, hlate j haf⟩) (h9 w hs)
            refine heldOp_wpOpIn2 (S := fun x => x = w) hF hd hc h6 (hti i o h6) rfl h10 fun w' hs' => ?_
            subst hs'
            refine ih _ _ _ (by simpa using hsz) hs hcw hdown' (by omega) (hA'.put2 h6 (hti i o h6) fun j _ => hset j) (fun j oj hj hoj hlj => hprior' j oj hj hoj ?_) (fun j hj => ?_)
            · rw [hset] at hlj
              simp at hlj
              simpa using hlj.1
            · rw [hset, Bool.or_eq_true] at hj
              rcases hj with hj | hj
              · exact hld j hj
              · have : j = i := by simpa using hj
                rw [this]; exact hid
          · rcases hend with ⟨hr0, _⟩ | ⟨d, r, od, ad, p1, p2, p3, p4, p5, p6, p7, S', p10, G, H, p8, p9⟩
            · rcases htot' i his with h | h
              · exact absurd h hid
              · rw [hr0] at h; simp at h
            · by_cases hie : i = d
              · subst hie
                rw [h6] at p2
                cases p2
                obtain ⟨e1, e2⟩ := agree_exec p4 hA' (hti i o h6) hti (fun e he hb => ⟨by simpa using boundIn_spec p3 e he hb, h7 e he hb⟩) (fun j haf => ⟨by simpa using fun hm => hid (after_in haf hm q6), hlate j haf⟩)
                have next : ∀ v w', S' w' → G v w' → H v w' → wpAnyIn F n P .any ops Q fuel (listed.setIfInBounds i true) (b.put o.dst v) w' := by
                  intro v w' hs' hg' hh'
                  have hne : ∀ j, j ∈ vis' → (if j = i then v else vals' j) = vals' j := fun j hj => if_neg (by rintro rfl; exact hid hj)
                  have hAd : Agree ops a (fun j => if j = i then v else vals' j) (fun j => (i :: vis').contains j) (ad.put o.dst v) := by
                    have h0 := (p4.congr (vals' := fun j => if j = i then v else vals' j) fun j hj => hne j (by simpa using hj)).put2 (L' := fun j => (i :: vis').contains j) h6 (hti i o h6) (fun j _ => by rw [List.contains_cons, Bool.or_comm])
                    simpa using h0
                  have hAb : Agree ops a (fun j => if j = i then v else vals' j) (fun j => (listed.setIfInBounds i true).getD j false) (b.put o.dst v) := by
                    have h0 := (hA'.congr (vals' := fun j => if j = i then v else vals' j) fun j hj => hne j (hld j hj)).put2 (L' := fun j => (listed.setIfInBounds i true).getD j false) h6 (hti i o h6) (fun j _ => hset j)
                    simpa using h0
                  have hndr : (i :: r).Nodup := p1 ▸ q4
                  rw [List.nodup_cons] at hndr
                  refine ihm r (i :: vis') (fun w => S' w ∧ G v w) (H v) _ _ (by omega) (p9 v ⟨w', hs', hg', hh'⟩) hndr.2 (fun j hj hm => ?_) (fun j hj => ?_) (fun j hj => hlt0 j ((q5 j (by rw [p1]; simp [hj])).2)) (fun j oj hj hoj => by
                    rcases List.mem_cons.1 hj with rfl | hj
                    · rw [h6] at hoj; cases hoj; exact boundIn_mono p3
                    · exact boundIn_mono (q6 j oj hj hoj)) hAd fuel _ _ _ (by simpa using hsz) hAb ⟨hs', hg'⟩ hh' (fun j hj => ?_) hdown' (fun j oj hj hoj hlj => ?_) (by omega)
                  · rcases List.mem_cons.1 hm with rfl | hm
                    · exact hndr.1 hj
                    · exact (q5 j (by rw [p1]; simp [hj])).1 hm
                  · rcases htot' j hj with h | h
                    · exact .inl (List.mem_cons_of_mem _ h)
                    · rw [p1] at h
                      rcases List.mem_cons.1 h with rfl | h
                      · exact .inl (by simp)
                      · exact .inr h
                  · rw [hset, Bool.or_eq_true] at hj
                    rcases hj with hj | hj
                    · exact List.mem_cons_of_mem _ (hld j hj)
                    · have : j = i := by simpa using hj
                      simp [this]
                  · have hlj0 := hlj
                    rw [hset] at hlj
                    simp at hlj
                    have hji : j ∈ vis' := by
                      rcases List.mem_cons.1 hj with h | h
                      · exact absurd h hlj.2
                      · exact h
                    have p11 : ∀ w, S' w → S w := by
                      rcases p10 with p10 | p10
                      · have hm : i ∈ marks ops j := by
                          have := List.all_eq_true.1 p10 j hji
                          simpa using this
                        have := behind_listed (L := fun k => (listed.setIfInBounds i true).getD k false) hrk hdown' i hm (by rw [hset]; simp)
                        rw [this] at hlj0
                        cases hlj0
                      · exact p10
                    obtain ⟨a', V, h0, hV, hN, h8, h9⟩ := hprior' j oj hji hoj (by simpa using hlj.1)
                    exact ⟨a', V, h0, fun t ht => List.mem_cons_of_mem _ (hV t ht), hN, h8.congr fun t ht => hne t (hV t (by simpa using ht)), fun w hw => by
                      have e := hne j hji
                      show HeldOp P ops _ oj (if j = i then v else vals' j) a'
                      rw [e]; exact h9 w (p11 w hw.1)⟩
                unfold wpOpIn
                rw [h6]
                simp only
                rw [if_pos (by rw [← e2]; exact p5)]
                refine ⟨fun f _ => hF f, ?_⟩
                rw [Oper.semAt_plain F _ _ (hti i o h6).dfr, ← e1]
                rcases p8 w hs hcw with ⟨v, w', h11, h12, h13, h14⟩ | ⟨w', h11, h12, h13, h14⟩ | ⟨f, args, w', h11, h12⟩
                · rw [h11]; exact next v w' h12 h13 h14
                · rw [h11]; exact next undef w' h12 h13 h14
                · rw [h11, Oper.uponIn_enter]
                  refine ⟨fun e => by rw [hd] at e; simp at e, (hc _ _ _ _ _ h12).mono fun e w'' ⟨v, he, hs', hg', hh'⟩ => ?_⟩
                  subst he
                  exact next v w'' hs' hg' hh'
              · exfalso
                have hir : i ∈ r := by
                  rcases htot' i his with h | h
                  · exact absurd h hid
                  · rw [p1] at h
                    rcases List.mem_cons.1 h with h | h
                    · exact absurd h hie
                    · exact h
                have hb : i ∈ marks ops d := by
                  have := List.all_eq_true.1 p6 i hir
                  simpa using this
                rcases marks_spec ops d i hb with e | ⟨o', ho', e, he, hbi, hem⟩
                · exact hie e
                · rw [h6] at ho'
                  cases ho'
                  have := behind_listed (L := fun j => listed.getD j false) hrk hdown e.on hem (h7 e he hbi)
                  exact (q5 d (by rw [p1]; simp)).1 (hld d this)
  have hnot : ∀ j, (Array.replicate ops.size false).getD j false = false := fun j => by
    rw [Array.getD_eq_getD_getElem?]
    by_cases hj : j < ops.size <;> simp [hj]
  exact main (ord.length + 1) ord [] S C a (fun _ => undef) (Nat.lt_succ_self _) h hord3 (fun j _ => by simp) (fun j hj => .inr (hmem j hj)) (fun j hj => by
    have := List.all_eq_true.1 hord2 j hj
    simpa using this) (fun j o hj => by simp at hj) (Agree.refl _ fun j => by simp) ops.size _ _ _ (by simp) (Agree.refl _ fun j => hnot j) hS hC (fun j hj => by rw [hnot j] at hj; cases hj) (fun i o hl => by rw [hnot i] at hl; cases hl) (fun j o hj => by simp at hj) (by simp)

theorem wpIn_region_flow {F : Fence} {n : Nat} {P : Program} {ops : Array Oper} {id : Nat} {Q : Exit → Act → World → Prop} {a : Act} {w : World} (S C : World → Prop) (ord : List Nat)
    (hF : ∀ f, F.fn f) (hd : F.depth = none) (hc : ∀ n f args w R, Calls P f args w R → CallsIn F n P f args w R) (hm : P.follows .mixedOrders = true) (ht : tidy2 ops = true) (hord : allOf ops ord = true)
    (hS : S w.drew) (hC : C w.drew) (h : FlowAll P ops (fun a S => ∀ w, S w → Q .normal a w) ord [] S C a) : (Code.region id ops true).wpIn F n P Q a w :=
  wpIn_region_any hm (wpAny_flow (w := w.drew) S C ord hF hd hc ht hord hS hC h)

theorem wp_region_flow2 {P : Program} {ops : Array Oper} {id : Nat} {Q : Exit → Act → World → Prop} {a : Act} {w : World} (S C : World → Prop) (ord : List Nat)
    (hm : P.follows .mixedOrders = true) (ht : tidy2 ops = true) (hord : allOf ops ord = true)
    (hS : S w.drew) (hC : C w.drew) (h : FlowAll P ops (fun a S => ∀ w, S w → Q .normal a w) ord [] S C a) : (Code.region id ops true).wp P Q a w :=
  wpIn_wide (n := 9) |>.1 (wpIn_region_flow S C ord (fun _ => trivial) rfl (fun _ _ _ _ _ h => callsIn_wide.2 h) hm ht hord hS hC h)
/-- Nothing that is replaced. -/
def Nil_ (_ : World) : Prop := True
theorem wp_region_flow {P : Program} {ops : Array Oper} {id : Nat} {Q : Exit → Act → World → Prop} {a : Act} {w : World} (S : World → Prop) (ord : List Nat)
    (hm : P.follows .mixedOrders = true) (ht : tidy2 ops = true) (hord : allOf ops ord = true)
    (hS : S w.drew) (h : FlowAll P ops (fun a S => ∀ w, S w → Q .normal a w) ord [] S Nil_ a) : (Code.region id ops true).wp P Q a w :=
  wp_region_flow2 S Nil_ ord hm ht hord hS trivial h

/-! The steps of such a walk. -/
section
variable {P : Program} {ops : Array Oper} {Q : Exit → Act → World → Prop} {R : Act → (World → Prop) → Prop} {o : Oper} {i : Nat} {l vis : List Nat} {S C : World → Prop} {a : Act}
theorem flow_done (h : ∀ w, S w → Q .normal a w) : FlowAll P ops (fun a S => ∀ w, S w → Q .normal a w) [] vis S Nil_ a := fun w hw => h w hw.1
theorem flow_done2 (h : ∀ w, S w → C w → Q .normal a w) : FlowAll P ops (fun a S => ∀ w, S w → Q .normal a w) [] vis S C a := fun w hw => h w hw.1 hw.2
/-- An operation that leaves the world as it is. -/
theorem flow_val (v : Value) (ho : ops.toList[i]? = some o) (hv : boundIn vis o = true) (hw : Region.wanted o (yielded ops a.tmps) = true) (h : ∀ w, S w → (execOp a.eval o).run P w = .ok (.value v) w) (h' : FlowAll P ops R l (i :: vis) S C (a.put o.dst v)) : FlowAll P ops R (i :: l) vis S C a :=
  ⟨o, by rw [← Array.getElem?_toList]; exact ho, hv, .inl ⟨v, fun w hs => .inl ⟨hw, fun x hx => .inl ⟨x, by subst hx; exact h x hs, hx⟩⟩, h'⟩⟩
/-- An operation that hands back nothing. -/
theorem flow_nil (ho : ops.toList[i]? = some o) (hv : boundIn vis o = true) (hw : Region.wanted o (yielded ops a.tmps) = true) (h : ∀ w, S w → (execOp a.eval o).run P w = .ok .skip w) (h' : FlowAll P ops R l (i :: vis) S C (a.put o.dst undef)) : FlowAll P ops R (i :: l) vis S C a :=
  ⟨o, by rw [← Array.getElem?_toList]; exact ho, hv, .inl ⟨undef, fun w hs => .inl ⟨hw, fun x hx => .inr (.inl ⟨rfl, x, by subst hx; exact h x hs, hx⟩)⟩, h'⟩⟩
/-- An operation that is not wanted. -/
theorem flow_off (ho : ops.toList[i]? = some o) (hv : boundIn vis o = true) (hw : Region.wanted o (yielded ops a.tmps) = false) (h' : FlowAll P ops R l (i :: vis) S C (a.put o.dst undef)) : FlowAll P ops R (i :: l) vis S C a :=
  ⟨o, by rw [← Array.getElem?_toList]; exact ho, hv, .inl ⟨undef, fun _ _ => .inr ⟨hw, rfl⟩, h'⟩⟩
/-- A call that leaves the world just as it is. -/
theorem flow_quiet (v : Value) (ho : ops.toList[i]? = some o) (hv : boundIn vis o = true) (hw : Region.wanted o (yielded ops a.tmps) = true) (h : ∀ w, S w → ∃ f args, (execOp a.eval o).run P w = .ok (.enter f args) w ∧ Calls P f args w fun e w'' => e = .returned v ∧ w = w'') (h' : FlowAll P ops R l (i :: vis) S C (a.put o.dst v)) : FlowAll P ops R (i :: l) vis S C a :=
  ⟨o, by rw [← Array.getElem?_toList]; exact ho, hv, .inl ⟨v, fun w hs => .inl ⟨hw, fun x hx => by
    subst hx
    obtain ⟨f, args, h1, h2⟩ := h x hs
    exact .inr (.inr ⟨f, args, x, h1, h2.mono fun e w'' ⟨he, hw⟩ => ⟨he, hw.symm⟩⟩)⟩, h'⟩⟩
/-- A call that hands back a known value and keeps S. -/
theorem flow_call (v : Value) (ho : ops.toList[i]? = some o) (hv : boundIn vis o = true) (hw : Region.wanted o (yielded ops a.tmps) = true) (hb : behindB ops i l = true) (h : ∀ w, S w → ∃ f args w', (execOp a.eval o).run P w = .ok (.enter f args) w' ∧ Calls P f args w' fun e w'' => e = .returned v ∧ S w'')
    (h' : FlowAll P ops R l (i :: vis) (fun w => S w ∧ v = v) Nil_ (a.put o.dst v)) : FlowAll P ops R (i :: l) vis S C a :=
  ⟨o, by rw [← Array.getElem?_toList]; exact ho, hv, .inr ⟨hw, hb, S, .inr fun _ h => h, fun u _ => u = v, fun _ => Nil_, fun w hs _ => by
    obtain ⟨f, args, w', h1, h2⟩ := h w hs
    exact .inr (.inr ⟨f, args, w', h1, h2.mono fun e w'' ⟨he, hs'⟩ => ⟨v, he, hs', rfl, trivial⟩⟩), fun u ⟨_, _, hu, _⟩ => by subst hu; exact h'⟩⟩
/-- A call that hands back something of which G holds, and keeps S. -/
theorem flow_new (G : Value → World → Prop) (ho : ops.toList[i]? = some o) (hv : boundIn vis o = true) (hw : Region.wanted o (yielded ops a.tmps) = true) (hb : behindB ops i l = true) (h : ∀ w, S w → ∃ f args w', (execOp a.eval o).run P w = .ok (.enter f args) w' ∧ Calls P f args w' fun e w'' => ∃ v, e = .returned v ∧ S w'' ∧ G v w'')
    (h' : ∀ v, (∃ w, S w ∧ G v w) → FlowAll P ops R l (i :: vis) (fun w => S w ∧ G v w) Nil_ (a.put o.dst v)) : FlowAll P ops R (i :: l) vis S C a :=
  ⟨o, by rw [← Array.getElem?_toList]; exact ho, hv, .inr ⟨hw, hb, S, .inr fun _ h => h, G, fun _ => Nil_, fun w hs _ => by
    obtain ⟨f, args, w', h1, h2⟩ := h w hs
    exact .inr (.inr ⟨f, args, w', h1, h2.mono fun e w'' ⟨v, he, hs', hg⟩ => ⟨v, he, hs', hg, trivial⟩⟩), fun v ⟨w, h1, h2, _⟩ => h' v ⟨w, h1, h2⟩⟩⟩
/-- A call that hands back a known value, keeps S, and of which K holds until the next one. -/
theorem flow_turn (v : Value) (K : World → Prop) (ho : ops.toList[i]? = some o) (hv : boundIn vis o = true) (hw : Region.wanted o (yielded ops a.tmps) = true) (hb : behindB ops i l = true) (h : ∀ w, S w → C w → ∃ f args w', (execOp a.eval o).run P w = .ok (.enter f args) w' ∧ Calls P f args w' fun e w'' => e = .returned v ∧ S w'' ∧ K w'')
    (h' : FlowAll P ops R l (i :: vis) (fun w => S w ∧ v = v) K (a.put o.dst v)) : FlowAll P ops R (i :: l) vis S C a :=
  ⟨o, by rw [← Array.getElem?_toList]; exact ho, hv, .inr ⟨hw, hb, S, .inr fun _ h => h, fun u _ => u = v, fun _ => K, fun w hs hc => by
    obtain ⟨f, args, w', h1, h2⟩ := h w hs hc
    exact .inr (.inr ⟨f, args, w', h1, h2.mono fun e w'' ⟨he, hs', hk⟩ => ⟨v, he, hs', rfl, hk⟩⟩), fun u ⟨_, _, hu, _⟩ => by subst hu; exact h'⟩⟩
/-- An operation of the language's own that makes new memory. -/
theorem flow_make (G : Value → World → Prop) (ho : ops.toList[i]? = some o) (hv : boundIn vis o = true) (hw : Region.wanted o (yielded ops a.tmps) = true) (hb : behindB ops i l = true) (h : ∀ w, S w → ∃ v w', (execOp a.eval o).run P w = .ok (.value v) w' ∧ S w' ∧ G v w')
    (h' : ∀ v, (∃ w, S w ∧ G v w) → FlowAll P ops R l (i :: vis) (fun w => S w ∧ G v w) Nil_ (a.put o.dst v)) : FlowAll P ops R (i :: l) vis S C a :=
  ⟨o, by rw [← Array.getElem?_toList]; exact ho, hv, .inr ⟨hw, hb, S, .inr fun _ h => h, G, fun _ => Nil_, fun w hs _ => by
    obtain ⟨v, w', h1, h2, h3⟩ := h w hs
    exact .inl ⟨v, w', h1, h2, h3, trivial⟩, fun v ⟨w, h1, h2, _⟩ => h' v ⟨w, h1, h2⟩⟩⟩
/-- An operation that hands back nothing and turns the world, behind all that is walked and ahead of all that is not. -/
theorem flow_bar (S' C' : World → Prop) (ho : ops.toList[i]? = some o) (hv : boundIn vis o = true) (hw : Region.wanted o (yielded ops a.tmps) = true) (hb : behindB ops i l = true) (ha : aheadB ops i vis = true) (h : ∀ w, S w → C w → ∃ w', (execOp a.eval o).run P w = .ok .skip w' ∧ S' w' ∧ C' w')
    (h' : FlowAll P ops R l (i :: vis) (fun w => S' w ∧ True) C' (a.put o.dst undef)) : FlowAll P ops R (i :: l) vis S C a :=
  ⟨o, by rw [← Array.getElem?_toList]; exact ho, hv, .inr ⟨hw, hb, S', .inl ha, fun u _ => u = undef, fun _ => C', fun w hs hc => by
    obtain ⟨w', h1, h2, h3⟩ := h w hs hc
    exact .inr (.inl ⟨w', h1, h2, rfl, h3⟩), fun u ⟨_, _, hu, _⟩ => by
      subst hu
      have e : (fun w => S' w ∧ undef = undef) = (fun w => S' w ∧ True) := by funext w; simp
      rw [e]
      exact h'⟩⟩
/-- A call that turns the world, behind all that is walked and ahead of all that is not. -/
theorem flow_bcall (S' : World → Prop) (H : Value → World → Prop) (ho : ops.toList[i]? = some o) (hv : boundIn vis o = true) (hw : Region.wanted o (yielded ops a.tmps) = true) (hb : behindB ops i l = true) (ha : aheadB ops i vis = true)
    (h : ∀ w, S w → C w → ∃ f args w', (execOp a.eval o).run P w = .ok (.enter f args) w' ∧ Calls P f args w' fun e w'' => ∃ v, e = .returned v ∧ S' w'' ∧ H v w'')
    (h' : ∀ v, (∃ w, S' w ∧ H v w) → FlowAll P ops R l (i :: vis) (fun w => S' w ∧ True) (H v) (a.put o.dst v)) : FlowAll P ops R (i :: l) vis S C a :=
  ⟨o, by rw [← Array.getElem?_toList]; exact ho, hv, .inr ⟨hw, hb, S', .inl ha, fun _ _ => True, H, fun w hs hc => by
    obtain ⟨f, args, w', h1, h2⟩ := h w hs hc
    exact .inr (.inr ⟨f, args, w', h1, h2.mono fun e w'' ⟨v, he, hs', hk⟩ => ⟨v, he, hs', trivial, hk⟩⟩), fun v ⟨w, h1, _, h2⟩ => h' v ⟨w, h1, h2⟩⟩⟩
/-- A builtin that turns the world, behind all that is walked and ahead of all that is not. -/
theorem flow_bmake (S' : World → Prop) (H : Value → World → Prop) (ho : ops.toList[i]? = some o) (hv : boundIn vis o = true) (hw : Region.wanted o (yielded ops a.tmps) = true) (hb : behindB ops i l = true) (ha : aheadB ops i vis = true)
    (h : ∀ w, S w → C w → ∃ v w', (execOp a.eval o).run P w = .ok (.value v) w' ∧ S' w' ∧ H v w')
    (h' : ∀ v, (∃ w, S' w ∧ H v w) → FlowAll P ops R l (i :: vis) (fun w => S' w ∧ True) (H v) (a.put o.dst v)) : FlowAll P ops R (i :: l) vis S C a :=
  ⟨o, by rw [← Array.getElem?_toList]; exact ho, hv, .inr ⟨hw, hb, S', .inl ha, fun _ _ => True, H, fun w hs hc => by
    obtain ⟨v, w', h1, h2, h3⟩ := h w hs hc
    exact .inl ⟨v, w', h1, h2, trivial, h3⟩, fun v ⟨w, h1, _, h2⟩ => h' v ⟨w, h1, h2⟩⟩⟩
end

end Go.Proofs.Ytochhjdjfgiaeaa
