/- A drawn region, by one walk in an order of one's choice, some of whose operations turn the world and hand back what differs from world to world (calls that make new memory): each of these is one behind which all operations that are walked later are bound. -/
import Derived.Test.YtlljeghlfijdnaaHeld
namespace Go.Proofs.Ytlljeghlfijdnaa

/-- The operation hands back some v, of which G holds, and keeps S. -/
def Turn (P : Program) (S : World → Prop) (G : Value → World → Prop) (o : Oper) (ρ : Operand → Value) : Prop :=
  ∀ w, S w → (∃ v w', (execOp ρ o).run P w = .ok (.value v) w' ∧ S w' ∧ G v w') ∨
    (∃ f args w', (execOp ρ o).run P w = .ok (.enter f args) w' ∧ Calls P f args w' fun e w'' => ∃ v, e = .returned v ∧ S w'' ∧ G v w'')

def markC (ops : Array Oper) (d : Nat) (m : List Nat) (n : Nat) : Bool := n == d || (match ops[n]? with | some o => o.after.any (fun e => Region.binds .any e && m.contains e.on) | none => false)
/-- The operations that are bound behind d, and d. -/
def marks (ops : Array Oper) (d : Nat) : List Nat :=
  (List.range ops.size).foldl (fun m n => if markC ops d m n = true then n :: m else m) []
def behindB (ops : Array Oper) (d : Nat) (r : List Nat) : Bool := let m := marks ops d; r.all fun i => m.contains i
/-- All that binds the operation is in vis. -/
def boundIn (vis : List Nat) (o : Oper) : Bool := o.after.all fun e => !Region.binds .any e || vis.contains e.on
/-- A list of all operations. -/
def allOf (ops : Array Oper) (ord : List Nat) : Bool := (List.range ops.size).all (fun i => ord.contains i) && ord.all (fun i => decide (i < ops.size)) && decide ord.Nodup

theorem marks_spec (ops : Array Oper) (d i : Nat) (h : i ∈ marks ops d) : i = d ∨ ∃ o, ops[i]? = some o ∧ ∃ e ∈ o.after, Region.binds .any e = true ∧ e.on ∈ marks ops d := by
  have key : ∀ (r m : List Nat), (∀ i ∈ m, i = d ∨ ∃ o, ops[i]? = some o ∧ ∃ e ∈ o.after, Region.binds .any e = true ∧ e.on ∈ m) →
      ∀ i ∈ r.foldl (fun m n => if markC ops d m n = true then n :: m else m) m,
        i = d ∨ ∃ o, ops[i]? = some o ∧ ∃ e ∈ o.after, Region.binds .any e = true ∧ e.on ∈ r.foldl (fun m n => if markC ops d m n = true then n :: m else m) m := by
    intro r
    induction r with
    | nil => exact fun m hm i hi => hm i hi
    | cons n r ih =>
      intro m hm i hi
      rw [List.foldl_cons] at hi ⊢
      refine ih _ ?_ i hi
      intro i hi
      split at hi
      · rename_i hc
        rw [if_pos hc]
        rcases List.mem_cons.1 hi with rfl | hi
        · unfold markC at hc
          rw [Bool.or_eq_true] at hc
          rcases hc with hc | hc
          · exact .inl (by simpa using hc)
          · right
            cases ho : ops[i]? with
            | none => rw [ho] at hc; cases hc
            | some o =>
              rw [ho] at hc
              obtain ⟨k, hk, h6⟩ := Array.any_eq_true.1 hc
              rw [Bool.and_eq_true] at h6
              exact ⟨o, rfl, _, Array.getElem_mem hk, h6.1, List.mem_cons_of_mem _ (by simpa using h6.2)⟩
        · rcases hm i hi with h | ⟨o, ho, e, he, hb, hem⟩
          · exact .inl h
          · exact .inr ⟨o, ho, e, he, hb, List.mem_cons_of_mem _ hem⟩
      · rename_i hc
        rw [if_neg hc]
        exact hm i hi
  exact key _ [] (by simp) i h

/-- Where all that is listed is bound behind what is listed, what is bound behind d is listed behind d alone. -/
theorem behind_listed {ops : Array Oper} {d : Nat} {L : Nat → Bool} (hti : ∀ i o, ops[i]? = some o → Tidy ops i o) (hdown : ∀ i o, L i = true → ops[i]? = some o → ∀ e ∈ o.after, Region.binds .any e = true → L e.on = true) :
    ∀ i, i ∈ marks ops d → L i = true → L d = true := by
  intro i
  induction i using Nat.strongRecOn with
  | ind i ih =>
    intro hm hl
    rcases marks_spec ops d i hm with rfl | ⟨o, ho, e, he, hb, hem⟩
    · exact hl
    · exact ih e.on ((hti i o ho).low e he) hem (hdown i o hl ho e he hb)

theorem boundIn_spec {vis : List Nat} {o : Oper} (h : boundIn vis o = true) : ∀ e ∈ o.after, Region.binds .any e = true → e.on ∈ vis := by
  intro e he hb
  unfold boundIn at h
  rw [Array.all_eq_true_iff_forall_mem] at h
  have := h e he
  rw [hb] at this
  simpa using this

def FlowAll (P : Program) (ops : Array Oper) (R : Act → (World → Prop) → Prop) : List Nat → List Nat → (World → Prop) → Act → Prop
  | [], _, S, a => R a S
  | i :: r, vis, S, a => ∃ o, ops[i]? = some o ∧ boundIn vis o = true ∧ ((∃ v, (∀ w, S w → HeldOp P ops (fun x => x = w) o v a) ∧ FlowAll P ops R r (i :: vis) S (a.put o.dst v)) ∨
      (Region.wanted o (yielded ops a.tmps) = true ∧ behindB ops i r = true ∧ ∃ G : Value → World → Prop, Turn P S G o a.eval ∧ ∀ v, (∃ w, S w ∧ G v w) → FlowAll P ops R r (i :: vis) (fun w => S w ∧ G v w) (a.put o.dst v)))

section
variable {ops : Array Oper} {a₀ : Act}
theorem Agree.congr {vals vals' : Nat → Value} {L : Nat → Bool} {a : Act} (h : Agree ops a₀ vals L a) (he : ∀ j, L j = true → vals' j = vals j) : Agree ops a₀ vals' L a :=
  ⟨h.defers, h.size, h.out, fun j o t ho hd hl ht => by rw [he j hl]; exact h.at_ j o t ho hd hl ht⟩
theorem agree_exec {vals : Nat → Value} {L L' : Nat → Bool} {a a' : Act} {i : Nat} {o : Oper} (h : Agree ops a₀ vals L a) (h' : Agree ops a₀ vals L' a') (hti : Tidy ops i o)
    (hL : ∀ e ∈ o.after, Region.binds .any e = true → L e.on = true ∧ L' e.on = true) : execOp a.eval o = execOp a'.eval o ∧ Region.wanted o (yielded ops a.tmps) = Region.wanted o (yielded ops a'.tmps) := by
  have same : ∀ t ∈ o.looksAt ops, a.tmps[t]? = a'.tmps[t]? := fun t ht => agree_at h h' t fun j oj hj hd => by
    obtain ⟨e, he, rfl, hb⟩ := hti.sees t ht j oj hj hd
    exact hL e he hb
  refine ⟨execOp_congr o hti.sel fun x hx => ?_, ?_⟩
  · cases x with
    | tmp t =>
      have := same t (List.mem_append_left _ (List.mem_filterMap.2 ⟨.tmp t, by simpa using hx, rfl⟩))
      simp only [Act.eval, Array.getD_eq_getD_getElem?, this]
    | _ => rfl
  · unfold Region.wanted
    cases hg : o.guard with
    | none => rfl
    | some gw =>
      obtain ⟨g, want⟩ := gw
      have hy : yielded ops a.tmps g = yielded ops a'.tmps g := by
        unfold yielded
        cases ht : (ops[g]?).bind (·.dst) with
        | none => rfl
        | some t =>
          have := same t (List.mem_append_right _ (by simp [hg, ht]))
          simp only [Option.bind_some, this]
      simp only [hy]

/-- A value that is the same in every world of S, told where all that binds the operation is done. -/
def Fact (P : Program) (ops : Array Oper) (a₀ : Act) (vals : Nat → Value) (S : World → Prop) (U : List Nat) (j : Nat) (o : Oper) : Prop :=
  ∃ (a' : Act) (V : List Nat), boundIn V o = true ∧ (∀ i ∈ V, i ∈ U) ∧ Agree ops a₀ vals (fun i => V.contains i) a' ∧ ∀ w, S w → HeldOp P ops (fun x => x = w) o (vals j) a'
/-- What a walk says up to the next operation that turns the world: vis is what is walked ahead of it. -/
def SegEnd (P : Program) (ops : Array Oper) (a₀ : Act) (vals : Nat → Value) (R : Act → (World → Prop) → Prop) (S : World → Prop) (rem vis : List Nat) (n : Nat) : Prop :=
  (rem = [] ∧ ∃ af, Agree ops a₀ vals (fun i => vis.contains i) af ∧ R af S) ∨
  (∃ d r o ad, rem = d :: r ∧ ops[d]? = some o ∧ boundIn vis o = true ∧ Agree ops a₀ vals (fun i => vis.contains i) ad ∧ Region.wanted o (yielded ops ad.tmps) = true ∧ behindB ops d r = true ∧ r.length < n ∧
    ∃ G : Value → World → Prop, Turn P S G o ad.eval ∧ ∀ v, (∃ w, S w ∧ G v w) → FlowAll P ops R r (d :: vis) (fun w => S w ∧ G v w) (ad.put o.dst v))

theorem flow_seg {P : Program} {R : Act → (World → Prop) → Prop} (hti : ∀ i o, ops[i]? = some o → Tidy ops i o) (S : World → Prop) : ∀ (l vis : List Nat) (a : Act), FlowAll P ops R l vis S a → l.Nodup → (∀ j ∈ l, j ∉ vis) →
    ∃ (vs : Nat → Value) (rem vis' : List Nat), (∀ j, j ∈ vis → j ∈ vis') ∧ (∀ j, j ∈ l → j ∈ vis' ∨ j ∈ rem) ∧ (∀ j, j ∈ vis' → j ∈ vis ∨ j ∈ l) ∧ rem.Nodup ∧ (∀ j ∈ rem, j ∉ vis' ∧ j ∈ l) ∧ ∀ vals : Nat → Value, (∀ j, j ∈ l → vals j = vs j) → Agree ops a₀ vals (fun j => vis.contains j) a →
      (∀ j o, j ∈ vis' → j ∉ vis → ops[j]? = some o → Fact P ops a₀ vals S vis' j o) ∧ SegEnd P ops a₀ vals R S rem vis' l.length := by
  intro l
  induction l with
  | nil =>
    intro vis a h _ _
    exact ⟨fun _ => undef, [], vis, fun _ h => h, fun j hj => by simp at hj, fun j hj => .inl hj, List.nodup_nil, fun j hj => by simp at hj, fun vals _ hA => ⟨fun j o h1 h2 => absurd h1 h2, .inl ⟨rfl, a, hA, h⟩⟩⟩
  | cons i l ih =>
    intro vis a h hnd hnv
    obtain ⟨o, ho, hbd, h⟩ := h
    rw [List.nodup_cons] at hnd
    rcases h with ⟨v, h1, h2⟩ | ⟨h1, h2, G, h3, h4⟩
    · obtain ⟨vs, rem, vis', q1, q2, q3, q4, q5, hvs⟩ := ih (i :: vis) _ h2 hnd.2 (fun j hj hm => by
        rcases List.mem_cons.1 hm with rfl | hm
        · exact hnd.1 hj
        · exact hnv j (List.mem_cons_of_mem _ hj) hm)
      refine ⟨fun j => if j = i then v else vs j, rem, vis', fun j hj => q1 j (List.mem_cons_of_mem _ hj), fun j hj => ?_, fun j hj => ?_, q4, fun j hj => ⟨(q5 j hj).1, List.mem_cons_of_mem _ (q5 j hj).2⟩, fun vals hv hA => ?_⟩
      · rcases List.mem_cons.1 hj with rfl | hj
        · exact .inl (q1 j (by simp))
        · exact q2 j hj
      · rcases q3 j hj with hj | hj
        · rcases List.mem_cons.1 hj with rfl | hj
          · exact .inr (by simp)
          · exact .inl hj
        · exact .inr (List.mem_cons_of_mem _ hj)
      · have hv0 : vals i = v := by rw [hv i (by simp)]; simp
        have hA' : Agree ops a₀ vals (fun j => (i :: vis).contains j) (a.put o.dst v) := by
          rw [← hv0]
          refine hA.put ho (hti i o ho) fun j _ => ?_
          rw [List.contains_cons, Bool.or_comm]
        obtain ⟨g1, g2⟩ := hvs vals (fun j hj => by
          rw [hv j (List.mem_cons_of_mem _ hj)]
          simp only
          rw [if_neg]
          rintro rfl
          exact hnd.1 hj) hA'
        refine ⟨fun j oj h5 h6 h7 => ?_, ?_⟩
        · by_cases e : j = i
          · subst e
            rw [ho] at h7
            cases h7
            exact ⟨a, vis, hbd, fun i' hi' => q1 i' (List.mem_cons_of_mem _ hi'), hA, fun w hw => by rw [hv0]; exact h1 w hw⟩
          · exact g1 j oj h5 (fun hm => by
              rcases List.mem_cons.1 hm with h | h
              · exact e h
              · exact h6 h) h7
        · rcases g2 with g2 | ⟨d, r, o', ad, p1, p2, p3, p4, p5, p6, p7, p8⟩
          · exact .inl g2
          · exact .inr ⟨d, r, o', ad, p1, p2, p3, p4, p5, p6, by rw [List.length_cons]; omega, p8⟩
    · exact ⟨fun _ => undef, i :: l, vis, fun _ h => h, fun j hj => .inr hj, fun j hj => .inl hj, List.nodup_cons.2 hnd, fun j hj => ⟨hnv j hj, hj⟩, fun vals _ hA => ⟨fun j o h5 h6 => absurd h5 h6, .inr ⟨i, l, o, a, rfl, ho, hbd, hA, h1, h2, by rw [List.length_cons]; omega, G, h3, h4⟩⟩⟩
end

theorem wpIn_region_flow {F : Fence} {n : Nat} {P : Program} {ops : Array Oper} {id : Nat} {Q : Exit → Act → World → Prop} {a : Act} {w : World} (S : World → Prop) (ord : List Nat)
    (hF : ∀ f, F.fn f) (hd : F.depth = none) (hc : ∀ n f args w R, Calls P f args w R → CallsIn F n P f args w R) (hm : P.follows .mixedOrders = true) (ht : tidy ops = true) (hord : allOf ops ord = true)
    (hS : S w.drew) (h : FlowAll P ops (fun a S => ∀ w, S w → Q .normal a w) ord [] S a) : (Code.region id ops true).wpIn F n P Q a w := by
  have hti : ∀ i o, ops[i]? = some o → Tidy ops i o := fun i o ho => tidy_spec ht ho
  simp only [allOf, Bool.and_eq_true, decide_eq_true_eq] at hord
  obtain ⟨⟨hord1, hord2⟩, hord3⟩ := hord
  have hmem : ∀ i, i < ops.size → i ∈ ord := fun i hi => by
    have := List.all_eq_true.1 hord1 i (List.mem_range.2 hi)
    simpa using this
  refine wpIn_region_any hm ?_
  have rdy : ∀ (listed : Array Bool), listed.size = ops.size → Region.ready .any ops listed = [] → ∀ j, j < ops.size → listed.getD j false = true := by
    intro listed hsz hr j
    induction j using Nat.strongRecOn with
    | ind j ih =>
      intro hj
      have hjl : j < listed.size := by omega
      cases hx : listed[j] with
      | true => simp [hjl, hx]
      | false =>
        have : j ∈ Region.ready .any ops listed := mem_ready.2 ⟨by simp [hjl, hx], ops[j], by simp [hj], fun e he _ => by
          have := (hti j ops[j] (by simp [hj])).low e he
          exact ih e.on this (by omega)⟩
        rw [hr] at this
        cases this
  have main : ∀ (m : Nat) (l vis : List Nat) (S : World → Prop) (ak : Act) (vals : Nat → Value), l.length < m → FlowAll P ops (fun a S => ∀ w, S w → Q .normal a w) l vis S ak → l.Nodup → (∀ j ∈ l, j ∉ vis) → (∀ j, j < ops.size → j ∈ vis ∨ j ∈ l) → (∀ j ∈ l, j < ops.size) →
      Agree ops a vals (fun j => vis.contains j) ak →
      ∀ (fuel : Nat) (listed : Array Bool) (b : Act) (w : World), listed.size = ops.size → Agree ops a vals (fun j => listed.getD j false) b → S w → (∀ j, listed.getD j false = true → j ∈ vis) →
        (∀ i o, listed.getD i false = true → ops[i]? = some o → ∀ e ∈ o.after, Region.binds .any e = true → listed.getD e.on false = true) →
        (∀ j o, j ∈ vis → ops[j]? = some o → listed.getD j false = false → Fact P ops a vals S vis j o) →
        listed.toList.count false ≤ fuel → wpAnyIn F n P .any ops Q fuel listed b w := by
    intro m
    induction m with
    | zero => intro l vis S ak vals hlm; omega
    | succ m ihm =>
      intro l vis S ak vals hlm hflow hnd hnv htot hlt0 hAk
      obtain ⟨vs, rem, vis', q1, q2, q3, q4, q5, hseg⟩ := flow_seg (a₀ := a) hti S l vis ak hflow hnd hnv
      obtain ⟨vals', hv'⟩ : ∃ vals' : Nat → Value, vals' = fun j => if j ∈ vis then vals j else vs j := ⟨_, rfl⟩
      have hlow : ∀ j, j ∈ vis → vals' j = vals j := fun j hj => by rw [hv']; simp [hj]
      obtain ⟨hpure, hend⟩ := hseg vals' (fun j hj => by rw [hv']; simp only; rw [if_neg (hnv j hj)]) (hAk.congr fun j hj => hlow j (by simpa using hj))
      intro fuel listed b w hsz hA hs hlk hdown hprior hcnt
      have hA' : Agree ops a vals' (fun j => listed.getD j false) b := hA.congr fun j hj => hlow j (hlk j hj)
      have hprior' : ∀ j o, j ∈ vis' → ops[j]? = some o → listed.getD j false = false → Fact P ops a vals' S vis' j o := by
        intro j o hj ho hl
        by_cases hjk : j ∈ vis
        · obtain ⟨a', V, h0, hV, h1, h2⟩ := hprior j o hjk ho hl
          exact ⟨a', V, h0, fun i hi => q1 i (hV i hi), h1.congr fun i hi => hlow i (hV i (by simpa using hi)), fun w hw => by rw [hlow j hjk]; exact h2 w hw⟩
        · exact hpure j o hj hjk ho
      have hld : ∀ j, listed.getD j false = true → j ∈ vis' := fun j hj => q1 j (hlk j hj)
      have htot' : ∀ j, j < ops.size → j ∈ vis' ∨ j ∈ rem := fun j hj => by
        rcases htot j hj with h | h
        · exact .inl (q1 j h)
        · exact q2 j h
      clear hA hlk hprior hpure hv' hlow
      induction fuel generalizing listed b w with
      | zero =>
        have hall : ∀ j, j < ops.size → listed.getD j false = true := fun j hj => by
          have hjl : j < listed.size := by omega
          cases hx : listed[j] with
          | true => simp [hjl, hx]
          | false =>
            have : false ∈ listed.toList := by rw [← hx]; simp
            have := List.count_pos_iff.2 this
            omega
        rcases hend with ⟨hr0, af, hf1, hf2⟩ | ⟨d, r, o, ad, p1, p2, _⟩
        · have : b = af := agree_eq hA' hf1 fun j hj => ⟨hall j hj, by
            have := hld j (hall j hj)
            simpa using this⟩
          subst this
          refine ⟨?_, hf2 w hs⟩
          cases hr : Region.ready .any ops listed with
          | nil => rfl
          | cons x xs =>
            have hx : x ∈ Region.ready .any ops listed := by rw [hr]; simp
            obtain ⟨h5, o, h6, _⟩ := mem_ready.1 hx
            have h7 := hall x (lt_of_some h6)
            have hlt : x < listed.size := by rw [hsz]; exact lt_of_some h6
            simp [hlt] at h5 h7
            rw [h5] at h7
            cases h7
        · exact absurd (hld d (hall d (lt_of_some p2))) (q5 d (by rw [p1]; simp)).1
      | succ fuel ih =>
        refine ⟨fun hr => ?_, fun i hi => ?_⟩
        · have hall := rdy listed hsz hr
          rcases hend with ⟨hr0, af, hf1, hf2⟩ | ⟨d, r, o, ad, p1, p2, _⟩
          · have : b = af := agree_eq hA' hf1 fun j hj => ⟨hall j hj, by
              have := hld j (hall j hj)
              simpa using this⟩
            subst this
            exact hf2 w hs
          · exact absurd (hld d (hall d (lt_of_some p2))) (q5 d (by rw [p1]; simp)).1
        · obtain ⟨h5, o, h6, h7⟩ := mem_ready.1 hi
          have his := lt_of_some h6
          have hlt : i < listed.size := by rw [hsz]; exact his
          have h5' : listed[i] = false := by simpa [hlt] using h5
          have h5'' : listed.getD i false = false := by simp [hlt, h5']
          have hc1 : (listed.setIfInBounds i true).toList.count false + 1 = listed.toList.count false := by
            rw [Array.toList_setIfInBounds, List.count_set (by simpa using hlt)]
            have : 0 < listed.toList.count false := List.count_pos_iff.2 (by rw [← h5']; simp)
            have e1 : (listed.toList[i]'(by simpa using hlt)) = false := by simpa using h5'
            rw [e1]
            simp only [beq_self_eq_true, if_true]
            rw [if_neg (by simp)]
            omega
          have hset : ∀ j, (listed.setIfInBounds i true).getD j false = (listed.getD j false || j == i) := by
            intro j
            by_cases e : j = i
            · subst e; simp [hlt]
            · rw [Array.getD_eq_getD_getElem?, Array.getElem?_setIfInBounds_ne (Ne.symm e)]
              simp [e]
          have hdown' : ∀ i' o', (listed.setIfInBounds i true).getD i' false = true → ops[i']? = some o' → ∀ e ∈ o'.after, Region.binds .any e = true → (listed.setIfInBounds i true).getD e.on false = true := by
            intro i' o' hl' ho' e he hb
            rw [hset] at hl' ⊢
            rw [Bool.or_eq_true] at hl' ⊢
            left
            rcases hl' with hl' | hl'
            · exact hdown i' o' hl' ho' e he hb
            · have : i' = i := by simpa using hl'
              subst this
              rw [h6] at ho'
              cases ho'
              exact h7 e he hb
          by_cases hid : i ∈ vis'
          · obtain ⟨a', V, h0, hV, h8, h9⟩ := hprior' i o hid h6 h5''
            have h10 : HeldOp P ops (fun x => x = w) o (vals' i) b := agree_op h8 hA' (hti i o h6) (fun e he hb => ⟨by simpa using boundIn_spec h0 e he hb, h7 e he hb⟩) (h9 w hs)
            refine heldOp_wpOpIn (S := fun x => x = w) hF hd hc h6 (hti i o h6) rfl h10 fun w' hs' => ?_
            subst hs'
            refine ih _ _ _ (by simpa using hsz) hs hdown' (by omega) (hA'.put h6 (hti i o h6) fun j _ => hset j) (fun j oj hj hoj hlj => hprior' j oj hj hoj ?_) (fun j hj => ?_)
            · rw [hset] at hlj
              simp at hlj
              simpa using hlj.1
            · rw [hset, Bool.or_eq_true] at hj
              rcases hj with hj | hj
              · exact hld j hj
              · have : j = i := by simpa using hj
                rw [this]; exact hid
          · rcases hend with ⟨hr0, _⟩ | ⟨d, r, od, ad, p1, p2, p3, p4, p5, p6, p7, G, p8, p9⟩
            · rcases htot' i his with h | h
              · exact absurd h hid
              · rw [hr0] at h; simp at h
            · by_cases hie : i = d
              · subst hie
                rw [h6] at p2
                cases p2
                obtain ⟨e1, e2⟩ := agree_exec p4 hA' (hti i o h6) (fun e he hb => ⟨by simpa using boundIn_spec p3 e he hb, h7 e he hb⟩)
                have next : ∀ v w', S w' → G v w' → wpAnyIn F n P .any ops Q fuel (listed.setIfInBounds i true) (b.put o.dst v) w' := by
                  intro v w' hs' hg'
                  have hne : ∀ j, j ∈ vis' → (if j = i then v else vals' j) = vals' j := fun j hj => if_neg (by rintro rfl; exact hid hj)
                  have hAd : Agree ops a (fun j => if j = i then v else vals' j) (fun j => (i :: vis').contains j) (ad.put o.dst v) := by
                    have h0 := (p4.congr (vals' := fun j => if j = i then v else vals' j) fun j hj => hne j (by simpa using hj)).put (L' := fun j => (i :: vis').contains j) h6 (hti i o h6) (fun j _ => by rw [List.contains_cons, Bool.or_comm])
                    simpa using h0
                  have hAb : Agree ops a (fun j => if j = i then v else vals' j) (fun j => (listed.setIfInBounds i true).getD j false) (b.put o.dst v) := by
                    have h0 := (hA'.congr (vals' := fun j => if j = i then v else vals' j) fun j hj => hne j (hld j hj)).put (L' := fun j => (listed.setIfInBounds i true).getD j false) h6 (hti i o h6) (fun j _ => hset j)
                    simpa using h0
                  have hndr : (i :: r).Nodup := p1 ▸ q4
                  rw [List.nodup_cons] at hndr
                  refine ihm r (i :: vis') (fun w => S w ∧ G v w) _ _ (by omega) (p9 v ⟨w', hs', hg'⟩) hndr.2 (fun j hj hm => ?_) (fun j hj => ?_) (fun j hj => hlt0 j ((q5 j (by rw [p1]; simp [hj])).2)) hAd fuel _ _ _ (by simpa using hsz) hAb ⟨hs', hg'⟩ (fun j hj => ?_) hdown' (fun j oj hj hoj hlj => ?_) (by omega)
                  · rcases List.mem_cons.1 hm with rfl | hm
                    · exact hndr.1 hj
                    · exact (q5 j (by rw [p1]; simp [hj])).1 hm
                  · rcases htot' j hj with h | h
                    · exact .inl (List.mem_cons_of_mem _ h)
                    · rw [p1] at h
                      rcases List.mem_cons.1 h with rfl | h
                      · exact .inl (by simp)
                      · exact .inr h
                  · rw [hset, Bool.or_eq_true] at hj
                    rcases hj with hj | hj
                    · exact List.mem_cons_of_mem _ (hld j hj)
                    · have : j = i := by simpa using hj
                      simp [this]
                  · rw [hset] at hlj
                    simp at hlj
                    have hji : j ∈ vis' := by
                      rcases List.mem_cons.1 hj with h | h
                      · exact absurd h hlj.2
                      · exact h
                    obtain ⟨a', V, h0, hV, h8, h9⟩ := hprior' j oj hji hoj (by simpa using hlj.1)
                    exact ⟨a', V, h0, fun t ht => List.mem_cons_of_mem _ (hV t ht), h8.congr fun t ht => hne t (hV t (by simpa using ht)), fun w hw => by
                      have e := hne j hji
                      show HeldOp P ops _ oj (if j = i then v else vals' j) a'
                      rw [e]; exact h9 w hw.1⟩
                unfold wpOpIn
                rw [h6]
                simp only
                rw [if_pos (by rw [← e2]; exact p5)]
                refine ⟨fun f _ => hF f, ?_⟩
                rw [Oper.semAt_plain F _ _ (hti i o h6).dfr, ← e1]
                rcases p8 w hs with ⟨v, w', h11, h12, h13⟩ | ⟨f, args, w', h11, h12⟩
                · rw [h11]; exact next v w' h12 h13
                · rw [h11, Oper.uponIn_enter]
                  refine ⟨fun e => by rw [hd] at e; simp at e, (hc _ _ _ _ _ h12).mono fun e w'' ⟨v, he, hs', hg'⟩ => ?_⟩
                  subst he
                  exact next v w'' hs' hg'
              · exfalso
                have hir : i ∈ r := by
                  rcases htot' i his with h | h
                  · exact absurd h hid
                  · rw [p1] at h
                    rcases List.mem_cons.1 h with h | h
                    · exact absurd h hie
                    · exact h
                have hb : i ∈ marks ops d := by
                  have := List.all_eq_true.1 p6 i hir
                  simpa using this
                rcases marks_spec ops d i hb with e | ⟨o', ho', e, he, hbi, hem⟩
                · exact hie e
                · rw [h6] at ho'
                  cases ho'
                  have := behind_listed (L := fun j => listed.getD j false) hti hdown e.on hem (h7 e he hbi)
                  exact (q5 d (by rw [p1]; simp)).1 (hld d this)
  have hnot : ∀ j, (Array.replicate ops.size false).getD j false = false := fun j => by
    rw [Array.getD_eq_getD_getElem?]
    by_cases hj : j < ops.size <;> simp [hj]
  exact main (ord.length + 1) ord [] S a (fun _ => undef) (Nat.lt_succ_self _) h hord3 (fun j _ => by simp) (fun j hj => .inr (hmem j hj)) (fun j hj => by
    have := List.all_eq_true.1 hord2 j hj
    simpa using this) (Agree.refl _ fun j => by simp) ops.size _ _ _ (by simp) (Agree.refl _ fun j => hnot j) hS (fun j hj => by rw [hnot j] at hj; cases hj) (fun i o hl => by rw [hnot i] at hl; cases hl) (fun j o hj => by simp at hj) (by simp)

theorem wp_region_flow {P : Program} {ops : Array Oper} {id : Nat} {Q : Exit → Act → World → Prop} {a : Act} {w : World} (S : World → Prop) (ord : List Nat)
    (hm : P.follows .mixedOrders = true) (ht : tidy ops = true) (hord : allOf ops ord = true)
    (hS : S w.drew) (h : FlowAll P ops (fun a S => ∀ w, S w → Q .normal a w) ord [] S a) : (Code.region id ops true).wp P Q a w :=
  wpIn_wide (n := 9) |>.1 (wpIn_region_flow S ord (fun _ => trivial) rfl (fun _ _ _ _ _ h => callsIn_wide.2 h) hm ht hord hS h)

/-! The steps of such a walk. -/
section
variable {P : Program} {ops : Array Oper} {R : Act → (World → Prop) → Prop} {o : Oper} {i : Nat} {l vis : List Nat} {S : World → Prop} {a : Act}
theorem flow_done (h : R a S) : FlowAll P ops R [] vis S a := h
/-- An operation that leaves the world as it is. -/
theorem flow_val (v : Value) (ho : ops.toList[i]? = some o) (hv : boundIn vis o = true) (hw : Region.wanted o (yielded ops a.tmps) = true) (h : ∀ w, S w → (execOp a.eval o).run P w = .ok (.value v) w) (h' : FlowAll P ops R l (i :: vis) S (a.put o.dst v)) : FlowAll P ops R (i :: l) vis S a :=
  ⟨o, by rw [← Array.getElem?_toList]; exact ho, hv, .inl ⟨v, fun w hs => .inl ⟨hw, fun x hx => .inl ⟨x, by subst hx; exact h x hs, hx⟩⟩, h'⟩⟩
/-- An operation that hands back nothing. -/
theorem flow_nil (ho : ops.toList[i]? = some o) (hv : boundIn vis o = true) (hw : Region.wanted o (yielded ops a.tmps) = true) (h : ∀ w, S w → (execOp a.eval o).run P w = .ok .skip w) (h' : FlowAll P ops R l (i :: vis) S (a.put o.dst undef)) : FlowAll P ops R (i :: l) vis S a :=
  ⟨o, by rw [← Array.getElem?_toList]; exact ho, hv, .inl ⟨undef, fun w hs => .inl ⟨hw, fun x hx => .inr (.inl ⟨rfl, x, by subst hx; exact h x hs, hx⟩)⟩, h'⟩⟩
/-- An operation that is not wanted. -/
theorem flow_off (ho : ops.toList[i]? = some o) (hv : boundIn vis o = true) (hw : Region.wanted o (yielded ops a.tmps) = false) (h' : FlowAll P ops R l (i :: vis) S (a.put o.dst undef)) : FlowAll P ops R (i :: l) vis S a :=
  ⟨o, by rw [← Array.getElem?_toList]; exact ho, hv, .inl ⟨undef, fun _ _ => .inr ⟨hw, rfl⟩, h'⟩⟩
/-- A call that leaves the world just as it is. -/
theorem flow_quiet (v : Value) (ho : ops.toList[i]? = some o) (hv : boundIn vis o = true) (hw : Region.wanted o (yielded ops a.tmps) = true) (h : ∀ w, S w → ∃ f args, (execOp a.eval o).run P w = .ok (.enter f args) w ∧ Calls P f args w fun e w'' => e = .returned v ∧ w = w'') (h' : FlowAll P ops R l (i :: vis) S (a.put o.dst v)) : FlowAll P ops R (i :: l) vis S a :=
  ⟨o, by rw [← Array.getElem?_toList]; exact ho, hv, .inl ⟨v, fun w hs => .inl ⟨hw, fun x hx => by
    subst hx
    obtain ⟨f, args, h1, h2⟩ := h x hs
    exact .inr (.inr ⟨f, args, x, h1, h2.mono fun e w'' ⟨he, hw⟩ => ⟨he, hw.symm⟩⟩)⟩, h'⟩⟩
/-- A call that hands back a known value and keeps S. -/
theorem flow_call (v : Value) (ho : ops.toList[i]? = some o) (hv : boundIn vis o = true) (hw : Region.wanted o (yielded ops a.tmps) = true) (hb : behindB ops i l = true) (h : ∀ w, S w → ∃ f args w', (execOp a.eval o).run P w = .ok (.enter f args) w' ∧ Calls P f args w' fun e w'' => e = .returned v ∧ S w'')
    (h' : FlowAll P ops R l (i :: vis) (fun w => S w ∧ v = v) (a.put o.dst v)) : FlowAll P ops R (i :: l) vis S a :=
  ⟨o, by rw [← Array.getElem?_toList]; exact ho, hv, .inr ⟨hw, hb, fun u _ => u = v, fun w hs => by
    obtain ⟨f, args, w', h1, h2⟩ := h w hs
    exact .inr ⟨f, args, w', h1, h2.mono fun e w'' ⟨he, hs'⟩ => ⟨v, he, hs', rfl⟩⟩, fun u ⟨_, _, hu⟩ => by subst hu; exact h'⟩⟩
/-- A call that hands back something of which G holds, and keeps S. -/
theorem flow_new (G : Value → World → Prop) (ho : ops.toList[i]? = some o) (hv : boundIn vis o = true) (hw : Region.wanted o (yielded ops a.tmps) = true) (hb : behindB ops i l = true) (h : ∀ w, S w → ∃ f args w', (execOp a.eval o).run P w = .ok (.enter f args) w' ∧ Calls P f args w' fun e w'' => ∃ v, e = .returned v ∧ S w'' ∧ G v w'')
    (h' : ∀ v, (∃ w, S w ∧ G v w) → FlowAll P ops R l (i :: vis) (fun w => S w ∧ G v w) (a.put o.dst v)) : FlowAll P ops R (i :: l) vis S a :=
  ⟨o, by rw [← Array.getElem?_toList]; exact ho, hv, .inr ⟨hw, hb, G, fun w hs => .inr (h w hs), h'⟩⟩
/-- An operation of the language's own that makes new memory. -/
theorem flow_make (G : Value → World → Prop) (ho : ops.toList[i]? = some o) (hv : boundIn vis o = true) (hw : Region.wanted o (yielded ops a.tmps) = true) (hb : behindB ops i l = true) (h : ∀ w, S w → ∃ v w', (execOp a.eval o).run P w = .ok (.value v) w' ∧ S w' ∧ G v w')
    (h' : ∀ v, (∃ w, S w ∧ G v w) → FlowAll P ops R l (i :: vis) (fun w => S w ∧ G v w) (a.put o.dst v)) : FlowAll P ops R (i :: l) vis S a :=
  ⟨o, by rw [← Array.getElem?_toList]; exact ho, hv, .inr ⟨hw, hb, G, fun w hs => .inl (h w hs), h'⟩⟩
end

end Go.Proofs.Ytlljeghlfijdnaa
