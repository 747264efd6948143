/- Joined: More steps of a walk through a drawn region: state that is handed on; append. A drawn region in which two operations that turn the world stand in no order: two walks, one for each order. A drawn region, its end laid down once for all the orders in which it is walked. -/
import Derived.Test.YtpccbobomppdbaaZM6
import Derived.Test.YtpccbobomppdbaaZM2
namespace Go.Proofs.Ytpccbobomppdbaa
open Go.RowKit

section
variable {P : Program} {ops : Array Oper} {R : Act → (World → Prop) → Prop} {o : Oper} {i : Nat} {l vis : List Nat} {S C : World → Prop} {a : Act}
/-- A call that hands back something, keeps S, and of which H holds until the next one. -/
theorem flow_gcall (H : Value → World → Prop) (ho : ops.toList[i]? = some o) (hv : boundIn vis o = true) (hw : Region.wanted o (yielded ops a.tmps) = true) (hb : behindB ops i l = true)
    (h : ∀ w, S w → C w → ∃ f args w', (execOp a.eval o).run P w = .ok (.enter f args) w' ∧ Calls P f args w' fun e w'' => ∃ v, e = .returned v ∧ S w'' ∧ H v w'')
    (h' : ∀ v, (∃ w, S w ∧ H v w) → FlowAll P ops R l (i :: vis) (fun w => S w ∧ True) (H v) (a.put o.dst v)) : FlowAll P ops R (i :: l) vis S C a :=
  ⟨o, by rw [← Array.getElem?_toList]; exact ho, hv, .inr ⟨hw, hb, S, .inr fun _ h => h, fun _ _ => True, H, fun w hs hc => by
    obtain ⟨f, args, w', h1, h2⟩ := h w hs hc
    exact .inr (.inr ⟨f, args, w', h1, h2.mono fun e w'' ⟨v, he, hs', hk⟩ => ⟨v, he, hs', trivial, hk⟩⟩), fun v ⟨w, h1, _, h2⟩ => h' v ⟨w, h1, h2⟩⟩⟩
/-- An operation of the language's own that makes or writes memory: of what it hands back H holds until the next one. -/
theorem flow_gmake (H : Value → World → Prop) (ho : ops.toList[i]? = some o) (hv : boundIn vis o = true) (hw : Region.wanted o (yielded ops a.tmps) = true) (hb : behindB ops i l = true)
    (h : ∀ w, S w → C w → ∃ v w', (execOp a.eval o).run P w = .ok (.value v) w' ∧ S w' ∧ H v w')
    (h' : ∀ v, (∃ w, S w ∧ H v w) → FlowAll P ops R l (i :: vis) (fun w => S w ∧ True) (H v) (a.put o.dst v)) : FlowAll P ops R (i :: l) vis S C a :=
  ⟨o, by rw [← Array.getElem?_toList]; exact ho, hv, .inr ⟨hw, hb, S, .inr fun _ h => h, fun _ _ => True, H, fun w hs hc => by
    obtain ⟨v, w', h1, h2, h3⟩ := h w hs hc
    exact .inl ⟨v, w', h1, h2, trivial, h3⟩, fun v ⟨w, h1, _, h2⟩ => h' v ⟨w, h1, h2⟩⟩⟩
end
/-- An operation that appends what may be read to a row that is the caller's own. -/
theorem exec_append_rd {P : Program} {o : Oper} {ρ : Operand → Value} {w : World} {S : World → Prop} {H : Value → World → Prop} (s x : Operand) (t : TypeId)
    (ho : o.op = .call { callee := .builtin .append, args := #[s, x], argTypes := #[t, t] })
    (base : Nat) (e : TypeId) (i : TypeInfo) (z : Value) (size bytes : Nat) (ht : P.underlying t = some (.slice e)) (hi : P.info? e = some i) (hz : i.zero = some z)
    (hsize : i.size = size) (hby : i.bytes = bytes) (hzs : z.cells.size = size) (hsz : 0 < size)
    (v : Value) (n : Nat) (xs : List Value) (hs : ρ s = v) (hown : w.ownsRow base e size v n xs)
    (A : Option Addr) (m c : Nat) (news : List Value) (hx : ρ x = .slice A m c) (hr : Rd w size A m news) (h1 : ∀ u ∈ news, u.oneCell' = true)
    (h63 : n + m ≤ maxLen) (hbytes : (n + m) * bytes ≤ 140737488355328) (hbase : base ≤ w.heap.size)
    (h : ∀ v' w', w'.ownsRow base e size v' (n + m) (xs ++ news) → w.grownBy w' v.ownBlock → S w' ∧ H v' w') :
    ∃ v' w', (execOp ρ o).run P w = .ok (.value v') w' ∧ S w' ∧ H v' w' := by
  obtain ⟨v', w', hrun, h2, h3, _⟩ := run_append_rd (P := P) w base t o.type e i z size bytes ht hi hz hsize hby hzs hsz v n xs hown A m c news hr h1 h63 hbytes hbase
  refine ⟨v', w', ?_, h v' w' h2 h3⟩
  unfold execOp
  simp only [ho, resolve, invoke, builtin, Sem.run_bind, Sem.run_pure, Result.andThen_ok, List.map_toArray, List.map_cons, List.map_nil, hs, hx, hrun]

end Go.Proofs.Ytpccbobomppdbaa

namespace Go.Proofs.Ytpccbobomppdbaa

section
variable {F : Fence} {n : Nat} {P : Program} {ops : Array Oper} {Q : Exit → Act → World → Prop}

/-- A list in which a region may be done, from what is listed on. -/
def ValidL (ops : Array Oper) : Array Bool → List Nat → Prop
  | listed, [] => Region.ready .any ops listed = []
  | listed, i :: r => i ∈ Region.ready .any ops listed ∧ ValidL ops (listed.setIfInBounds i true) r

theorem ready_lt {listed : Array Bool} {i : Nat} (h : i ∈ Region.ready .any ops listed) : i < listed.size ∧ listed.getD i false = false := by
  obtain ⟨h1, _⟩ := mem_ready.1 h
  by_cases hi : i < listed.size
  · refine ⟨hi, ?_⟩
    simp [hi] at h1 ⊢
    exact h1
  · simp [hi] at h1
theorem count_set {listed : Array Bool} {i : Nat} (h : i ∈ Region.ready .any ops listed) : (listed.setIfInBounds i true).toList.count false + 1 = listed.toList.count false := by
  obtain ⟨hlt, h5⟩ := ready_lt h
  have h5' : listed[i] = false := by simpa [hlt] using h5
  rw [Array.toList_setIfInBounds, List.count_set (by simpa using hlt)]
  have : 0 < listed.toList.count false := List.count_pos_iff.2 (by rw [← h5']; simp)
  have e1 : (listed.toList[i]'(by simpa using hlt)) = false := by simpa using h5'
  rw [e1]
  simp only [beq_self_eq_true, if_true]
  rw [if_neg (by simp)]
  omega
theorem lin_valid : ∀ (fuel t : Nat) (listed : Array Bool), listed.toList.count false ≤ fuel → ValidL ops listed (Region.linearise.go .any ops fuel t listed []) := by
  intro fuel
  induction fuel with
  | zero =>
    intro t listed hc
    simp only [Region.linearise.go, List.reverse_nil]
    show Region.ready .any ops listed = []
    cases hr : Region.ready .any ops listed with
    | nil => rfl
    | cons x xs =>
      have := count_set (ops := ops) (listed := listed) (i := x) (by rw [hr]; simp)
      omega
  | succ fuel ih =>
    intro t listed hc
    simp only [Region.linearise.go]
    change ValidL ops listed (match (Region.ready .any ops listed)[t % (Region.ready .any ops listed).length]? with
      | some i => Region.linearise.go .any ops fuel (t / (Region.ready .any ops listed).length) (listed.setIfInBounds i true) [i]
      | none => [].reverse)
    cases hi : (Region.ready .any ops listed)[t % (Region.ready .any ops listed).length]? with
    | none =>
      show Region.ready .any ops listed = []
      cases hr : Region.ready .any ops listed with
      | nil => rfl
      | cons x xs =>
        rw [hr] at hi
        have hlt : t % (x :: xs).length < (x :: xs).length := Nat.mod_lt _ (by simp)
        simp at hi
        simp at hlt
        omega
    | some i =>
      simp only []
      rw [linearise_go_acc, List.reverse_singleton, List.singleton_append]
      have hm := List.mem_of_getElem? hi
      exact ⟨hm, ih _ _ (by have := count_set hm; omega)⟩
theorem valid_len : ∀ (l : List Nat) (listed : Array Bool), ValidL ops listed l → l.length ≤ listed.toList.count false
  | [], _, _ => Nat.zero_le _
  | i :: r, listed, h => by
    have := valid_len r _ h.2
    have := count_set h.1
    rw [List.length_cons]
    omega
theorem any_ops : ∀ (l : List Nat) (fuel : Nat) (listed : Array Bool) (a : Act) (w : World), wpAnyIn F n P .any ops Q fuel listed a w → ValidL ops listed l → l.length ≤ fuel → wpOpsIn F n P ops Q l a w
  | [], 0, _, _, _, h, _, _ => h.2
  | [], _ + 1, _, _, _, h, hv, _ => h.1 hv
  | i :: r, 0, _, _, _, _, _, hl => by simp at hl
  | i :: r, fuel + 1, listed, a, w, h, hv, hl => by
    rw [wpOpsIn_cons]
    exact wpOpIn_mono (fun a w h' => any_ops r fuel _ a w h' hv.2 (by simpa using hl)) (h.2 i hv.1)

/-- However the operations are drawn. -/
def RegOK (F : Fence) (n : Nat) (P : Program) (ops : Array Oper) (Q : Exit → Act → World → Prop) (a : Act) (w : World) : Prop :=
  ∀ l, ValidL ops (Array.replicate ops.size false) l → wpOpsIn F n P ops Q l a w
theorem region_of_ok {id : Nat} {a : Act} {w : World} (hm : P.follows .mixedOrders = true) (h : RegOK F n P ops Q a w.drew) : (Code.region id ops true).wpIn F n P Q a w :=
  wpIn_region_draw fun t => by
    simp only [Region.schedule, hm, Bool.true_or, if_true]
    exact h _ (lin_valid _ _ _ (by simp))
theorem ok_flow {a : Act} {w : World} (S C : World → Prop) (ord : List Nat)
    (hF : ∀ f, F.fn f) (hd : F.depth = none) (hc : ∀ n f args w R, Calls P f args w R → CallsIn F n P f args w R) (ht : tidy2 ops = true) (hord : allOf ops ord = true)
    (hS : S w) (hC : C w) (h : FlowAll P ops (fun a S => ∀ w, S w → Q .normal a w) ord [] S C a) : RegOK F n P ops Q a w := fun l hl =>
  any_ops l _ _ _ _ (wpAny_flow S C ord hF hd hc ht hord hS hC h) hl (by have := valid_len l _ hl; simpa using this)

/-- d is bound behind s, too. -/
def addL : Nat → Nat → List Oper → List Oper
  | _, _, [] => []
  | 0, s, o :: r => { o with after := o.after.push { on := s, ground := .data } } :: r
  | d + 1, s, o :: r => o :: addL d s r
def addAfter (ops : Array Oper) (d s : Nat) : Array Oper := (addL d s ops.toList).toArray
theorem addL_get : ∀ (d s : Nat) (l : List Oper) (i : Nat), (addL d s l)[i]? = (l[i]?).map fun o => if i = d then { o with after := o.after.push { on := s, ground := .data } } else o
  | d, _, [], i => by cases d <;> simp [addL]
  | 0, s, o :: r, 0 => by simp [addL]
  | 0, s, o :: r, i + 1 => by simp [addL]
  | d + 1, s, o :: r, 0 => by simp [addL]
  | d + 1, s, o :: r, i + 1 => by simp [addL, addL_get d s r i]
theorem addL_len : ∀ (d s : Nat) (l : List Oper), (addL d s l).length = l.length
  | d, _, [] => by cases d <;> rfl
  | 0, _, _ :: _ => rfl
  | d + 1, s, _ :: r => by simp [addL, addL_len d s r]
theorem addAfter_get (d s i : Nat) : (addAfter ops d s)[i]? = (ops[i]?).map fun o => if i = d then { o with after := o.after.push { on := s, ground := .data } } else o := by
  unfold addAfter
  rw [List.getElem?_toArray, addL_get, Array.getElem?_toList]
theorem addAfter_size (d s : Nat) : (addAfter ops d s).size = ops.size := by simp [addAfter, addL_len]
theorem addAfter_yielded (d s : Nat) (tmps : Array Value) : yielded (addAfter ops d s) tmps = yielded ops tmps := by
  funext g
  unfold yielded
  rw [addAfter_get]
  cases ops[g]? with
  | none => rfl
  | some o =>
    simp only [Option.map_some, Option.bind_some]
    by_cases hg : g = d
    · rw [if_pos hg]
    · rw [if_neg hg]
theorem addAfter_ops (d s : Nat) : ∀ (l : List Nat) (a : Act) (w : World), wpOpsIn F n P (addAfter ops d s) Q l a w → wpOpsIn F n P ops Q l a w
  | [], _, _, h => h
  | i :: r, a, w, h => by
    rw [wpOpsIn_cons] at h ⊢
    have ih := fun a w => addAfter_ops d s r a w
    unfold wpOpIn at h ⊢
    rw [addAfter_get] at h
    cases ho : ops[i]? with
    | none => rw [ho] at h; exact ih _ _ h
    | some o =>
      rw [ho] at h
      simp only [Option.map_some, addAfter_yielded] at h ⊢
      have e1 : Region.wanted (if i = d then { o with after := o.after.push { on := s, ground := .data } } else o) (yielded ops a.tmps) = Region.wanted o (yielded ops a.tmps) := by split <;> rfl
      rw [e1] at h
      by_cases hw : Region.wanted o (yielded ops a.tmps) = true
      · rw [if_pos hw] at h ⊢
        have h2 : o.wpIn F n P a w (wpOpsIn F n P (addAfter ops d s) Q r) Q := by
          by_cases hid : i = d
          · rw [if_pos hid] at h; exact h
          · rw [if_neg hid] at h; exact h
        exact Oper.wpIn_mono ih h2
      · rw [if_neg hw] at h ⊢
        by_cases hid : i = d
        · rw [if_pos hid] at h; exact ⟨h.1, ih _ _ h.2⟩
        · rw [if_neg hid] at h; exact ⟨h.1, ih _ _ h.2⟩

/-- s comes ahead of d. -/
def Before (s d : Nat) : List Nat → Prop
  | [] => True
  | i :: r => i = s ∨ (i ≠ d ∧ Before s d r)
theorem before_or (s d : Nat) : ∀ l, Before s d l ∨ Before d s l
  | [] => .inl trivial
  | i :: r => by
    by_cases h1 : i = s
    · exact .inl (.inl h1)
    · by_cases h2 : i = d
      · exact .inr (.inl h2)
      · rcases before_or s d r with h | h
        · exact .inl (.inr ⟨h2, h⟩)
        · exact .inr (.inr ⟨h1, h⟩)
theorem set_true {listed : Array Bool} {i j : Nat} (h : listed.getD j false = true) : (listed.setIfInBounds i true).getD j false = true := by
  by_cases e : i = j
  · subst e
    by_cases hi : i < listed.size
    · simp [hi]
    · simp [hi] at h
  · rw [Array.getD_eq_getD_getElem?, Array.getElem?_setIfInBounds_ne e]
    simpa using h
theorem set_self {listed : Array Bool} {i : Nat} (h : i < listed.size) : (listed.setIfInBounds i true).getD i false = true := by simp [h]
theorem addAfter_valid (d s : Nat) (hds : d ≠ s) : ∀ (l : List Nat) (listed : Array Bool), ValidL ops listed l → (listed.getD d false = true ∨ listed.getD s false = true ∨ Before s d l) → ValidL (addAfter ops d s) listed l
  | [], listed, h, _ => by
    show Region.ready .any (addAfter ops d s) listed = []
    cases hr : Region.ready .any (addAfter ops d s) listed with
    | nil => rfl
    | cons x xs =>
      exfalso
      have hx : x ∈ Region.ready .any (addAfter ops d s) listed := by rw [hr]; simp
      obtain ⟨h1, o, h2, h3⟩ := mem_ready.1 hx
      rw [addAfter_get] at h2
      cases ho : ops[x]? with
      | none => rw [ho] at h2; cases h2
      | some o' =>
        rw [ho, Option.map_some, Option.some.injEq] at h2
        have : x ∈ Region.ready .any ops listed := mem_ready.2 ⟨h1, o', ho, fun e he hb => by
          subst h2
          refine h3 e ?_ hb
          split
          · simp [he]
          · exact he⟩
        rw [h] at this
        cases this
  | i :: r, listed, h, hb => by
    obtain ⟨h1, h2⟩ := h
    obtain ⟨hlt, hnl⟩ := ready_lt h1
    obtain ⟨g1, o, g2, g3⟩ := mem_ready.1 h1
    have hbi : i = d → listed.getD s false = true := fun e => by
      subst e
      rcases hb with hb | hb | hb
      · rw [hnl] at hb; cases hb
      · exact hb
      · rcases hb with hb | hb
        · exact absurd hb hds
        · exact absurd rfl hb.1
    refine ⟨mem_ready.2 ⟨g1, _, by rw [addAfter_get, g2, Option.map_some], fun e he hbe => ?_⟩, addAfter_valid d s hds r _ h2 ?_⟩
    · split at he
      · rename_i hid
        rcases Array.mem_push.1 he with he | he
        · exact g3 e he hbe
        · subst he; exact hbi hid
      · exact g3 e he hbe
    · rcases hb with hb | hb | hb
      · exact .inl (set_true hb)
      · exact .inr (.inl (set_true hb))
      · rcases hb with hb | hb
        · subst hb; exact .inr (.inl (set_self hlt))
        · exact .inr (.inr hb.2)
/-- Two walks, one for each order of d and s. -/
theorem ok_split (d s : Nat) (hds : d ≠ s) {a : Act} {w : World} (h1 : RegOK F n P (addAfter ops d s) Q a w) (h2 : RegOK F n P (addAfter ops s d) Q a w) : RegOK F n P ops Q a w := fun l hl => by
  rcases before_or s d l with h | h
  · exact addAfter_ops d s l a w (h1 l (by rw [addAfter_size]; exact addAfter_valid d s hds l _ hl (.inr (.inr h))))
  · exact addAfter_ops s d l a w (h2 l (by rw [addAfter_size]; exact addAfter_valid s d (Ne.symm hds) l _ hl (.inr (.inr h))))
end
end Go.Proofs.Ytpccbobomppdbaa

namespace Go.Proofs.Ytpccbobomppdbaa

section
variable {F : Fence} {n : Nat} {P : Program} {ops : Array Oper} {Q Q' : Exit → Act → World → Prop}

theorem wpIn_monoQ {o : Oper} {a : Act} {w : World} {K : Act → World → Prop} (h : ∀ x a w, Q x a w → Q' x a w) (hh : o.wpIn F n P a w K Q) : o.wpIn F n P a w K Q' := by
  have hl : LetsOut Q → LetsOut Q' := fun hl => by
    obtain ⟨a, w, hl⟩ := hl
    exact ⟨a, w, h _ _ _ hl⟩
  unfold Oper.wpIn at *
  refine ⟨hh.1, ?_⟩
  have hh := hh.2
  generalize (o.semAt F.round a.eval).run P w = r at *
  cases r with
  | ok x w' =>
    cases x <;> simp only [Oper.uponIn] at hh ⊢ <;>
      first
        | exact hh
        | exact ⟨hh.1, CallsIn.mono hh.2 (fun e w'' he => by cases e <;> first | exact he | exact hl he | exact h _ _ _ he)⟩
        | exact ⟨hh.1, RoundIn.mono hh.2 (fun e w'' he => by cases e <;> first | exact he | exact hl he | exact h _ _ _ he)⟩
  | halt x w' => cases x <;> simp only [Oper.uponIn] at hh ⊢ <;> first | exact h _ _ _ hh | exact hh
theorem wpOpsIn_monoQ (h : ∀ x a w, Q x a w → Q' x a w) : ∀ (l : List Nat) (a : Act) (w : World), wpOpsIn F n P ops Q l a w → wpOpsIn F n P ops Q' l a w
  | [], a, w, hh => h _ a w hh
  | i :: r, a, w, hh => by
    rw [wpOpsIn_cons] at hh ⊢
    have hh := wpOpIn_mono (fun a w => wpOpsIn_monoQ h r a w) hh
    unfold wpOpIn at *
    split
    · simpa [*] using hh
    · rename_i o ho
      simp only [ho] at hh
      split
      · rename_i hw; simp only [hw, if_true] at hh; exact wpIn_monoQ h hh
      · rename_i hw; simp only [hw] at hh; exact hh
/-- Only what M says is known where the region ends. -/
theorem region_mid {id : Nat} {a : Act} {w : World} (M : Act → World → Prop) (hm : P.follows .mixedOrders = true) (h : RegOK F n P ops (fun x a w => x = .normal ∧ M a w ∨ x ≠ .normal ∧ Q x a w) a w.drew) (hk : ∀ a w, M a w → Q .normal a w) : (Code.region id ops true).wpIn F n P Q a w :=
  region_of_ok hm fun l hl => wpOpsIn_monoQ (fun x a w hx => by
    rcases hx with ⟨rfl, hx⟩ | ⟨_, hx⟩
    · exact hk a w hx
    · exact hx) l a _ (h l hl)
theorem flow_end {vis : List Nat} {S C : World → Prop} {a : Act} {R : Act → World → Prop} (h : ∀ w, S w → C w → R a w) : FlowAll P ops (fun a S => ∀ w, S w → R a w) [] vis S C a := fun w hw => h w hw.1 hw.2
/-- A store (or what else hands back nothing) that keeps S, and of which C' holds until the next one. -/
theorem flow_store {R : Act → (World → Prop) → Prop} {o : Oper} {i : Nat} {l vis : List Nat} {S C : World → Prop} {a : Act} (C' : World → Prop) (ho : ops.toList[i]? = some o) (hv : boundIn vis o = true) (hw : Region.wanted o (yielded ops a.tmps) = true) (hb : behindB ops i l = true)
    (h : ∀ w, S w → C w → ∃ w', (execOp a.eval o).run P w = .ok .skip w' ∧ S w' ∧ C' w')
    (h' : FlowAll P ops R l (i :: vis) (fun w => S w ∧ True) C' (a.put o.dst undef)) : FlowAll P ops R (i :: l) vis S C a :=
  ⟨o, by rw [← Array.getElem?_toList]; exact ho, hv, .inr ⟨hw, hb, S, .inr fun _ h => h, fun u _ => u = undef, fun _ => C', fun w hs hc => by
    obtain ⟨w', h1, h2, h3⟩ := h w hs hc
    exact .inr (.inl ⟨w', h1, h2, rfl, h3⟩), fun u ⟨_, _, hu, _⟩ => by
      subst hu
      have e : (fun w => S w ∧ undef = undef) = (fun w => S w ∧ True) := by funext w; simp
      rw [e]
      exact h'⟩⟩
/-- The same, where four values tell the state at the end. -/
theorem wp_region_mid4 {id : Nat} {a : Act} {w : World} {α β γ δ : Type} {M : α → β → γ → δ → World → Prop} {tm : α → β → γ → δ → Act} (hm : P.follows .mixedOrders = true)
    (h : RegOK Fence.wide 9 P ops (fun x a w => x = .normal ∧ (∃ p q r s, a = tm p q r s ∧ M p q r s w) ∨ x ≠ .normal ∧ Q x a w) a w.drew) (hk : ∀ p q r s w, M p q r s w → Q .normal (tm p q r s) w) : (Code.region id ops true).wp P Q a w :=
  (wpIn_wide (n := 9)).1 (region_mid (fun a w => ∃ p q r s, a = tm p q r s ∧ M p q r s w) hm h fun a w hx => by
    obtain ⟨p, q, r, s, rfl, hx⟩ := hx
    exact hk p q r s w hx)
/-- The same, where five values tell the state at the end. -/
theorem wp_region_mid5 {id : Nat} {a : Act} {w : World} {α β γ δ ε : Type} {M : α → β → γ → δ → ε → World → Prop} {tm : α → β → γ → δ → ε → Act} (hm : P.follows .mixedOrders = true)
    (h : RegOK Fence.wide 9 P ops (fun x a w => x = .normal ∧ (∃ p q r s t, a = tm p q r s t ∧ M p q r s t w) ∨ x ≠ .normal ∧ Q x a w) a w.drew) (hk : ∀ p q r s t w, M p q r s t w → Q .normal (tm p q r s t) w) : (Code.region id ops true).wp P Q a w :=
  (wpIn_wide (n := 9)).1 (region_mid (fun a w => ∃ p q r s t, a = tm p q r s t ∧ M p q r s t w) hm h fun a w hx => by
    obtain ⟨p, q, r, s, t, rfl, hx⟩ := hx
    exact hk p q r s t w hx)
/-- The same, where six values tell the state at the end. -/
theorem wp_region_mid6 {id : Nat} {a : Act} {w : World} {α β γ δ ε ζ : Type} {M : α → β → γ → δ → ε → ζ → World → Prop} {tm : α → β → γ → δ → ε → ζ → Act} (hm : P.follows .mixedOrders = true)
    (h : RegOK Fence.wide 9 P ops (fun x a w => x = .normal ∧ (∃ p q r s t u, a = tm p q r s t u ∧ M p q r s t u w) ∨ x ≠ .normal ∧ Q x a w) a w.drew) (hk : ∀ p q r s t u w, M p q r s t u w → Q .normal (tm p q r s t u) w) : (Code.region id ops true).wp P Q a w :=
  (wpIn_wide (n := 9)).1 (region_mid (fun a w => ∃ p q r s t u, a = tm p q r s t u ∧ M p q r s t u w) hm h fun a w hx => by
    obtain ⟨p, q, r, s, t, u, rfl, hx⟩ := hx
    exact hk p q r s t u w hx)
end
end Go.Proofs.Ytpccbobomppdbaa
