/- Joined: More steps of a walk through a drawn region: state that is handed on; append. A drawn region in which two operations that turn the world stand in no order: two walks, one for each order. A drawn region, its end laid down once for all the orders in which it is walked. items.May and the reference's. -/
import Derived.Test.YtpccbobomppdbaaZR6
import Derived.Test.YtpccbobomppdbaaZR2
import Derived.Test.YtpccbobomppdbaaZR3
import Derived.RangeFuncFrom
namespace Go.Proofs.Ytpccbobomppdbaa
open Go.RowKit

section
variable {P : Program} {ops : Array Oper} {R : Act → (World → Prop) → Prop} {o : Oper} {i : Nat} {l vis : List Nat} {S C : World → Prop} {a : Act}
/-- A call that hands back something, keeps S, and of which H holds until the next one. -/
theorem flow_gcall (H : Value → World → Prop) (ho : ops.toList[i]? = some o) (hv : boundIn vis o = true) (hw : Region.wanted o (yielded ops a.tmps) = true) (hb : behindB ops i l = true)
    (h : ∀ w, S w → C w → ∃ f args w', (execOp a.eval o).run P w = .ok (.enter f args) w' ∧ Calls P f args w' fun e w'' => ∃ v, e = .returned v ∧ S w'' ∧ H v w'')
    (h' : ∀ v, (∃ w, S w ∧ H v w) → FlowAll P ops R l (i :: vis) (fun w => S w ∧ True) (H v) (a.put o.dst v)) : FlowAll P ops R (i :: l) vis S C a :=
  ⟨o, by rw [← Array.getElem?_toList]; exact ho, hv, .inr ⟨hw, hb, S, .inr fun _ h => h, fun _ _ => True, H, fun w hs hc => by
    obtain ⟨f, args, w', h1, h2⟩ := h w hs hc
    exact .inr (.inr ⟨f, args, w', h1, h2.mono fun e w'' ⟨v, he, hs', hk⟩ => ⟨v, he, hs', trivial, hk⟩⟩), fun v ⟨w, h1, _, h2⟩ => h' v ⟨w, h1, h2⟩⟩⟩
/-- An operation of the language's own that makes or writes memory: of what it hands back H holds until the next one. -/
theorem flow_gmake (H : Value → World → Prop) (ho : ops.toList[i]? = some o) (hv : boundIn vis o = true) (hw : Region.wanted o (yielded ops a.tmps) = true) (hb : behindB ops i l = true)
    (h : ∀ w, S w → C w → ∃ v w', (execOp a.eval o).run P w = .ok (.value v) w' ∧ S w' ∧ H v w')
    (h' : ∀ v, (∃ w, S w ∧ H v w) → FlowAll P ops R l (i :: vis) (fun w => S w ∧ True) (H v) (a.put o.dst v)) : FlowAll P ops R (i :: l) vis S C a :=
  ⟨o, by rw [← Array.getElem?_toList]; exact ho, hv, .inr ⟨hw, hb, S, .inr fun _ h => h, fun _ _ => True, H, fun w hs hc => by
    obtain ⟨v, w', h1, h2, h3⟩ := h w hs hc
    exact .inl ⟨v, w', h1, h2, trivial, h3⟩, fun v ⟨w, h1, _, h2⟩ => h' v ⟨w, h1, h2⟩⟩⟩
end
/-- An operation that appends what may be read to a row that is the caller's own. -/
theorem exec_append_rd {P : Program} {o : Oper} {ρ : Operand → Value} {w : World} {S : World → Prop} {H : Value → World → Prop} (s x : Operand) (t : TypeId)
    (ho : o.op = .call { callee := .builtin .append, args := #[s, x], argTypes := #[t, t] })
    (base : Nat) (e : TypeId) (i : TypeInfo) (z : Value) (size bytes : Nat) (ht : P.underlying t = some (.slice e)) (hi : P.info? e = some i) (hz : i.zero = some z)
    (hsize : i.size = size) (hby : i.bytes = bytes) (hzs : z.cells.size = size) (hsz : 0 < size)
    (v : Value) (n : Nat) (xs : List Value) (hs : ρ s = v) (hown : w.ownsRow base e size v n xs)
    (A : Option Addr) (m c : Nat) (news : List Value) (hx : ρ x = .slice A m c) (hr : Rd w size A m news) (h1 : ∀ u ∈ news, u.oneCell' = true)
    (h63 : n + m ≤ maxLen) (hbytes : (n + m) * bytes ≤ 140737488355328) (hbase : base ≤ w.heap.size)
    (h : ∀ v' w', w'.ownsRow base e size v' (n + m) (xs ++ news) → w.grownBy w' v.ownBlock → S w' ∧ H v' w') :
    ∃ v' w', (execOp ρ o).run P w = .ok (.value v') w' ∧ S w' ∧ H v' w' := by
  obtain ⟨v', w', hrun, h2, h3, _⟩ := run_append_rd (P := P) w base t o.type e i z size bytes ht hi hz hsize hby hzs hsz v n xs hown A m c news hr h1 h63 hbytes hbase
  refine ⟨v', w', ?_, h v' w' h2 h3⟩
  unfold execOp
  simp only [ho, resolve, invoke, builtin, Sem.run_bind, Sem.run_pure, Result.andThen_ok, List.map_toArray, List.map_cons, List.map_nil, hs, hx, hrun]

end Go.Proofs.Ytpccbobomppdbaa

namespace Go.Proofs.Ytpccbobomppdbaa

section
variable {F : Fence} {n : Nat} {P : Program} {ops : Array Oper} {Q : Exit → Act → World → Prop}

/-- A list in which a region may be done, from what is listed on. -/
def ValidL (ops : Array Oper) : Array Bool → List Nat → Prop
  | listed, [] => Region.ready .any ops listed = []
  | listed, i :: r => i ∈ Region.ready .any ops listed ∧ ValidL ops (listed.setIfInBounds i true) r

theorem ready_lt {listed : Array Bool} {i : Nat} (h : i ∈ Region.ready .any ops listed) : i < listed.size ∧ listed.getD i false = false := by
  obtain ⟨h1, _⟩ := mem_ready.1 h
  by_cases hi : i < listed.size
  · refine ⟨hi, ?_⟩
    simp [hi] at h1 ⊢
    exact h1
  · simp [hi] at h1
theorem count_set {listed : Array Bool} {i : Nat} (h : i ∈ Region.ready .any ops listed) : (listed.setIfInBounds i true).toList.count false + 1 = listed.toList.count false := by
  obtain ⟨hlt, h5⟩ := ready_lt h
  have h5' : listed[i] = false := by simpa [hlt] using h5
  rw [Array.toList_setIfInBounds, List.count_set (by simpa using hlt)]
  have : 0 < listed.toList.count false := List.count_pos_iff.2 (by rw [← h5']; simp)
  have e1 : (listed.toList[i]'(by simpa using hlt)) = false := by simpa using h5'
  rw [e1]
  simp only [beq_self_eq_true, if_true]
  rw [if_neg (by simp)]
  omega
theorem lin_valid : ∀ (fuel t : Nat) (listed : Array Bool), listed.toList.count false ≤ fuel → ValidL ops listed (Region.linearise.go .any ops fuel t listed []) := by
  intro fuel
  induction fuel with
  | zero =>
    intro t listed hc
    simp only [Region.linearise.go, List.reverse_nil]
    show Region.ready .any ops listed = []
    cases hr : Region.ready .any ops listed with
    | nil => rfl
    | cons x xs =>
      have := count_set (ops := ops) (listed := listed) (i := x) (by rw [hr]; simp)
      omega
  | succ fuel ih =>
    intro t listed hc
    simp only [Region.linearise.go]
    change ValidL ops listed (match (Region.ready .any ops listed)[t % (Region.ready .any ops listed).length]? with
      | some i => Region.linearise.go .any ops fuel (t / (Region.ready .any ops listed).length) (listed.setIfInBounds i true) [i]
      | none => [].reverse)
    cases hi : (Region.ready .any ops listed)[t % (Region.ready .any ops listed).length]? with
    | none =>
      show Region.ready .any ops listed = []
      cases hr : Region.ready .any ops listed with
      | nil => rfl
      | cons x xs =>
        rw [hr] at hi
        have hlt : t % (x :: xs).length < (x :: xs).length := Nat.mod_lt _ (by simp)
        simp at hi
        simp at hlt
        omega
    | some i =>
      simp only []
      rw [linearise_go_acc, List.reverse_singleton, List.singleton_append]
      have hm := List.mem_of_getElem? hi
      exact ⟨hm, ih _ _ (by have := count_set hm; omega)⟩
theorem valid_len : ∀ (l : List Nat) (listed : Array Bool), ValidL ops listed l → l.length ≤ listed.toList.count false
  | [], _, _ => Nat.zero_le _
  | i :: r, listed, h => by
    have := valid_len r _ h.2
    have := count_set h.1
    rw [List.length_cons]
    omega
theorem any_ops : ∀ (l : List Nat) (fuel : Nat) (listed : Array Bool) (a : Act) (w : World), wpAnyIn F n P .any ops Q fuel listed a w → ValidL ops listed l → l.length ≤ fuel → wpOpsIn F n P ops Q l a w
  | [], 0, _, _, _, h, _, _ => h.2
  | [], _ + 1, _, _, _, h, hv, _ => h.1 hv
  | i :: r, 0, _, _, _, _, _, hl => by simp at hl
  | i :: r, fuel + 1, listed, a, w, h, hv, hl => by
    rw [wpOpsIn_cons]
    exact wpOpIn_mono (fun a w h' => any_ops r fuel _ a w h' hv.2 (by simpa using hl)) (h.2 i hv.1)

/-- However the operations are drawn. -/
def RegOK (F : Fence) (n : Nat) (P : Program) (ops : Array Oper) (Q : Exit → Act → World → Prop) (a : Act) (w : World) : Prop :=
  ∀ l, ValidL ops (Array.replicate ops.size false) l → wpOpsIn F n P ops Q l a w
theorem region_of_ok {id : Nat} {a : Act} {w : World} (hm : P.follows .mixedOrders = true) (h : RegOK F n P ops Q a w.drew) : (Code.region id ops true).wpIn F n P Q a w :=
  wpIn_region_draw fun t => by
    simp only [Region.schedule, hm, Bool.true_or, if_true]
    exact h _ (lin_valid _ _ _ (by simp))
theorem ok_flow {a : Act} {w : World} (S C : World → Prop) (ord : List Nat)
    (hF : ∀ f, F.fn f) (hd : F.depth = none) (hc : ∀ n f args w R, Calls P f args w R → CallsIn F n P f args w R) (ht : tidy2 ops = true) (hord : allOf ops ord = true)
    (hS : S w) (hC : C w) (h : FlowAll P ops (fun a S => ∀ w, S w → Q .normal a w) ord [] S C a) : RegOK F n P ops Q a w := fun l hl =>
  any_ops l _ _ _ _ (wpAny_flow S C ord hF hd hc ht hord hS hC h) hl (by have := valid_len l _ hl; simpa using this)

/-- d is bound behind s, too. -/
def addL : Nat → Nat → List Oper → List Oper
  | _, _, [] => []
  | 0, s, o :: r => { o with after := o.after.push { on := s, ground := .data } } :: r
  | d + 1, s, o :: r => o :: addL d s r
def addAfter (ops : Array Oper) (d s : Nat) : Array Oper := (addL d s ops.toList).toArray
theorem addL_get : ∀ (d s : Nat) (l : List Oper) (i : Nat), (addL d s l)[i]? = (l[i]?).map fun o => if i = d then { o with after := o.after.push { on := s, ground := .data } } else o
  | d, _, [], i => by cases d <;> simp [addL]
  | 0, s, o :: r, 0 => by simp [addL]
  | 0, s, o :: r, i + 1 => by simp [addL]
  | d + 1, s, o :: r, 0 => by simp [addL]
  | d + 1, s, o :: r, i + 1 => by simp [addL, addL_get d s r i]
theorem addL_len : ∀ (d s : Nat) (l : List Oper), (addL d s l).length = l.length
  | d, _, [] => by cases d <;> rfl
  | 0, _, _ :: _ => rfl
  | d + 1, s, _ :: r => by simp [addL, addL_len d s r]
theorem addAfter_get (d s i : Nat) : (addAfter ops d s)[i]? = (ops[i]?).map fun o => if i = d then { o with after := o.after.push { on := s, ground := .data } } else o := by
  unfold addAfter
  rw [List.getElem?_toArray, addL_get, Array.getElem?_toList]
theorem addAfter_size (d s : Nat) : (addAfter ops d s).size = ops.size := by simp [addAfter, addL_len]
theorem addAfter_yielded (d s : Nat) (tmps : Array Value) : yielded (addAfter ops d s) tmps = yielded ops tmps := by
  funext g
  unfold yielded
  rw [addAfter_get]
  cases ops[g]? with
  | none => rfl
  | some o =>
    simp only [Option.map_some, Option.bind_some]
    by_cases hg : g = d
    · rw [if_pos hg]
    · rw [if_neg hg]
theorem addAfter_ops (d s : Nat) : ∀ (l : List Nat) (a : Act) (w : World), wpOpsIn F n P (addAfter ops d s) Q l a w → wpOpsIn F n P ops Q l a w
  | [], _, _, h => h
  | i :: r, a, w, h => by
    rw [wpOpsIn_cons] at h ⊢
    have ih := fun a w => addAfter_ops d s r a w
    unfold wpOpIn at h ⊢
    rw [addAfter_get] at h
    cases ho : ops[i]? with
    | none => rw [ho] at h; exact ih _ _ h
    | some o =>
      rw [ho] at h
      simp only [Option.map_some, addAfter_yielded] at h ⊢
      have e1 : Region.wanted (if i = d then { o with after := o.after.push { on := s, ground := .data } } else o) (yielded ops a.tmps) = Region.wanted o (yielded ops a.tmps) := by split <;> rfl
      rw [e1] at h
      by_cases hw : Region.wanted o (yielded ops a.tmps) = true
      · rw [if_pos hw] at h ⊢
        have h2 : o.wpIn F n P a w (wpOpsIn F n P (addAfter ops d s) Q r) Q := by
          by_cases hid : i = d
          · rw [if_pos hid] at h; exact h
          · rw [if_neg hid] at h; exact h
        exact Oper.wpIn_mono ih h2
      · rw [if_neg hw] at h ⊢
        by_cases hid : i = d
        · rw [if_pos hid] at h; exact ⟨h.1, ih _ _ h.2⟩
        · rw [if_neg hid] at h; exact ⟨h.1, ih _ _ h.2⟩

/-- s comes ahead of d. -/
def Before (s d : Nat) : List Nat → Prop
  | [] => True
  | i :: r => i = s ∨ (i ≠ d ∧ Before s d r)
theorem before_or (s d : Nat) : ∀ l, Before s d l ∨ Before d s l
  | [] => .inl trivial
  | i :: r => by
    by_cases h1 : i = s
    · exact .inl (.inl h1)
    · by_cases h2 : i = d
      · exact .inr (.inl h2)
      · rcases before_or s d r with h | h
        · exact .inl (.inr ⟨h2, h⟩)
        · exact .inr (.inr ⟨h1, h⟩)
theorem set_true {listed : Array Bool} {i j : Nat} (h : listed.getD j false = true) : (listed.setIfInBounds i true).getD j false = true := by
  by_cases e : i = j
  · subst e
    by_cases hi : i < listed.size
    · simp [hi]
    · simp [hi] at h
  · rw [Array.getD_eq_getD_getElem?, Array.getElem?_setIfInBounds_ne e]
    simpa using h
theorem set_self {listed : Array Bool} {i : Nat} (h : i < listed.size) : (listed.setIfInBounds i true).getD i false = true := by simp [h]
theorem addAfter_valid (d s : Nat) (hds : d ≠ s) : ∀ (l : List Nat) (listed : Array Bool), ValidL ops listed l → (listed.getD d false = true ∨ listed.getD s false = true ∨ Before s d l) → ValidL (addAfter ops d s) listed l
  | [], listed, h, _ => by
    show Region.ready .any (addAfter ops d s) listed = []
    cases hr : Region.ready .any (addAfter ops d s) listed with
    | nil => rfl
    | cons x xs =>
      exfalso
      have hx : x ∈ Region.ready .any (addAfter ops d s) listed := by rw [hr]; simp
      obtain ⟨h1, o, h2, h3⟩ := mem_ready.1 hx
      rw [addAfter_get] at h2
      cases ho : ops[x]? with
      | none => rw [ho] at h2; cases h2
      | some o' =>
        rw [ho, Option.map_some, Option.some.injEq] at h2
        have : x ∈ Region.ready .any ops listed := mem_ready.2 ⟨h1, o', ho, fun e he hb => by
          subst h2
          refine h3 e ?_ hb
          split
          · simp [he]
          · exact he⟩
        rw [h] at this
        cases this
  | i :: r, listed, h, hb => by
    obtain ⟨h1, h2⟩ := h
    obtain ⟨hlt, hnl⟩ := ready_lt h1
    obtain ⟨g1, o, g2, g3⟩ := mem_ready.1 h1
    have hbi : i = d → listed.getD s false = true := fun e => by
      subst e
      rcases hb with hb | hb | hb
      · rw [hnl] at hb; cases hb
      · exact hb
      · rcases hb with hb | hb
        · exact absurd hb hds
        · exact absurd rfl hb.1
    refine ⟨mem_ready.2 ⟨g1, _, by rw [addAfter_get, g2, Option.map_some], fun e he hbe => ?_⟩, addAfter_valid d s hds r _ h2 ?_⟩
    · split at he
      · rename_i hid
        rcases Array.mem_push.1 he with he | he
        · exact g3 e he hbe
        · subst he; exact hbi hid
      · exact g3 e he hbe
    · rcases hb with hb | hb | hb
      · exact .inl (set_true hb)
      · exact .inr (.inl (set_true hb))
      · rcases hb with hb | hb
        · subst hb; exact .inr (.inl (set_self hlt))
        · exact .inr (.inr hb.2)
/-- Two walks, one for each order of d and s. -/
theorem ok_split (d s : Nat) (hds : d ≠ s) {a : Act} {w : World} (h1 : RegOK F n P (addAfter ops d s) Q a w) (h2 : RegOK F n P (addAfter ops s d) Q a w) : RegOK F n P ops Q a w := fun l hl => by
  rcases before_or s d l with h | h
  · exact addAfter_ops d s l a w (h1 l (by rw [addAfter_size]; exact addAfter_valid d s hds l _ hl (.inr (.inr h))))
  · exact addAfter_ops s d l a w (h2 l (by rw [addAfter_size]; exact addAfter_valid s d (Ne.symm hds) l _ hl (.inr (.inr h))))
end
end Go.Proofs.Ytpccbobomppdbaa

namespace Go.Proofs.Ytpccbobomppdbaa

section
variable {F : Fence} {n : Nat} {P : Program} {ops : Array Oper} {Q Q' : Exit → Act → World → Prop}

theorem wpIn_monoQ {o : Oper} {a : Act} {w : World} {K : Act → World → Prop} (h : ∀ x a w, Q x a w → Q' x a w) (hh : o.wpIn F n P a w K Q) : o.wpIn F n P a w K Q' := by
  have hl : LetsOut Q → LetsOut Q' := fun hl => by
    obtain ⟨a, w, hl⟩ := hl
    exact ⟨a, w, h _ _ _ hl⟩
  unfold Oper.wpIn at *
  refine ⟨hh.1, ?_⟩
  have hh := hh.2
  generalize (o.semAt F.round a.eval).run P w = r at *
  cases r with
  | ok x w' =>
    cases x <;> simp only [Oper.uponIn] at hh ⊢ <;>
      first
        | exact hh
        | exact ⟨hh.1, CallsIn.mono hh.2 (fun e w'' he => by cases e <;> first | exact he | exact hl he | exact h _ _ _ he)⟩
        | exact ⟨hh.1, RoundIn.mono hh.2 (fun e w'' he => by cases e <;> first | exact he | exact hl he | exact h _ _ _ he)⟩
  | halt x w' => cases x <;> simp only [Oper.uponIn] at hh ⊢ <;> first | exact h _ _ _ hh | exact hh
theorem wpOpsIn_monoQ (h : ∀ x a w, Q x a w → Q' x a w) : ∀ (l : List Nat) (a : Act) (w : World), wpOpsIn F n P ops Q l a w → wpOpsIn F n P ops Q' l a w
  | [], a, w, hh => h _ a w hh
  | i :: r, a, w, hh => by
    rw [wpOpsIn_cons] at hh ⊢
    have hh := wpOpIn_mono (fun a w => wpOpsIn_monoQ h r a w) hh
    unfold wpOpIn at *
    split
    · simpa [*] using hh
    · rename_i o ho
      simp only [ho] at hh
      split
      · rename_i hw; simp only [hw, if_true] at hh; exact wpIn_monoQ h hh
      · rename_i hw; simp only [hw] at hh; exact hh
/-- Only what M says is known where the region ends. -/
theorem region_mid {id : Nat} {a : Act} {w : World} (M : Act → World → Prop) (hm : P.follows .mixedOrders = true) (h : RegOK F n P ops (fun x a w => x = .normal ∧ M a w ∨ x ≠ .normal ∧ Q x a w) a w.drew) (hk : ∀ a w, M a w → Q .normal a w) : (Code.region id ops true).wpIn F n P Q a w :=
  region_of_ok hm fun l hl => wpOpsIn_monoQ (fun x a w hx => by
    rcases hx with ⟨rfl, hx⟩ | ⟨_, hx⟩
    · exact hk a w hx
    · exact hx) l a _ (h l hl)
theorem flow_end {vis : List Nat} {S C : World → Prop} {a : Act} {R : Act → World → Prop} (h : ∀ w, S w → C w → R a w) : FlowAll P ops (fun a S => ∀ w, S w → R a w) [] vis S C a := fun w hw => h w hw.1 hw.2
/-- A store (or what else hands back nothing) that keeps S, and of which C' holds until the next one. -/
theorem flow_store {R : Act → (World → Prop) → Prop} {o : Oper} {i : Nat} {l vis : List Nat} {S C : World → Prop} {a : Act} (C' : World → Prop) (ho : ops.toList[i]? = some o) (hv : boundIn vis o = true) (hw : Region.wanted o (yielded ops a.tmps) = true) (hb : behindB ops i l = true)
    (h : ∀ w, S w → C w → ∃ w', (execOp a.eval o).run P w = .ok .skip w' ∧ S w' ∧ C' w')
    (h' : FlowAll P ops R l (i :: vis) (fun w => S w ∧ True) C' (a.put o.dst undef)) : FlowAll P ops R (i :: l) vis S C a :=
  ⟨o, by rw [← Array.getElem?_toList]; exact ho, hv, .inr ⟨hw, hb, S, .inr fun _ h => h, fun u _ => u = undef, fun _ => C', fun w hs hc => by
    obtain ⟨w', h1, h2, h3⟩ := h w hs hc
    exact .inr (.inl ⟨w', h1, h2, rfl, h3⟩), fun u ⟨_, _, hu, _⟩ => by
      subst hu
      have e : (fun w => S w ∧ undef = undef) = (fun w => S w ∧ True) := by funext w; simp
      rw [e]
      exact h'⟩⟩
/-- The same, where four values tell the state at the end. -/
theorem wp_region_mid4 {id : Nat} {a : Act} {w : World} {α β γ δ : Type} {M : α → β → γ → δ → World → Prop} {tm : α → β → γ → δ → Act} (hm : P.follows .mixedOrders = true)
    (h : RegOK Fence.wide 9 P ops (fun x a w => x = .normal ∧ (∃ p q r s, a = tm p q r s ∧ M p q r s w) ∨ x ≠ .normal ∧ Q x a w) a w.drew) (hk : ∀ p q r s w, M p q r s w → Q .normal (tm p q r s) w) : (Code.region id ops true).wp P Q a w :=
  (wpIn_wide (n := 9)).1 (region_mid (fun a w => ∃ p q r s, a = tm p q r s ∧ M p q r s w) hm h fun a w hx => by
    obtain ⟨p, q, r, s, rfl, hx⟩ := hx
    exact hk p q r s w hx)
/-- The same, where five values tell the state at the end. -/
theorem wp_region_mid5 {id : Nat} {a : Act} {w : World} {α β γ δ ε : Type} {M : α → β → γ → δ → ε → World → Prop} {tm : α → β → γ → δ → ε → Act} (hm : P.follows .mixedOrders = true)
    (h : RegOK Fence.wide 9 P ops (fun x a w => x = .normal ∧ (∃ p q r s t, a = tm p q r s t ∧ M p q r s t w) ∨ x ≠ .normal ∧ Q x a w) a w.drew) (hk : ∀ p q r s t w, M p q r s t w → Q .normal (tm p q r s t) w) : (Code.region id ops true).wp P Q a w :=
  (wpIn_wide (n := 9)).1 (region_mid (fun a w => ∃ p q r s t, a = tm p q r s t ∧ M p q r s t w) hm h fun a w hx => by
    obtain ⟨p, q, r, s, t, rfl, hx⟩ := hx
    exact hk p q r s t w hx)
/-- The same, where six values tell the state at the end. -/
theorem wp_region_mid6 {id : Nat} {a : Act} {w : World} {α β γ δ ε ζ : Type} {M : α → β → γ → δ → ε → ζ → World → Prop} {tm : α → β → γ → δ → ε → ζ → Act} (hm : P.follows .mixedOrders = true)
    (h : RegOK Fence.wide 9 P ops (fun x a w => x = .normal ∧ (∃ p q r s t u, a = tm p q r s t u ∧ M p q r s t u w) ∨ x ≠ .normal ∧ Q x a w) a w.drew) (hk : ∀ p q r s t u w, M p q r s t u w → Q .normal (tm p q r s t u) w) : (Code.region id ops true).wp P Q a w :=
  (wpIn_wide (n := 9)).1 (region_mid (fun a w => ∃ p q r s t u, a = tm p q r s t u ∧ M p q r s t u w) hm h fun a w hx => by
    obtain ⟨p, q, r, s, t, u, rfl, hx⟩ := hx
    exact hk p q r s t u w hx)
end
end Go.Proofs.Ytpccbobomppdbaa

namespace Go.Proofs.Ytpccbobomppdbaa
open Go.RowKit Go.Shelf
attribute [local go_sem] Oper.semAt_some

theorem keepsOthers_b {W W' : World} (h : Below W.heap.size W W') : KeepsOthers W W' := ⟨h.size, fun k _ hk _ => (h.block k (lt_of_block hk)).trans hk⟩
/-- The last good so far. -/
def lastG (pre : List BIt) : ByteArray := match pre.getLast? with | none => ByteArray.empty | some x => x.1.good
theorem lastG_snoc (pre : List BIt) (x : BIt) : lastG (pre ++ [x]) = x.1.good := by simp [lastG]
theorem lt_empty {s : ByteArray} (h : goodS s = true) : ltS ByteArray.empty s = true := by
  unfold goodS at h
  simp only [Bool.and_eq_true, decide_eq_true_eq] at h
  unfold ltS
  rw [Lib.toList_data, Lib.toList_data]
  have h1 := h.1.2
  cases e : s.data.toList with
  | nil => exact absurd (by have := congrArg List.length e; simpa using this) (by omega : ¬ s.size = 0)
  | cons a l => rfl
theorem okAt_snoc (pre : List BIt) (x : BIt) : okAt ((pre ++ [x]).map (·.1)) pre.length = (okItem x.1 && ltS (lastG pre) x.1.good) := by
  rcases List.eq_nil_or_concat pre with rfl | ⟨q, y, rfl⟩
  · have e : okAt ([x.1]) 0 = okItem x.1 := by simp [okAt]
    refine (show okAt (([] ++ [x] : List BIt).map (fun y => y.1)) ([] : List BIt).length = _ from e).trans ?_
    by_cases h : okItem x.1 = true
    · have := (okItem_iff.1 h).1
      rw [show lastG [] = ByteArray.empty from rfl, lt_empty this, h]
      rfl
    · rw [show okItem x.1 = false by simpa using h]; rfl
  · rw [List.concat_eq_append]
    have hl : (((q ++ [y]) ++ [x]).map (·.1)).length = q.length + 1 + 1 := by simp
    rw [show (q ++ [y]).length = q.length + 1 by simp, okAt_succ (by rw [hl]; omega), lastG_snoc]
    congr 1
    · simp
    · congr 1 <;> simp
theorem okAt_prefix {pre : List It} {l : List It} (h : pre <+: l) {k : Nat} (hk : k < pre.length) : okAt l k = okAt pre k := by
  obtain ⟨r, rfl⟩ := h
  have e : ∀ j, j < pre.length → (pre ++ r)[j]? = pre[j]? := fun j hj => List.getElem?_append_left hj
  unfold okAt
  rw [e k hk]
  cases k with
  | zero => rfl
  | succ k => simp only [e k (by omega)]
theorem block_own {W W' : World} {row : Option Nat} {k : Nat} {cs : Array Value} {T : TypeId} {fz : Nat × Nat} (h : W.heap[k]? = some (.cells cs T fz)) (hg : W.grownBy W' row) (hr : ∀ r, row = some r → ∃ o : Obj, W.heap[r]? = some o ∧ o.isCells = false) : W'.heap[k]? = some (.cells cs T fz) := by
  rw [hg.block k (lt_of_block h) ?_]
  · exact h
  · intro e
    obtain ⟨o, k1, k2⟩ := hr _ e.symm
    rw [h] at k1
    injection k1 with k1
    subst k1
    simp [Obj.isCells] at k2
/-- Between two rounds. -/
def MayJ (w : World) (pre : List BIt) (W : World) : Prop :=
  ((∀ k, k < pre.length → okAt (pre.map (·.1)) k = true) ∧ W.heap[w.heap.size]? = some (.cells #[.bool false] 4 (0, 0)) ∧ W.heap[w.heap.size + 1]? = some (.cells #[.string (lastG pre)] 9 (0, 0))) ∧ Below w.heap.size w W
def MayX (w : World) (c : Code) (pre : List BIt) (W : World) : Prop :=
  (c = .ret ∧ (∃ k, k < pre.length ∧ okAt (pre.map (·.1)) k = false) ∧ W.heap[w.heap.size]? = some (.cells #[.bool false] 4 (0, 0))) ∧ Below w.heap.size w W
theorem mayJ_own {w : World} {B : Nat} (hB : w.heap.size ≤ B) : OwnFrom B (MayJ w) := by
  rintro pre W W' row ⟨⟨h1, h2, h3⟩, hb⟩ hg hr
  have hr' : ∀ r, row = some r → ∃ o : Obj, W.heap[r]? = some o ∧ o.isCells = false := fun r e => (hr r e).2
  exact ⟨⟨h1, block_own h2 hg hr', block_own h3 hg hr'⟩, hb.grown hg hb.size (fun k e => Nat.le_trans hB (hr k e).1)⟩
theorem mayX_own {w : World} {B : Nat} (hB : w.heap.size ≤ B) (c : Code) : OwnFrom B (MayX w c) := by
  rintro pre W W' row ⟨⟨h1, h2, h3⟩, hb⟩ hg hr
  have hr' : ∀ r, row = some r → ∃ o : Obj, W.heap[r]? = some o ∧ o.isCells = false := fun r e => (hr r e).2
  exact ⟨⟨h1, h2, block_own h3 hg hr'⟩, hb.grown hg hb.size (fun k e => Nat.le_trans hB (hr k e).1)⟩
theorem mayJ_next {w W W' : World} {pre : List BIt} {x : BIt} (h : MayJ w pre W) (hok : okItem x.1 = true) (hlt : ltS (lastG pre) x.1.good = true) (hb : Below W.heap.size W W') :
    MayJ w (pre ++ [x]) (W'.setCell ⟨w.heap.size + 1, 0, none⟩ (.string x.1.good)) := by
  obtain ⟨⟨h1, h2, h3⟩, hB⟩ := h
  refine ⟨⟨fun k hk => ?_, block_far ((hb.block _ (lt_of_block h2)).trans h2) (by simp) _, ?_⟩, (hB.trans (hb.mono hB.size)).setCell (p := ⟨w.heap.size + 1, 0, none⟩) (by simp) _⟩
  · rcases Nat.lt_or_ge k pre.length with hlt' | hge
    · rw [okAt_prefix (pre := pre.map (·.1)) (by simp) (by simpa using hlt')]
      exact h1 k hlt'
    · have : k = pre.length := by simp at hk; omega
      subst this
      rw [okAt_snoc, hok, hlt]
      rfl
  · rw [lastG_snoc]
    simpa using block_set ((hb.block _ (lt_of_block h3)).trans h3) 0 (.string x.1.good)
theorem mayX_of {w W W' : World} {pre : List BIt} {x : BIt} (h : MayJ w pre W) (hbad : (okItem x.1 && ltS (lastG pre) x.1.good) = false) (hb : Below W.heap.size W W') : MayX w .ret (pre ++ [x]) (W'.setCell ⟨w.heap.size, 0, none⟩ (.bool false)) := by
  obtain ⟨⟨h1, h2, h3⟩, hB⟩ := h
  exact ⟨⟨rfl, ⟨pre.length, by simp, by rw [okAt_snoc]; exact hbad⟩, by simpa using block_set ((hb.block _ (lt_of_block h2)).trans h2) 0 (.bool false)⟩, (hB.trans (hb.mono hB.size)).setCell (p := ⟨w.heap.size, 0, none⟩) (by simp) _⟩

set_option maxRecDepth 100000 in
set_option maxHeartbeats 2000000 in
theorem imay_any (A : Option Addr) (c : Nat) (rs : List It) (w : World) (hr : Rd w 2 A rs.length (rs.flatMap encI)) (hb : ∀ z ∈ rs, BdIt z) (hm : rs.length ≤ 4611686018427387903) :
    Calls Try.prog 31 #[.slice A rs.length c] w fun e w' => e = .returned (.bool (mayI rs)) ∧ Below w.heap.size w w' := by
  obtain ⟨qs, hq⟩ := bits_of hb
  refine (callsIn_wide (n := 9)).1 ?_
  refine callsIn_of_wp_marks Try.func31 rfl trivial ?_ rfl
  simp only [Try.ntmps31, List.size_toArray, List.length_cons, List.length_nil, Nat.reduceAdd, Nat.reduceSub, Array.replicate_succ, Array.replicate_zero, List.push_toArray, List.append_toArray, List.nil_append, List.cons_append]
  refine wpIn_wide.2 ?_
  have HQ := Lib.hid hq
  clear hq
  go_wp2_with fail
  refine (all_any _ _ _ _).mono ?_
  rintro e w1 ⟨rfl, hw1⟩
  have b0 := block_alloc (block_alloc (block_new w (.cells #[.bool false] 4)) (.cells #[.string ByteArray.empty] 9)) (.cells #[.slice A rs.length c] 22)
  have b1 := block_alloc (block_new (w.alloc (.cells #[.bool false] 4)) (.cells #[.string ByteArray.empty] 9)) (.cells #[.slice A rs.length c] 22)
  have b2 := block_new ((w.alloc (.cells #[.bool false] 4)).alloc (.cells #[.string ByteArray.empty] 9)) (.cells #[.slice A rs.length c] 22)
  have hB1 := (((Below.refl _ w).alloc (Nat.le_refl _) (.cells #[.bool false] 4)).alloc (by simp) (.cells #[.string ByteArray.empty] 9)).alloc (by simp; omega) (.cells #[.slice A rs.length c] 22)
  rw [show ((w.alloc (.cells #[.bool false] 4)).alloc (.cells #[.string ByteArray.empty] 9)).alloc (.cells #[.slice A rs.length c] 22) = w1 from hw1] at b0 b1 b2 hB1
  simp only [World.size_alloc] at b1 b2
  have hsz1 : w.heap.size ≤ w1.heap.size := hB1.size
  have HRD := Lib.hid (hr.below hB1)
  have hA : ∀ a, A = some a → 0 < rs.length → a.block < w.heap.size := fun a ha hp => by
    obtain ⟨g, o', e, hg, _⟩ := hr.2 hp
    rw [e] at ha
    cases ha
    exact hg
  clear hw1 hr
  go_wp2_with fail
  refine (wpIn_wide (n := 9)).1 ?_
  refine wpIn_rangeFunc_ownF rfl (by omega) (gf := 54) (lb := #[.pointer (some ⟨w.heap.size + 1 + 1, 0, none⟩)]) rfl trivial (enters_of Try.func54 (by kernel_rfl) rfl)
    (all_iter _ w.heap.size (w.heap.size + 1 + 1) A c rs qs HQ.out w1 (by rw [cell_at b2]; rfl) HRD.out hm (by omega) hA) belowK_t (belowK_b hsz1) (Below.refl _ _) (fun _ => rfl)
    (MayJ w) (MayX w)
    (mayJ_own hsz1) (mayX_own hsz1)
    ⟨⟨by simp, b0, b1⟩, hB1⟩
    (fun x => { tmps := #[.slice A rs.length c, undef, .pointer (some ⟨w.heap.size, 0, none⟩), .pointer (some ⟨w.heap.size + 1, 0, none⟩), .string x.1.good, .int .i64 x.1.n, .slice A rs.length c, .func (.func 54) #[] #[.pointer (some ⟨w.heap.size + 1 + 1, 0, none⟩)], .string x.1.good, .int .i64 x.1.n, undef, undef, undef, undef, undef, undef, undef, undef, undef, undef, undef, undef, undef, undef, undef, undef, undef, undef, undef, undef, undef], defers := [] }) ?assign ?body ?done ?stop
  case assign =>
    intro l x W K hK
    dsimp only [encRowI]
    gi_wp2
    exact hK
  case stop =>
    rintro D c pre W3 hD hpre ⟨⟨rfl, ⟨k, hk, hbad⟩, hc⟩, hB⟩ hK
    have hc5 := cell_kept (by rw [cell_at hc]; rfl : W3.cell? ⟨w.heap.size, 0, none⟩ = some (.bool false)) (grownBy_putObj' _ D (.deferred none)) (fun r e => by cases e; exact ⟨_, hK, rfl⟩)
    have hmay : mayI rs = false := by
      have hpr : pre.map (·.1) <+: rs := by rw [← HQ.out]; exact hpre.map _
      have hk' : k < (pre.map (·.1)).length := by simpa using hk
      exact mayI_bad (Nat.lt_of_lt_of_le hk' hpr.length_le) (by rw [okAt_prefix hpr hk']; exact hbad)
    gi_wp2
    refine ⟨by simp, .inl ⟨_, _, rfl, run_takeDeferred hK, ?_⟩⟩
    refine ⟨.bool false, ?_, by rw [hmay], hB.trans (belowK_b (w := w) (Nat.le_refl _) W3 D _ _ (by omega) hK rfl rfl)⟩
    simp [results, Try.f31, go_sem, hc5]
  case done =>
    rintro D xs W3 hD rfl ⟨⟨hall, hc, _⟩, hB⟩ hK
    have q0 : W3.cell? ⟨w.heap.size, 0, none⟩ = some (.bool false) := by rw [cell_at hc]; rfl
    have q1 := frozen_at hc 0
    have HC := Lib.hid hc
    have hmay : mayI rs = decide ((rs.length : Int) ≤ 16) := by
      rw [mayI_all (fun k hk => by rw [← HQ.out]; exact hall k (by rw [← HQ.out] at hk; simpa using hk))]
      exact decide_eq_decide.2 (by omega)
    have HM := Lib.hid hmay
    clear hmay hall hc
    go_wp2
    have hK' := (KeepsOthers.setCell W3 ⟨w.heap.size, 0, none⟩ (.bool (decide ((rs.length : Int) ≤ 16)))).same D _ hK rfl
    refine ⟨by simp, .inl ⟨_, _, rfl, run_takeDeferred hK', ?_⟩⟩
    have hc5 := cell_kept (World.cell?_setCell_same' W3 ⟨w.heap.size, 0, none⟩ (.bool (decide ((rs.length : Int) ≤ 16))) (by rw [q0]; rfl)) (grownBy_putObj' _ D (.deferred none)) (fun r e => by cases e; exact ⟨_, hK', rfl⟩)
    refine ⟨.bool (mayI rs), ?_, rfl, (hB.setCell (p := ⟨w.heap.size, 0, none⟩) (by simp) _).trans (belowK_b (w := w) (Nat.le_refl _) _ D _ _ (by omega) hK' rfl rfl)⟩
    rw [HM.out]
    simp [results, Try.f31, go_sem, hc5]
  case body =>
    rintro l pre x W hJ hlt
    have HJ := Lib.hid hJ
    obtain ⟨⟨_, h2, h3⟩, hB⟩ := hJ
    obtain ⟨LG, hLG⟩ : ∃ LG, lastG pre = LG := ⟨_, rfl⟩
    rw [hLG] at h3
    have HLG := Lib.hid hLG
    have hx := x.2
    obtain ⟨z, hz⟩ : ∃ z, x.1 = z := ⟨_, rfl⟩
    rw [hz] at hx ⊢
    have HZ := Lib.hid hz
    obtain ⟨gd, n⟩ := z
    obtain ⟨hx1, hx2, hx3⟩ := hx
    simp only at hx1 hx2 hx3 ⊢
    clear hLG hz hB hlt b0 b1 b2 hB1
    have hgo := good_any gd W hx1
    obtain ⟨G, hG⟩ : ∃ G, goodS gd = G := ⟨_, rfl⟩
    rw [hG] at hgo
    have HGD := Lib.hid hG
    have HGO := Lib.hid hgo
    clear hG hgo
    gi_wp2_with fail
    refine ⟨trivial, (CallsIn.inRound l (callsIn_wide.2 HGO.out)).mono ?_⟩
    rintro e W2 ⟨rfl, pos, hW2⟩
    have hbW : Below W.heap.size W W2 := by rw [hW2]; exact (Below.refl _ W).alloc (Nat.le_refl _) _
    have HBW := Lib.hid hbW
    have g2 := (hbW.block _ (lt_of_block h2)).trans h2
    have g3 := (hbW.block _ (lt_of_block h3)).trans h3
    have k2 : W2.cell? ⟨w.heap.size, 0, none⟩ = some (.bool false) := by rw [cell_at g2]; rfl
    have k3 := frozen_at g2 0
    have k4 : W2.cell? ⟨w.heap.size + 1, 0, none⟩ = some (.string LG) := by rw [cell_at g3]; rfl
    have k5 := frozen_at g3 0
    clear hW2 hbW h2 h3 HGO g2 g3
    cases G
    · have hbad : (okItem x.1 && ltS (lastG pre) x.1.good) = false := by rw [HZ.out]; simp [okItem, HGD.out]
      have HBAD := Lib.hid hbad
      clear hbad
      gi_wp2_with fail
      refine ⟨trivial, ?_⟩
      gi_wp2_with fail
      exact ⟨(keepsOthers_b HBW.out).trans (KeepsOthers.setCell _ _ _), mayX_of HJ.out HBAD.out HBW.out⟩
    · by_cases h1 : 1 ≤ n
      · cases hmc : mayC n
        · have hbad : (okItem x.1 && ltS (lastG pre) x.1.good) = false := by
            have h2 : ¬ n ≤ 1099511627776 := fun h => by rw [show mayC n = true by simp [mayC, h]; omega] at hmc; cases hmc
            rw [HZ.out]; simp [okItem, h2]
          have HBAD := Lib.hid hbad
          have HMC := Lib.hid hmc
          clear hbad hmc
          gi_wp2_with fail
          refine ⟨trivial, (CallsIn.inRound l (callsIn_wide.2 (HMC.out ▸ cmay_any n W2))).mono ?_⟩
          rintro e W3 ⟨rfl, rfl⟩
          gi_wp2_with fail
          exact ⟨(keepsOthers_b HBW.out).trans (KeepsOthers.setCell _ _ _), mayX_of HJ.out HBAD.out HBW.out⟩
        · have hmm : mayC n = true := hmc
          have hn2 : n ≤ 1099511627776 := by simp [mayC] at hmm; omega
          have hok : okItem x.1 = true := by rw [HZ.out]; exact okItem_iff.2 ⟨HGD.out, h1, hn2⟩
          have HOK := Lib.hid hok
          have HMC := Lib.hid hmc
          have hle := leS_iff gd LG
          obtain ⟨LT, hLT⟩ : ∃ LT, ltS LG gd = LT := ⟨_, rfl⟩
          rw [hLT] at hle
          have HLT := Lib.hid hLT
          clear hok hmm hmc hLT
          gi_wp2_with fail
          refine ⟨trivial, (CallsIn.inRound l (callsIn_wide.2 (HMC.out ▸ cmay_any n W2))).mono ?_⟩
          rintro e W3 ⟨rfl, rfl⟩
          cases LT
          · have hbad : (okItem x.1 && ltS (lastG pre) x.1.good) = false := by rw [HLG.out, HZ.out, show ltS LG (⟨gd, n⟩ : It).good = false from HLT.out, Bool.and_false]
            have HBAD := Lib.hid hbad
            have hle2 : (Op.bytesLess gd.toList LG.toList || gd.toList == LG.toList) = true := hle
            clear hbad hle
            gi_wp2_with fail
            exact ⟨(keepsOthers_b HBW.out).trans (KeepsOthers.setCell _ _ _), mayX_of HJ.out HBAD.out HBW.out⟩
          · have hle2 : (Op.bytesLess gd.toList LG.toList || gd.toList == LG.toList) = false := hle
            clear hle
            gi_wp2_with fail
            have hgd : x.1.good = gd := by rw [HZ.out]
            have hJ2 := mayJ_next HJ.out HOK.out (by rw [HLG.out, hgd]; exact HLT.out) HBW.out
            rw [hgd] at hJ2
            exact ⟨(keepsOthers_b HBW.out).trans (KeepsOthers.setCell _ _ _), (HBW.out.mono HJ.out.2.size).setCell (p := ⟨w.heap.size + 1, 0, none⟩) (by simp) _, hJ2⟩
      · have hbad : (okItem x.1 && ltS (lastG pre) x.1.good) = false := by rw [HZ.out]; simp [okItem, h1]
        have HBAD := Lib.hid hbad
        clear hbad
        gi_wp2_with fail
        refine ⟨trivial, ?_⟩
        gi_wp2_with fail
        exact ⟨(keepsOthers_b HBW.out).trans (KeepsOthers.setCell _ _ _), mayX_of HJ.out HBAD.out HBW.out⟩
end Go.Proofs.Ytpccbobomppdbaa
