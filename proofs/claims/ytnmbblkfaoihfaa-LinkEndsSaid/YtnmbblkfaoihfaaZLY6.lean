/- Joined: More steps of a walk through a drawn region: state that is handed on; append. A drawn region in which two operations that turn the world stand in no order: two walks, one for each order. Ends in memory: package link's and the reference's. Package link: New, Open, Mark, Sent, packet. -/
import Derived.Test.YtnmbblkfaoihfaaZLY5
import Derived.Test.YtnmbblkfaoihfaaZLY1
import Derived.Test.YtnmbblkfaoihfaaZLY3
namespace Go.Proofs.Ytnmbblkfaoihfaa
open Go.RowKit

section
variable {P : Program} {ops : Array Oper} {R : Act → (World → Prop) → Prop} {o : Oper} {i : Nat} {l vis : List Nat} {S C : World → Prop} {a : Act}
/-- A call that hands back something, keeps S, and of which H holds until the next one. -/
theorem flow_gcall (H : Value → World → Prop) (ho : ops.toList[i]? = some o) (hv : boundIn vis o = true) (hw : Region.wanted o (yielded ops a.tmps) = true) (hb : behindB ops i l = true)
    (h : ∀ w, S w → C w → ∃ f args w', (execOp a.eval o).run P w = .ok (.enter f args) w' ∧ Calls P f args w' fun e w'' => ∃ v, e = .returned v ∧ S w'' ∧ H v w'')
    (h' : ∀ v, (∃ w, S w ∧ H v w) → FlowAll P ops R l (i :: vis) (fun w => S w ∧ True) (H v) (a.put o.dst v)) : FlowAll P ops R (i :: l) vis S C a :=
  ⟨o, by rw [← Array.getElem?_toList]; exact ho, hv, .inr ⟨hw, hb, S, .inr fun _ h => h, fun _ _ => True, H, fun w hs hc => by
    obtain ⟨f, args, w', h1, h2⟩ := h w hs hc
    exact .inr (.inr ⟨f, args, w', h1, h2.mono fun e w'' ⟨v, he, hs', hk⟩ => ⟨v, he, hs', trivial, hk⟩⟩), fun v ⟨w, h1, _, h2⟩ => h' v ⟨w, h1, h2⟩⟩⟩
/-- An operation of the language's own that makes or writes memory: of what it hands back H holds until the next one. -/
theorem flow_gmake (H : Value → World → Prop) (ho : ops.toList[i]? = some o) (hv : boundIn vis o = true) (hw : Region.wanted o (yielded ops a.tmps) = true) (hb : behindB ops i l = true)
    (h : ∀ w, S w → C w → ∃ v w', (execOp a.eval o).run P w = .ok (.value v) w' ∧ S w' ∧ H v w')
    (h' : ∀ v, (∃ w, S w ∧ H v w) → FlowAll P ops R l (i :: vis) (fun w => S w ∧ True) (H v) (a.put o.dst v)) : FlowAll P ops R (i :: l) vis S C a :=
  ⟨o, by rw [← Array.getElem?_toList]; exact ho, hv, .inr ⟨hw, hb, S, .inr fun _ h => h, fun _ _ => True, H, fun w hs hc => by
    obtain ⟨v, w', h1, h2, h3⟩ := h w hs hc
    exact .inl ⟨v, w', h1, h2, trivial, h3⟩, fun v ⟨w, h1, _, h2⟩ => h' v ⟨w, h1, h2⟩⟩⟩
end
/-- An operation that appends what may be read to a row that is the caller's own. -/
theorem exec_append_rd {P : Program} {o : Oper} {ρ : Operand → Value} {w : World} {S : World → Prop} {H : Value → World → Prop} (s x : Operand) (t : TypeId)
    (ho : o.op = .call { callee := .builtin .append, args := #[s, x], argTypes := #[t, t] })
    (base : Nat) (e : TypeId) (i : TypeInfo) (z : Value) (size bytes : Nat) (ht : P.underlying t = some (.slice e)) (hi : P.info? e = some i) (hz : i.zero = some z)
    (hsize : i.size = size) (hby : i.bytes = bytes) (hzs : z.cells.size = size) (hsz : 0 < size)
    (v : Value) (n : Nat) (xs : List Value) (hs : ρ s = v) (hown : w.ownsRow base e size v n xs)
    (A : Option Addr) (m c : Nat) (news : List Value) (hx : ρ x = .slice A m c) (hr : Rd w size A m news) (h1 : ∀ u ∈ news, u.oneCell' = true)
    (h63 : n + m ≤ maxLen) (hbytes : (n + m) * bytes ≤ 140737488355328) (hbase : base ≤ w.heap.size)
    (h : ∀ v' w', w'.ownsRow base e size v' (n + m) (xs ++ news) → w.grownBy w' v.ownBlock → S w' ∧ H v' w') :
    ∃ v' w', (execOp ρ o).run P w = .ok (.value v') w' ∧ S w' ∧ H v' w' := by
  obtain ⟨v', w', hrun, h2, h3, _⟩ := run_append_rd (P := P) w base t o.type e i z size bytes ht hi hz hsize hby hzs hsz v n xs hown A m c news hr h1 h63 hbytes hbase
  refine ⟨v', w', ?_, h v' w' h2 h3⟩
  unfold execOp
  simp only [ho, resolve, invoke, builtin, Sem.run_bind, Sem.run_pure, Result.andThen_ok, List.map_toArray, List.map_cons, List.map_nil, hs, hx, hrun]

end Go.Proofs.Ytnmbblkfaoihfaa

namespace Go.Proofs.Ytnmbblkfaoihfaa

section
variable {F : Fence} {n : Nat} {P : Program} {ops : Array Oper} {Q : Exit → Act → World → Prop}

/-- A list in which a region may be done, from what is listed on. -/
def ValidL (ops : Array Oper) : Array Bool → List Nat → Prop
  | listed, [] => Region.ready .any ops listed = []
  | listed, i :: r => i ∈ Region.ready .any ops listed ∧ ValidL ops (listed.setIfInBounds i true) r

theorem ready_lt {listed : Array Bool} {i : Nat} (h : i ∈ Region.ready .any ops listed) : i < listed.size ∧ listed.getD i false = false := by
  obtain ⟨h1, _⟩ := mem_ready.1 h
  by_cases hi : i < listed.size
  · refine ⟨hi, ?_⟩
    simp [hi] at h1 ⊢
    exact h1
  · simp [hi] at h1
theorem count_set {listed : Array Bool} {i : Nat} (h : i ∈ Region.ready .any ops listed) : (listed.setIfInBounds i true).toList.count false + 1 = listed.toList.count false := by
  obtain ⟨hlt, h5⟩ := ready_lt h
  have h5' : listed[i] = false := by simpa [hlt] using h5
  rw [Array.toList_setIfInBounds, List.count_set (by simpa using hlt)]
  have : 0 < listed.toList.count false := List.count_pos_iff.2 (by rw [← h5']; simp)
  have e1 : (listed.toList[i]'(by simpa using hlt)) = false := by simpa using h5'
  rw [e1]
  simp only [beq_self_eq_true, if_true]
  rw [if_neg (by simp)]
  omega
theorem lin_valid : ∀ (fuel t : Nat) (listed : Array Bool), listed.toList.count false ≤ fuel → ValidL ops listed (Region.linearise.go .any ops fuel t listed []) := by
  intro fuel
  induction fuel with
  | zero =>
    intro t listed hc
    simp only [Region.linearise.go, List.reverse_nil]
    show Region.ready .any ops listed = []
    cases hr : Region.ready .any ops listed with
    | nil => rfl
    | cons x xs =>
      have := count_set (ops := ops) (listed := listed) (i := x) (by rw [hr]; simp)
      omega
  | succ fuel ih =>
    intro t listed hc
    simp only [Region.linearise.go]
    change ValidL ops listed (match (Region.ready .any ops listed)[t % (Region.ready .any ops listed).length]? with
      | some i => Region.linearise.go .any ops fuel (t / (Region.ready .any ops listed).length) (listed.setIfInBounds i true) [i]
      | none => [].reverse)
    cases hi : (Region.ready .any ops listed)[t % (Region.ready .any ops listed).length]? with
    | none =>
      show Region.ready .any ops listed = []
      cases hr : Region.ready .any ops listed with
      | nil => rfl
      | cons x xs =>
        rw [hr] at hi
        have hlt : t % (x :: xs).length < (x :: xs).length := Nat.mod_lt _ (by simp)
        simp at hi
        simp at hlt
        omega
    | some i =>
      simp only []
      rw [linearise_go_acc, List.reverse_singleton, List.singleton_append]
      have hm := List.mem_of_getElem? hi
      exact ⟨hm, ih _ _ (by have := count_set hm; omega)⟩
theorem valid_len : ∀ (l : List Nat) (listed : Array Bool), ValidL ops listed l → l.length ≤ listed.toList.count false
  | [], _, _ => Nat.zero_le _
  | i :: r, listed, h => by
    have := valid_len r _ h.2
    have := count_set h.1
    rw [List.length_cons]
    omega
theorem any_ops : ∀ (l : List Nat) (fuel : Nat) (listed : Array Bool) (a : Act) (w : World), wpAnyIn F n P .any ops Q fuel listed a w → ValidL ops listed l → l.length ≤ fuel → wpOpsIn F n P ops Q l a w
  | [], 0, _, _, _, h, _, _ => h.2
  | [], _ + 1, _, _, _, h, hv, _ => h.1 hv
  | i :: r, 0, _, _, _, _, _, hl => by simp at hl
  | i :: r, fuel + 1, listed, a, w, h, hv, hl => by
    rw [wpOpsIn_cons]
    exact wpOpIn_mono (fun a w h' => any_ops r fuel _ a w h' hv.2 (by simpa using hl)) (h.2 i hv.1)

/-- However the operations are drawn. -/
def RegOK (F : Fence) (n : Nat) (P : Program) (ops : Array Oper) (Q : Exit → Act → World → Prop) (a : Act) (w : World) : Prop :=
  ∀ l, ValidL ops (Array.replicate ops.size false) l → wpOpsIn F n P ops Q l a w
theorem region_of_ok {id : Nat} {a : Act} {w : World} (hm : P.follows .mixedOrders = true) (h : RegOK F n P ops Q a w.drew) : (Code.region id ops true).wpIn F n P Q a w :=
  wpIn_region_draw fun t => by
    simp only [Region.schedule, hm, Bool.true_or, if_true]
    exact h _ (lin_valid _ _ _ (by simp))
theorem ok_flow {a : Act} {w : World} (S C : World → Prop) (ord : List Nat)
    (hF : ∀ f, F.fn f) (hd : F.depth = none) (hc : ∀ n f args w R, Calls P f args w R → CallsIn F n P f args w R) (ht : tidy2 ops = true) (hord : allOf ops ord = true)
    (hS : S w) (hC : C w) (h : FlowAll P ops (fun a S => ∀ w, S w → Q .normal a w) ord [] S C a) : RegOK F n P ops Q a w := fun l hl =>
  any_ops l _ _ _ _ (wpAny_flow S C ord hF hd hc ht hord hS hC h) hl (by have := valid_len l _ hl; simpa using this)

/-- d is bound behind s, too. -/
def addL : Nat → Nat → List Oper → List Oper
  | _, _, [] => []
  | 0, s, o :: r => { o with after := o.after.push { on := s, ground := .data } } :: r
  | d + 1, s, o :: r => o :: addL d s r
def addAfter (ops : Array Oper) (d s : Nat) : Array Oper := (addL d s ops.toList).toArray
theorem addL_get : ∀ (d s : Nat) (l : List Oper) (i : Nat), (addL d s l)[i]? = (l[i]?).map fun o => if i = d then { o with after := o.after.push { on := s, ground := .data } } else o
  | d, _, [], i => by cases d <;> simp [addL]
  | 0, s, o :: r, 0 => by simp [addL]
  | 0, s, o :: r, i + 1 => by simp [addL]
  | d + 1, s, o :: r, 0 => by simp [addL]
  | d + 1, s, o :: r, i + 1 => by simp [addL, addL_get d s r i]
theorem addL_len : ∀ (d s : Nat) (l : List Oper), (addL d s l).length = l.length
  | d, _, [] => by cases d <;> rfl
  | 0, _, _ :: _ => rfl
  | d + 1, s, _ :: r => by simp [addL, addL_len d s r]
theorem addAfter_get (d s i : Nat) : (addAfter ops d s)[i]? = (ops[i]?).map fun o => if i = d then { o with after := o.after.push { on := s, ground := .data } } else o := by
  unfold addAfter
  rw [List.getElem?_toArray, addL_get, Array.getElem?_toList]
theorem addAfter_size (d s : Nat) : (addAfter ops d s).size = ops.size := by simp [addAfter, addL_len]
theorem addAfter_yielded (d s : Nat) (tmps : Array Value) : yielded (addAfter ops d s) tmps = yielded ops tmps := by
  funext g
  unfold yielded
  rw [addAfter_get]
  cases ops[g]? with
  | none => rfl
  | some o =>
    simp only [Option.map_some, Option.bind_some]
    by_cases hg : g = d
    · rw [if_pos hg]
    · rw [if_neg hg]
theorem addAfter_ops (d s : Nat) : ∀ (l : List Nat) (a : Act) (w : World), wpOpsIn F n P (addAfter ops d s) Q l a w → wpOpsIn F n P ops Q l a w
  | [], _, _, h => h
  | i :: r, a, w, h => by
    rw [wpOpsIn_cons] at h ⊢
    have ih := fun a w => addAfter_ops d s r a w
    unfold wpOpIn at h ⊢
    rw [addAfter_get] at h
    cases ho : ops[i]? with
    | none => rw [ho] at h; exact ih _ _ h
    | some o =>
      rw [ho] at h
      simp only [Option.map_some, addAfter_yielded] at h ⊢
      have e1 : Region.wanted (if i = d then { o with after := o.after.push { on := s, ground := .data } } else o) (yielded ops a.tmps) = Region.wanted o (yielded ops a.tmps) := by split <;> rfl
      rw [e1] at h
      by_cases hw : Region.wanted o (yielded ops a.tmps) = true
      · rw [if_pos hw] at h ⊢
        have h2 : o.wpIn F n P a w (wpOpsIn F n P (addAfter ops d s) Q r) Q := by
          by_cases hid : i = d
          · rw [if_pos hid] at h; exact h
          · rw [if_neg hid] at h; exact h
        exact Oper.wpIn_mono ih h2
      · rw [if_neg hw] at h ⊢
        by_cases hid : i = d
        · rw [if_pos hid] at h; exact ⟨h.1, ih _ _ h.2⟩
        · rw [if_neg hid] at h; exact ⟨h.1, ih _ _ h.2⟩

/-- s comes ahead of d. -/
def Before (s d : Nat) : List Nat → Prop
  | [] => True
  | i :: r => i = s ∨ (i ≠ d ∧ Before s d r)
theorem before_or (s d : Nat) : ∀ l, Before s d l ∨ Before d s l
  | [] => .inl trivial
  | i :: r => by
    by_cases h1 : i = s
    · exact .inl (.inl h1)
    · by_cases h2 : i = d
      · exact .inr (.inl h2)
      · rcases before_or s d r with h | h
        · exact .inl (.inr ⟨h2, h⟩)
        · exact .inr (.inr ⟨h1, h⟩)
theorem set_true {listed : Array Bool} {i j : Nat} (h : listed.getD j false = true) : (listed.setIfInBounds i true).getD j false = true := by
  by_cases e : i = j
  · subst e
    by_cases hi : i < listed.size
    · simp [hi]
    · simp [hi] at h
  · rw [Array.getD_eq_getD_getElem?, Array.getElem?_setIfInBounds_ne e]
    simpa using h
theorem set_self {listed : Array Bool} {i : Nat} (h : i < listed.size) : (listed.setIfInBounds i true).getD i false = true := by simp [h]
theorem addAfter_valid (d s : Nat) (hds : d ≠ s) : ∀ (l : List Nat) (listed : Array Bool), ValidL ops listed l → (listed.getD d false = true ∨ listed.getD s false = true ∨ Before s d l) → ValidL (addAfter ops d s) listed l
  | [], listed, h, _ => by
    show Region.ready .any (addAfter ops d s) listed = []
    cases hr : Region.ready .any (addAfter ops d s) listed with
    | nil => rfl
    | cons x xs =>
      exfalso
      have hx : x ∈ Region.ready .any (addAfter ops d s) listed := by rw [hr]; simp
      obtain ⟨h1, o, h2, h3⟩ := mem_ready.1 hx
      rw [addAfter_get] at h2
      cases ho : ops[x]? with
      | none => rw [ho] at h2; cases h2
      | some o' =>
        rw [ho, Option.map_some, Option.some.injEq] at h2
        have : x ∈ Region.ready .any ops listed := mem_ready.2 ⟨h1, o', ho, fun e he hb => by
          subst h2
          refine h3 e ?_ hb
          split
          · simp [he]
          · exact he⟩
        rw [h] at this
        cases this
  | i :: r, listed, h, hb => by
    obtain ⟨h1, h2⟩ := h
    obtain ⟨hlt, hnl⟩ := ready_lt h1
    obtain ⟨g1, o, g2, g3⟩ := mem_ready.1 h1
    have hbi : i = d → listed.getD s false = true := fun e => by
      subst e
      rcases hb with hb | hb | hb
      · rw [hnl] at hb; cases hb
      · exact hb
      · rcases hb with hb | hb
        · exact absurd hb hds
        · exact absurd rfl hb.1
    refine ⟨mem_ready.2 ⟨g1, _, by rw [addAfter_get, g2, Option.map_some], fun e he hbe => ?_⟩, addAfter_valid d s hds r _ h2 ?_⟩
    · split at he
      · rename_i hid
        rcases Array.mem_push.1 he with he | he
        · exact g3 e he hbe
        · subst he; exact hbi hid
      · exact g3 e he hbe
    · rcases hb with hb | hb | hb
      · exact .inl (set_true hb)
      · exact .inr (.inl (set_true hb))
      · rcases hb with hb | hb
        · subst hb; exact .inr (.inl (set_self hlt))
        · exact .inr (.inr hb.2)
/-- Two walks, one for each order of d and s. -/
theorem ok_split (d s : Nat) (hds : d ≠ s) {a : Act} {w : World} (h1 : RegOK F n P (addAfter ops d s) Q a w) (h2 : RegOK F n P (addAfter ops s d) Q a w) : RegOK F n P ops Q a w := fun l hl => by
  rcases before_or s d l with h | h
  · exact addAfter_ops d s l a w (h1 l (by rw [addAfter_size]; exact addAfter_valid d s hds l _ hl (.inr (.inr h))))
  · exact addAfter_ops s d l a w (h2 l (by rw [addAfter_size]; exact addAfter_valid s d (Ne.symm hds) l _ hl (.inr (.inr h))))
end
end Go.Proofs.Ytnmbblkfaoihfaa

namespace Go.Proofs.Ytnmbblkfaoihfaa
open Go.RowKit

theorem own_low {w : World} {B B' e size n : Nat} {v : Value} {xs : List Value} (h : w.ownsRow B e size v n xs) (hB : B' ≤ B) : w.ownsRow B' e size v n xs := by
  refine ⟨h.1, ?_⟩
  rcases h.2 with h | ⟨g, cap, cur, h1, h2, h3⟩
  · exact .inl h
  · exact .inr ⟨g, cap, cur, h1, Nat.le_trans hB h2, h3⟩
/-- An item in memory: what it is, and the value that holds its body. -/
structure LIm where
  it : LIt
  bv : Value
def encL (z : LIm) : List Value := [.int .i64 z.it.seq, z.bv, .int .i64 z.it.tries, .int .i64 z.it.due]
theorem encL_len (z : LIm) : (encL z).length = 4 := rfl
theorem flatL_len (zs : List LIm) : (zs.flatMap encL).length = zs.length * 4 := by
  induction zs with
  | nil => rfl
  | cons z zs ih => rw [List.flatMap_cons, List.length_append, ih, encL_len, List.length_cons]; omega
theorem flatL_at (zs : List LIm) (k j : Nat) (hk : k < zs.length) (hj : j < 4) : (zs.flatMap encL)[k * 4 + j]? = (encL zs[k])[j]? := by
  induction zs generalizing k with
  | nil => simp at hk
  | cons z zs ih =>
    cases k with
    | zero => rw [List.flatMap_cons, List.getElem?_append_left (by rw [encL_len]; omega)]; simp
    | succ k => rw [List.flatMap_cons, List.getElem?_append_right (by rw [encL_len]; omega), encL_len, show (k + 1) * 4 + j - 4 = k * 4 + j by omega, ih k (by simpa using hk)]; simp

/-- An operation that appends what may be read to a row that is the caller's own; where the row lies behind it. -/
theorem exec_append_at {P : Program} {o : Oper} {ρ : Operand → Value} {w : World} {S : World → Prop} {H : Value → World → Prop} (s x : Operand) (t : TypeId)
    (ho : o.op = .call { callee := .builtin .append, args := #[s, x], argTypes := #[t, t] })
    (base : Nat) (e : TypeId) (i : TypeInfo) (z : Value) (size bytes : Nat) (ht : P.underlying t = some (.slice e)) (hi : P.info? e = some i) (hz : i.zero = some z)
    (hsize : i.size = size) (hby : i.bytes = bytes) (hzs : z.cells.size = size) (hsz : 0 < size)
    (v : Value) (n : Nat) (xs : List Value) (hs : ρ s = v) (hown : w.ownsRow base e size v n xs)
    (A : Option Addr) (m c : Nat) (news : List Value) (hx : ρ x = .slice A m c) (hr : Rd w size A m news) (h1 : ∀ u ∈ news, u.oneCell' = true)
    (h63 : n + m ≤ maxLen) (hbytes : (n + m) * bytes ≤ 140737488355328) (hbase : base ≤ w.heap.size)
    (h : ∀ v' w', w'.ownsRow base e size v' (n + m) (xs ++ news) → w.grownBy w' v.ownBlock → (v'.ownBlock = v.ownBlock ∨ v'.ownBlock = some w.heap.size) → S w' ∧ H v' w') :
    ∃ v' w', (execOp ρ o).run P w = .ok (.value v') w' ∧ S w' ∧ H v' w' := by
  obtain ⟨v', w', hrun, h2, h3, h4⟩ := run_append_rd_at (P := P) w base t o.type e i z size bytes ht hi hz hsize hby hzs hsz v n xs hown A m c news hr h1 h63 hbytes hbase
  refine ⟨v', w', ?_, h v' w' h2 h3 h4⟩
  unfold execOp
  simp only [ho, resolve, invoke, builtin, Sem.run_bind, Sem.run_pure, Result.andThen_ok, List.map_toArray, List.map_cons, List.map_nil, hs, hx, hrun]

/-- Bytes at the head of a block of bytes, frozen or not. -/
def RowU (W : World) (v : Value) (n : Nat) (xs : List Value) : Prop :=
  xs.length = n ∧ ((v = .slice none 0 0 ∧ n = 0) ∨ ∃ g cap cur fz, v = .slice (some ⟨g, 0, none⟩) n cap ∧ W.heap[g]? = some (.cells cur 5 fz) ∧ n ≤ cap ∧ cap ≤ maxLen ∧ cur.toList.take n = xs)
theorem RowU.of {W : World} {B : Nat} {v : Value} {n : Nat} {xs : List Value} (h : W.ownsRow B 5 1 v n xs) : RowU W v n xs := by
  obtain ⟨h1, h2⟩ := h
  refine ⟨by omega, ?_⟩
  rcases h2 with h | ⟨g, cap, cur, e, _, k1, k2, k3, _, k5⟩
  · exact .inl h
  · exact .inr ⟨g, cap, cur, _, e, k1, k2, k3, by rw [Nat.mul_one] at k5; exact k5⟩
theorem RowU.slice {W : World} {v : Value} {n : Nat} {xs : List Value} (h : RowU W v n xs) : ∃ A c, v = .slice A n c ∧ n ≤ c ∧ c ≤ maxLen ∧ Rd W 1 A n xs ∧ (∀ a, A = some a → v.ownBlock = some a.block ∧ a.off = 0 ∧ a.spot = none) := by
  obtain ⟨h1, h2⟩ := h
  rcases h2 with ⟨rfl, rfl⟩ | ⟨g, cap, cur, fz, rfl, k1, k2, k3, k4⟩
  · exact ⟨none, 0, rfl, Nat.le_refl _, Nat.zero_le _, ⟨by omega, fun h => absurd h (by omega)⟩, by simp⟩
  · refine ⟨_, cap, rfl, k2, k3, ⟨by omega, fun _ => ⟨g, 0, rfl, lt_of_block k1, fun j u hu => ?_⟩⟩, fun a ha => by cases ha; exact ⟨rfl, rfl, rfl⟩⟩
    rw [← k4, List.getElem?_take] at hu
    split at hu
    · rw [Nat.zero_add, cell_at k1, ← hu]
      simp
    · cases hu
theorem RowU.block {W : World} {v : Value} {n : Nat} {xs : List Value} (h : RowU W v n xs) {k : Nat} (hk : v.ownBlock = some k) : ∃ cs fz, W.heap[k]? = some (.cells cs 5 fz) := by
  rcases h.2 with ⟨rfl, _⟩ | ⟨g, cap, cur, fz, rfl, k1, _⟩
  · cases hk
  · cases hk
    exact ⟨_, _, k1⟩
theorem RowU.keep {W W' : World} {v : Value} {n : Nat} {xs : List Value} (h : RowU W v n xs) (hb : ∀ k cs fz, v.ownBlock = some k → W.heap[k]? = some (.cells cs 5 fz) → W'.heap[k]? = some (.cells cs 5 fz)) : RowU W' v n xs := by
  refine ⟨h.1, ?_⟩
  rcases h.2 with h | ⟨g, cap, cur, fz, rfl, k1, k2⟩
  · exact .inl h
  · exact .inr ⟨g, cap, cur, fz, rfl, hb g _ _ rfl k1, k2⟩
/-- Bytes in memory that never turn. -/
def ByO (W : World) (v : Value) (bs : List Nat) : Prop := RowU W v bs.length (bs.map u8v) ∧ ∀ b ∈ bs, b < 256
theorem ByO.bs {W : World} {v : Value} {bs : List Nat} (h : ByO W v bs) : Bs W v bs := by
  obtain ⟨A, c, e, k1, k2, k3, _⟩ := h.1.slice
  exact ⟨A, c, e, k1, k2, k3⟩
theorem byo_slice {W : World} {v : Value} {bs : List Nat} (h : ByO W v bs) : ∃ A c, v = .slice A bs.length c ∧ bs.length ≤ c ∧ c ≤ maxLen ∧ Rd W 1 A bs.length (bs.map u8v) ∧ (∀ a, A = some a → v.ownBlock = some a.block ∧ a.off = 0 ∧ a.spot = none) := h.1.slice
/-- The numbers that an item bears are in range. -/
def OkI (x : LIt) : Prop := I64 x.seq ∧ 0 ≤ x.tries ∧ x.tries ≤ 9223372036854775807 ∧ I64 x.due
/-- Items in memory. -/
def HeldI (W : World) (T : TypeId) (v : Value) (G : Option Nat) (l : List LIt) : Prop :=
  ∃ zs : List LIm, zs.map (·.it) = l ∧ W.ownsRow 0 T 4 v l.length (zs.flatMap encL) ∧ v.ownBlock = G ∧ ∀ z ∈ zs, ByO W z.bv z.it.body
/-- An end in memory. -/
def IsE (W : World) (T TE : TypeId) (p : Nat) (G : Option Nat) (s : LSt) : Prop :=
  ∃ v, W.heap[p]? = some (.cells #[v, .int .i64 s.sent, .int .i64 s.mark] TE (0, 0)) ∧ HeldI W T v G s.l

theorem ByO.frame {W W' : World} {S : List Nat} {T : List TypeId} {v : Value} {bs : List Nat} (h : ByO W v bs) (f : Fr 0 T S W W') (hT : 5 ∉ T) (hS : ∀ k ∈ S, ∀ cs fz, W.heap[k]? ≠ some (.cells cs 5 fz)) : ByO W' v bs :=
  ⟨h.1.keep fun k _ _ _ hc => f.keep hc hT (fun hm => hS k hm _ _ hc), h.2⟩
theorem ByO.below {W W' : World} {v : Value} {bs : List Nat} (h : ByO W v bs) (b : Below W.heap.size W W') : ByO W' v bs := h.frame (Fr.of_below (T := []) (S := []) b) (by simp) (by simp)
theorem HeldI.below {W W' : World} {T : TypeId} {v : Value} {G : Option Nat} {l : List LIt} (h : HeldI W T v G l) (b : Below W.heap.size W W') : HeldI W' T v G l := by
  obtain ⟨zs, h1, h2, h3, h4⟩ := h
  exact ⟨zs, h1, (Fr.of_below (B := 0) (T := []) (S := []) b).own h2 (by simp) (by simp), h3, fun z hz => (h4 z hz).below b⟩
theorem IsE.below {W W' : World} {T TE : TypeId} {p : Nat} {G : Option Nat} {s : LSt} (h : IsE W T TE p G s) (b : Below W.heap.size W W') : IsE W' T TE p G s := by
  obtain ⟨v, h1, h2⟩ := h
  exact ⟨v, (b.block p (lt_of_block h1)).trans h1, h2.below b⟩
theorem IsE.lt {W : World} {T TE : TypeId} {p : Nat} {G : Option Nat} {s : LSt} (h : IsE W T TE p G s) : p < W.heap.size := by
  obtain ⟨v, h1, _⟩ := h
  exact lt_of_block h1
theorem ByO.far {W W' : World} {n : Nat} {cs : Array Value} {TP : TypeId} {fz : Nat × Nat} {v : Value} {bs : List Nat} (h : ByO W v bs) (f : Fr 0 [] [n] W W') (hn : W.heap[n]? = some (.cells cs TP fz)) (hT : TP ≠ 5) : ByO W' v bs :=
  h.frame f (by simp) fun k hk cs' fz' e => by
    simp at hk
    subst hk
    rw [hn] at e
    injection e with e
    injection e with _ e _
    exact hT e
theorem IsE.far {W W' : World} {n : Nat} {cs : Array Value} {T TE TP : TypeId} {fz : Nat × Nat} {p : Nat} {G : Option Nat} {s : LSt} (h : IsE W T TE p G s) (f : Fr 0 [] [n] W W') (hn : W.heap[n]? = some (.cells cs TP fz)) (h1 : TP ≠ 5) (h2 : TP ≠ T) (h3 : TP ≠ TE) : IsE W' T TE p G s := by
  obtain ⟨v, k1, zs, k2, k3, k4, k5⟩ := h
  have hpn : p ≠ n := fun e => by
    subst e
    rw [hn] at k1
    injection k1 with e
    injection e with _ e _
    exact h3 e
  refine ⟨v, (f.block p (lt_of_block k1) (.inr ⟨fun _ _ _ _ => by simp, by simpa using hpn⟩)).trans k1, zs, k2, f.own k3 (by simp) (fun k hk hm => ?_), k4, fun z hz => (k5 z hz).far f hn h1⟩
  obtain ⟨_, cs2, hc⟩ := own_block k3 hk
  simp at hm
  subst hm
  rw [hn] at hc
  injection hc with e
  injection e with _ e _
  exact h2 e
/-- What a call on an end leaves. -/
def RetE (T TE : TypeId) (p : Nat) (G : Option Nat) (R : Ending → World → Prop) (s : LSt) (w : World) (e : Ending) (w' : World) : Prop :=
  ∃ G', R e w' ∧ IsE w' T TE p G' s ∧ Fr 0 [] (p :: G.toList) w w' ∧ (G' = G ∨ ∃ g, G' = some g ∧ w.heap.size ≤ g)

/-- A packet that is handed over or back. -/
def IsP (W : World) (v : Value) (k : LPk) : Prop := ∃ bv, v = .agg #[.int .i64 k.seq, .int .i64 k.ack, bv] ∧ ByO W bv k.body
theorem IsP.below {W W' : World} {v : Value} {k : LPk} (h : IsP W v k) (b : Below W.heap.size W W') : IsP W' v k := by
  obtain ⟨bv, h1, h2⟩ := h
  exact ⟨bv, h1, h2.below b⟩
/-- A packet that came in, or that is handed back: it may be read. -/
def IsPa (W : World) (v : Value) (k : LPk) : Prop := ∃ bv, v = .agg #[.int .i64 k.seq, .int .i64 k.ack, bv] ∧ Bs W bv k.body ∧ ∀ b ∈ k.body, b < 256
theorem IsPa.below {W W' : World} {v : Value} {k : LPk} (h : IsPa W v k) (b : Below W.heap.size W W') : IsPa W' v k := by
  obtain ⟨bv, h1, h2, h3⟩ := h
  exact ⟨bv, h1, h2.below b, h3⟩
theorem IsP.pa {W : World} {v : Value} {k : LPk} (h : IsP W v k) : IsPa W v k := by
  obtain ⟨bv, h1, h2⟩ := h
  exact ⟨bv, h1, h2.bs, h2.2⟩
end Go.Proofs.Ytnmbblkfaoihfaa

namespace Go.Proofs.Ytnmbblkfaoihfaa
open Go.RowKit

theorem lopen_nil (w : World) : Calls Try.prog 15 #[.pointer none] w fun e w' => e = .returned (.int .i64 0) ∧ w = w' := by
  go_enter Try.func15, Try.ntmps15
  go_wp2
  go_ret
  exact ⟨rfl, rfl⟩
theorem lopen_any (p : Nat) (G : Option Nat) (s : LSt) (w : World) (h : IsE w 84 80 p G s) : Calls Try.prog 15 #[.pointer (some ⟨p, 0, none⟩)] w fun e w' => e = .returned (.int .i64 s.l.length) ∧ w = w' := by
  obtain ⟨v, h1, zs, _, h2, _⟩ := h
  obtain ⟨A, c, rfl, _, _, _, _⟩ := own_slice h2
  have c0 := cell_at h1 0
  clear h1 h2
  go_enter Try.func15, Try.ntmps15
  go_wp2
  go_ret
  exact ⟨rfl, rfl⟩
theorem lmark_nil (w : World) : Calls Try.prog 26 #[.pointer none] w fun e w' => e = .returned (.int .i64 0) ∧ w = w' := by
  go_enter Try.func26, Try.ntmps26
  go_wp2
  go_ret
  exact ⟨rfl, rfl⟩
theorem lmark_any (p : Nat) (G : Option Nat) (s : LSt) (w : World) (h : IsE w 84 80 p G s) : Calls Try.prog 26 #[.pointer (some ⟨p, 0, none⟩)] w fun e w' => e = .returned (.int .i64 s.mark) ∧ w = w' := by
  obtain ⟨v, h1, zs, _, h2, _⟩ := h
  obtain ⟨A, c, rfl, _, _, _, _⟩ := own_slice h2
  have c0 := cell_at h1 2
  clear h1 h2
  go_enter Try.func26, Try.ntmps26
  go_wp2
  go_ret
  exact ⟨rfl, rfl⟩
theorem lsent_nil (w : World) : Calls Try.prog 27 #[.pointer none] w fun e w' => e = .returned (.int .i64 0) ∧ w = w' := by
  go_enter Try.func27, Try.ntmps27
  go_wp2
  go_ret
  exact ⟨rfl, rfl⟩
theorem lsent_any (p : Nat) (G : Option Nat) (s : LSt) (w : World) (h : IsE w 84 80 p G s) : Calls Try.prog 27 #[.pointer (some ⟨p, 0, none⟩)] w fun e w' => e = .returned (.int .i64 s.sent) ∧ w = w' := by
  obtain ⟨v, h1, zs, _, h2, _⟩ := h
  obtain ⟨A, c, rfl, _, _, _, _⟩ := own_slice h2
  have c0 := cell_at h1 1
  clear h1 h2
  go_enter Try.func27, Try.ntmps27
  go_wp2
  go_ret
  exact ⟨rfl, rfl⟩
theorem lnew_any (w : World) : Calls Try.prog 18 #[] w fun e w' => e = .returned (.pointer (some ⟨w.heap.size, 0, none⟩)) ∧ IsE w' 84 80 w.heap.size none ⟨[], 0, 0⟩ ∧ Below w.heap.size w w' := by
  go_enter Try.func18, Try.ntmps18
  go_wp2
  go_ret
  exact ⟨rfl, ⟨.slice none 0 0, block_new _ _, [], rfl, World.ownsRow_nil _ _ _ _, rfl, by simp⟩, (Below.refl _ _).alloc (Nat.le_refl _) _⟩

set_option maxRecDepth 100000 in
set_option maxHeartbeats 2000000 in
theorem packet_any (p : Nat) (G : Option Nat) (s : LSt) (seq tries due : Int) (bv : Value) (bs : List Nat) (w : World) (h : IsE w 84 80 p G s) (hb : ByO w bv bs) (hl : bs.length ≤ 140737488351232) :
    Calls Try.prog 43 #[.pointer (some ⟨p, 0, none⟩), .agg #[.int .i64 seq, bv, .int .i64 tries, .int .i64 due]] w fun e w' => ∃ v, e = .returned v ∧ IsP w' v ⟨seq, s.mark, bs⟩ ∧ Below w.heap.size w w' := by
  obtain ⟨v, h1, zs, _, h2, _⟩ := h
  have c0 := cell_at h1 2
  have hp := lt_of_block h1
  obtain ⟨A, c, rfl, k1, k2, k3, _⟩ := byo_slice hb
  have HB := Lib.hid hb
  clear h1 h2 hb k1 k2 k3
  go_enter Try.func43, Try.ntmps43
  go_wp2_with fail
  obtain ⟨W0, hW0⟩ : ∃ W0, (w.alloc (.cells #[.int .i64 seq, .slice A bs.length c, .int .i64 tries, .int .i64 due] 84)).alloc (.cells #[.int .i64 0, .int .i64 0, .slice none 0 0] 43) = W0 := ⟨_, rfl⟩
  have b3 := block_alloc (block_new w (.cells #[.int .i64 seq, .slice A bs.length c, .int .i64 tries, .int .i64 due] 84)) (.cells #[.int .i64 0, .int .i64 0, .slice none 0 0] 43)
  have b4 := block_new (w.alloc (.cells #[.int .i64 seq, .slice A bs.length c, .int .i64 tries, .int .i64 due] 84)) (.cells #[.int .i64 0, .int .i64 0, .slice none 0 0] 43)
  have hB0 := ((Below.refl _ w).alloc (Nat.le_refl _) (.cells #[.int .i64 seq, .slice A bs.length c, .int .i64 tries, .int .i64 due] 84)).alloc (by simp) (.cells #[.int .i64 0, .int .i64 0, .slice none 0 0] 43)
  rw [hW0] at b3 b4 hB0 ⊢
  simp only [World.size_alloc] at b4
  have hs3 := lt_of_block b3
  have hs4 := lt_of_block b4
  have C3 := Lib.hid b3
  have C4 := Lib.hid b4
  have HB0 := Lib.hid hB0
  have cp : W0.cell? ⟨p, 2, none⟩ = some (.int .i64 s.mark) := (hB0.cell (p := ⟨p, 2, none⟩) hp).trans c0
  have hp0 : p < W0.heap.size := by have := hB0.size; omega
  have HP := Lib.hid cp
  clear hW0 b3 b4 hB0 c0 cp
  refine wp_region_flow (fun W => Below W0.heap.size W0 W) [0, 1, 2, 3, 4, 5, 6, 7, 8, 9, 10] (by kernel_rfl) (by kernel_rfl) (by kernel_rfl) ((Below.refl _ W0).drew) ?_
  refine flow_val ?_ rfl (by kernel_rfl) (by rfl) (fun W hW => ?_) ?_
  rotate_left 1
  · go_simp <;> with_reducible rfl
  simp only [Act.put, List.setIfInBounds_toArray, List.set_cons_succ, List.set_cons_zero]
  refine flow_val ?_ rfl (by kernel_rfl) (by rfl) (fun W hW => ?_) ?_
  rotate_left 1
  · have c1 : W.cell? ⟨w.heap.size, 0, none⟩ = some (.int .i64 seq) := (hW.cell (p := ⟨w.heap.size, 0, none⟩) hs3).trans (cell_at C3.out 0); go_simp <;> with_reducible rfl
  simp only [Act.put, List.setIfInBounds_toArray, List.set_cons_succ, List.set_cons_zero]
  refine flow_val ?_ rfl (by kernel_rfl) (by rfl) (fun W hW => ?_) ?_
  rotate_left 1
  · go_simp <;> with_reducible rfl
  simp only [Act.put, List.setIfInBounds_toArray, List.set_cons_succ, List.set_cons_zero]
  refine flow_val ?_ rfl (by kernel_rfl) (by rfl) (fun W hW => ?_) ?_
  rotate_left 1
  · go_simp <;> with_reducible rfl
  simp only [Act.put, List.setIfInBounds_toArray, List.set_cons_succ, List.set_cons_zero]
  refine flow_val ?_ rfl (by kernel_rfl) (by rfl) (fun W hW => ?_) ?_
  rotate_left 1
  · go_simp <;> with_reducible rfl
  simp only [Act.put, List.setIfInBounds_toArray, List.set_cons_succ, List.set_cons_zero]
  refine flow_val ?_ rfl (by kernel_rfl) (by rfl) (fun W hW => ?_) ?_
  rotate_left 1
  · have c1 : W.cell? ⟨p, 2, none⟩ = some (.int .i64 s.mark) := (hW.cell (p := ⟨p, 2, none⟩) hp0).trans (HP.out); go_simp <;> with_reducible rfl
  simp only [Act.put, List.setIfInBounds_toArray, List.set_cons_succ, List.set_cons_zero]
  refine flow_val ?_ rfl (by kernel_rfl) (by rfl) (fun W hW => ?_) ?_
  rotate_left 1
  · go_simp <;> with_reducible rfl
  simp only [Act.put, List.setIfInBounds_toArray, List.set_cons_succ, List.set_cons_zero]
  refine flow_val ?_ rfl (by kernel_rfl) (by rfl) (fun W hW => ?_) ?_
  rotate_left 1
  · have c1 : W.cell? ⟨w.heap.size, 1, none⟩ = some (.slice A bs.length c) := (hW.cell (p := ⟨w.heap.size, 1, none⟩) hs3).trans (cell_at C3.out 1); go_simp <;> with_reducible rfl
  simp only [Act.put, List.setIfInBounds_toArray, List.set_cons_succ, List.set_cons_zero]
  refine flow_gcall (fun v W' => ByO W' v bs) rfl (by kernel_rfl) (by rfl) (by kernel_rfl) (fun W hW _ => ⟨_, _, _, by go_simp, (clone_any (.slice A bs.length c) bs W ((HB.out.below (HB0.out.trans (hW.mono HB0.out.size))).bs) (by omega)).mono fun e w1 ⟨v, he, hv, hb1⟩ => ⟨v, he, hW.trans (hb1.mono hW.size), RowU.of (own_low hv (Nat.zero_le _)), HB.out.2⟩⟩) ?_
  rintro v13 ⟨_, _, hv13, _⟩
  simp only [Act.put, List.setIfInBounds_toArray, List.set_cons_succ, List.set_cons_zero]
  obtain ⟨A13, c13, rfl, _, _, _, _⟩ := RowU.slice hv13
  clear hv13
  refine flow_val ?_ rfl (by kernel_rfl) (by rfl) (fun W hW => ?_) ?_
  rotate_left 1
  · go_simp <;> with_reducible rfl
  simp only [Act.put, List.setIfInBounds_toArray, List.set_cons_succ, List.set_cons_zero]
  refine flow_bar (fun W' => W'.heap[w.heap.size + 1]? = some (.cells #[.int .i64 seq, .int .i64 s.mark, .slice A13 bs.length c13] 43 (0, 0)) ∧ ByO W' (.slice A13 bs.length c13) bs ∧ Below w.heap.size w W') (fun _ => True) rfl (by kernel_rfl) (by rfl) (by kernel_rfl) (by kernel_rfl) (fun W hW hC => ?_) ?_
  · obtain ⟨hW, _⟩ := hW
    have h4 := (hW.block _ hs4).trans C4.out
    have q0 := cell_at h4 0
    have q1 := cell_at h4 1
    have q2 := cell_at h4 2
    have f0 := frozen_at h4 0
    have f1 := frozen_at h4 1
    have f2 := frozen_at h4 2
    have H4 := Lib.hid h4
    have HC := Lib.hid hC
    have HW := Lib.hid hW
    clear h4 hC hW
    refine ⟨_, by go_simp <;> with_reducible rfl, ⟨?_, ?_, ?_⟩, trivial⟩
    · simpa using block_set (block_set (block_set H4.out 0 (.int .i64 seq)) 1 (.int .i64 s.mark)) 2 (.slice A13 bs.length c13)
    · exact HC.out.frame (S := [w.heap.size + 1]) (T := []) ((((Fr.refl W).setCell (p := ⟨w.heap.size + 1, 0, none⟩) _ (Nat.zero_le _) (.inl (by simp))).setCell (p := ⟨w.heap.size + 1, 1, none⟩) _ (Nat.zero_le _) (.inl (by simp))).setCell (p := ⟨w.heap.size + 1, 2, none⟩) _ (Nat.zero_le _) (.inl (by simp))) (by simp) (fun k hk cs fz e => by
        simp at hk
        subst hk
        rw [H4.out] at e
        injection e with e
        injection e with _ e _
        exact absurd e (by decide))
    · exact (((HB0.out.trans (HW.out.mono HB0.out.size)).setCell (p := ⟨w.heap.size + 1, 0, none⟩) (by simp) _).setCell (p := ⟨w.heap.size + 1, 1, none⟩) (by simp) _).setCell (p := ⟨w.heap.size + 1, 2, none⟩) (by simp) _
  refine flow_done2 ?_
  rintro W ⟨⟨r1, r2, r3⟩, _⟩ _
  have q0 := cell_at r1 0
  have q1 := cell_at r1 1
  have q2 := cell_at r1 2
  clear r1
  go_wp2
  refine bodyPost_ret (v := .agg #[.int .i64 seq, .int .i64 s.mark, .slice A13 bs.length c13]) (by simp [results, Try.f43, go_sem, q0, q1, q2]) rfl ?_
  exact ⟨_, rfl, ⟨_, rfl, r2⟩, r3⟩
end Go.Proofs.Ytnmbblkfaoihfaa
