/- Joined: From a walk to a row's statement, and how arguments that came in are opened. How arguments that came in are opened: slices of whatever elements, element by element; numbers; texts; their sizes. How arguments that came in are opened: bytes. How arguments of chapter 12's laws are opened: packets, operations. An end of package link beside an end of the reference, seen from the world in which the law began. -/
import Derived.Test.YtnmbblkfaoihfaaRows
import Derived.Test.YtnmbblkfaoihfaaZLY1
import Derived.ProofKit
import Derived.OpenShut
import Derived.ShutString
import Derived.ChangeOld
import Derived.Deep.Slices
import Derived.Deep.Fields
import Derived.SizedLaws
import Derived.Test.YtnmbblkfaoihfaaZLY3
import Derived.Test.YtnmbblkfaoihfaaZLY11
import Derived.Test.YtnmbblkfaoihfaaZLY16
namespace Go.Proofs.Ytnmbblkfaoihfaa
open Go.ChangeShapes Go.WideShapes Go.ChangeAt Go.RowKit Go.Deep

theorem own : ownKnob Try.prog.godebug = none := by kernel_rfl
theorem laidOut : laidOutB Try.prog = true := by kernel_rfl

section
variable {H : Type} {enc : TypeId × Value → H} {P : Program}
theorem trodAll_below (hl : laidOutB P = true) {W W' : World} (hb : Below W.heap.size W W') : ∀ (ts : List TypeId), (∀ t ∈ ts, P.readableRec t = true ∧ t < P.types.size) → ∀ (vs : List Value) (ds : List (DataW H)) (ps : List MemPlace),
    DataW.TrodAll enc P W 0 (fun _ => true) true ts vs ds ps → (∀ x ∈ ps, x.block < W.heap.size) → DataW.TrodAll enc P W' 0 (fun b => decide (b < W.heap.size)) true ts vs ds ps
  | [], _, [], [], _, h, _ => h
  | [], _, _ :: _, _, _, h, _ => h.elim
  | [], _, [], _ :: _, _, h, _ => h.elim
  | _ :: _, _, [], _, _, h, _ => h.elim
  | _ :: _, _, _ :: _, [], _, h, _ => h.elim
  | t :: ts, hts, v :: vs, d :: ds, ps, h, hlt => by
    obtain ⟨p, q, h1, h2, rfl⟩ := h
    obtain ⟨hr, hrow⟩ := hts t (by simp)
    exact ⟨p, q, Below.trod hl hr hrow h1 hb (fun x hx => hlt x (by simp [hx])), trodAll_below hl hb ts (fun t ht => hts t (by simp [ht])) vs ds q h2 (fun x hx => hlt x (by simp [hx])), rfl⟩

/-- What a law owes behind its walk: it answered true, and nothing that was there has turned. -/
theorem post_true (hl : laidOutB P = true) {f : Func} {s : ChangeSpec} {W W' : World} {args : Array Value} {ds gs : List (DataW H)} {before : List MemPlace} {tb : TypeId}
    (hts : ∀ t ∈ f.params.toList, P.readableRec t = true ∧ t < P.types.size) (hrt : f.resultTypes = #[tb]) (hb : P.underlying tb = some .bool) (hvars : s.vars = [])
    (hres : (s.fn H (ds ++ gs)).results = [.lit (.bool true)]) (hargs : (s.fn H (ds ++ gs)).args = ds) (hsv : (s.fn H (ds ++ gs)).vars = [])
    (hW : DataW.Whole enc P f.params.toList s.vars false W args.toList ds gs before) (bel : Below W.heap.size W W') :
    s.post enc P f false true false false W args (.bool true) W' := by
  have hW' := hW
  obtain ⟨p, q, hA, hV, hpq, _⟩ := hW
  rw [hvars] at hV
  have hlt := hW'.lt
  obtain ⟨rfl, rfl⟩ := trodVars_none hV
  refine ⟨ds, [], before, [], p, [], hW', ?_, ?_, ?_, bel.frame _, fun h => by cases h⟩
  · rw [hres, hrt]
    exact trodAll_mk1 (shut_bool hb _)
  · rw [hargs]
    exact trodAll_below hl bel _ hts _ _ _ hA (fun x hx => hlt x (by rw [hpq]; simp [hx]))
  · rw [hvars, hsv]
    exact rfl
end

/-- A slice of integers that came in. -/
def IsRow (k : IntKind) (w : World) (a : Option Addr) (len cap : Nat) (zs : List Int) : Prop :=
  len ≤ cap ∧ cap ≤ maxLen ∧ Rd w 1 a len (zs.map (Value.int k)) ∧ ∀ n ∈ zs, (Lit.int k n).wf = true

theorem IsRow.length {k : IntKind} {w : World} {a : Option Addr} {len cap : Nat} {zs : List Int} (h : IsRow k w a len cap zs) : zs.length = len := by
  have := h.2.2.1.1
  simpa using this
theorem IsRow.at_ {k : IntKind} {w : World} {a : Option Addr} {len cap : Nat} {zs : List Int} (h : IsRow k w a len cap zs) (hi : 0 < len) : ∃ g o, a = some ⟨g, o, none⟩ ∧ g < w.heap.size ∧ ∀ i (h : i < zs.length), w.cell? ⟨g, o + i, none⟩ = some (.int k zs[i]) := by
  obtain ⟨g, o, ha, hg, hc⟩ := h.2.2.1.2 hi
  exact ⟨g, o, ha, hg, fun i hi => hc i _ (by simp [hi])⟩
theorem IsRow.below {k : IntKind} {w w' : World} {a : Option Addr} {len cap : Nat} {zs : List Int} (h : IsRow k w a len cap zs) (hb : Below w.heap.size w w') : IsRow k w' a len cap zs :=
  ⟨h.1, h.2.1, h.2.2.1.below hb, h.2.2.2⟩

section
variable {H : Type} {enc : TypeId × Value → H} {P : Program} {w : World}
theorem open_row {t e : TypeId} {k : IntKind} {v : Value} {base : Nat} {d : DataW H} {p : List MemPlace} (ht : P.underlying t = some (.slice e)) (he : P.underlying e = some (.int k)) (hC : P.cellsOf e = 1)
    (hv : Value.okWide P w .any base t v) (h : DataW.Trod enc P w 0 (fun _ => true) true t v d p) : ∃ a len cap zs, v = .slice a len cap ∧ IsRow k w a len cap zs := by
  obtain ⟨a0, len0, cap0, rfl⟩ := okWide_slice ht hv
  obtain ⟨fuel, hf⟩ := h
  rcases open_ints ht he hC hf with ⟨hcs, _⟩ | ⟨x, l, c, zs, hcs, _, hl, hm, hz, _, hcell, hwz⟩
  · simp [Value.cells] at hcs
    obtain ⟨rfl, rfl, rfl⟩ := hcs
    exact ⟨_, _, _, [], rfl, Nat.le_refl _, Nat.zero_le _, Rd.nil, by simp⟩
  · simp [Value.cells] at hcs
    obtain ⟨rfl, rfl, rfl⟩ := hcs
    have hz' : zs.length = cap0 := by simpa using hz
    refine ⟨_, _, _, zs.take len0, rfl, hl, hm, ⟨by simp; omega, fun hn => ?_⟩, fun n hn => hwz n (List.mem_of_mem_take hn)⟩
    obtain ⟨g, o, s⟩ := x
    have hc := hcell 0 (by omega)
    have hspot : s = none := by simpa [Addr.add] using World.cell?_spot hc
    subst hspot
    refine ⟨g, o, rfl, by simpa [Addr.add] using World.block_lt_of_cell? w _ hc, fun j u hu => ?_⟩
    have hj : j < zs.length ∧ j < len0 := by
      have := (List.getElem?_eq_some_iff.1 hu).1
      simp at this
      omega
    have hcj := hcell j hj.1
    rw [List.getElem?_map, List.getElem?_take, if_pos hj.2, List.getElem?_eq_getElem hj.1] at hu
    simp only [Option.map_some, Option.some.injEq] at hu
    rw [← hu]
    have e : (⟨g, o, none⟩ : Addr).add j = ⟨g, o + j, none⟩ := by unfold Addr.add; split <;> simp_all
    rw [e] at hcj
    rw [hcj]
    simp [List.getD, hj.1]
end

end Go.Proofs.Ytnmbblkfaoihfaa

namespace Go.Proofs.Ytnmbblkfaoihfaa
open Go.ChangeShapes Go.WideShapes Go.ChangeAt Go.RowKit Go.Deep

theorem add_none (g o j : Nat) : (⟨g, o, none⟩ : Addr).add j = ⟨g, o + j, none⟩ := by unfold Addr.add; split <;> simp_all
theorem flatMap_at' {α : Type} (enc : α → List Value) (size : Nat) (h : ∀ x, (enc x).length = size) (zs : List α) (i j : Nat) (hi : i < zs.length) (hj : j < size) : (zs.flatMap enc)[i * size + j]? = (enc zs[i])[j]? := by
  induction zs generalizing i with
  | nil => simp at hi
  | cons z zs ih =>
    cases i with
    | zero =>
      rw [List.flatMap_cons, List.getElem?_append_left (by rw [h]; omega)]
      simp
    | succ i =>
      rw [List.flatMap_cons, List.getElem?_append_right (by rw [h, Nat.succ_mul]; omega), h, show (i + 1) * size + j - size = i * size + j from by rw [Nat.succ_mul]; omega, ih i (by simpa using hi)]
      simp
theorem flatMap_len' {α : Type} (enc : α → List Value) (size : Nat) (h : ∀ x, (enc x).length = size) (zs : List α) : (zs.flatMap enc).length = zs.length * size := by
  induction zs with
  | nil => simp
  | cons z zs ih => rw [List.flatMap_cons, List.length_append, h, ih, List.length_cons, Nat.succ_mul]; omega

section
variable {H : Type} {enc : TypeId × Value → H} {P : Program} {w : World} {base : Nat} {held : Bool}
theorem choose_list {α : Type} (p : Nat → α → Prop) : ∀ n, (∀ i, i < n → ∃ z, p i z) → ∃ zs : List α, zs.length = n ∧ ∀ i (h : i < zs.length), p i zs[i]
  | 0, _ => ⟨[], rfl, fun i h => absurd h (by simp)⟩
  | n + 1, h => by
    obtain ⟨zs, hl, hz⟩ := choose_list p n (fun i hi => h i (by omega))
    obtain ⟨z, hp⟩ := h n (by omega)
    refine ⟨zs ++ [z], by simp [hl], fun i hi => ?_⟩
    by_cases hin : i < zs.length
    · rw [List.getElem_append_left hin]; exact hz i hin
    · have : i = n := by simp at hi; omega
      subst this
      rw [List.getElem_append_right (by omega)]
      simpa [hl] using hp
/-- A slice, opened: 'hel' opens an element. -/
theorem open_list {α : Type} {t e : TypeId} {size fuel : Nat} {cs : List Value} {x : DataW H × List MemPlace} (ht : P.underlying t = some (.slice e)) (hC : P.cellsOf e = size) (hs : 0 < size) (encE : α → List Value) (Good : α → Prop) (hlen : ∀ z, (encE z).length = size)
    (hel : ∀ n cs x, DataW.trod enc P w base (fun _ => true) held n e cs = some x → (∀ m ∈ x.1.weights P e, m ≤ reachBytes) → ∃ z, cs = encE z ∧ Good z)
    (h : DataW.trod enc P w base (fun _ => true) held fuel t cs = some x) (hw : ∀ m ∈ x.1.weights P t, m ≤ reachBytes) :
    ∃ (A : Option Addr) (c : Nat) (zs : List α), cs = [.slice A zs.length c] ∧ zs.length ≤ c ∧ c * P.bytesOf e ≤ reachBytes ∧ c ≤ maxLen ∧ SlA A c ∧ Rd w size A zs.length (zs.flatMap encE) ∧ ∀ z ∈ zs, Good z := by
  rcases open_slice ht h with ⟨hcs, hx⟩ | ⟨a, len, cap, m, n, D, Pl, hcs, hb, hl, hm, hmm, hx, hi⟩
  · exact ⟨none, 0, [], hcs, Nat.le_refl _, by simp, Nat.zero_le _, .inl rfl, Rd.nil, by simp⟩
  · have hmc : m = cap := by simpa using hmm
    subst hmc
    subst hx
    have hwe : ∀ q, q ∈ DataW.weightsAll P e ((List.range len).map D) → q ≤ reachBytes := fun q hq => hw q (by simp [DataW.weights, ht, hq])
    have hall : ∀ (l : List (DataW H)) (d : DataW H), d ∈ l → ∀ q ∈ d.weights P e, q ∈ DataW.weightsAll P e l := by
      intro l
      induction l with
      | nil => intro d hd; simp at hd
      | cons d' l ih =>
        intro d hd q hq
        rw [DataW.weightsAll]
        rcases List.mem_cons.1 hd with e | e
        · subst e; exact List.mem_append_left _ hq
        · exact List.mem_append_right _ (ih d e q hq)
    rw [hC] at hi
    have hcell : ∀ i, i < m → ∃ cs', w.cells? base (a.add (i * size)) size = some cs' ∧ DataW.trod enc P w base (fun _ => true) held n e cs' = some (D i, Pl i) := hi
    obtain ⟨zs, hzl, hz⟩ := choose_list (fun i (z : α) => w.cells? base (a.add (i * size)) size = some (encE z) ∧ Good z) len (fun i hil => by
      obtain ⟨cs', h1, h2⟩ := hcell i (by omega)
      obtain ⟨z, rfl, hg⟩ := hel n cs' _ h2 (fun q hq => hwe q (hall _ (D i) (List.mem_map.2 ⟨i, by simpa using hil, rfl⟩) q hq))
      exact ⟨z, h1, hg⟩)
    have hspot : 0 < m → ∃ g o, a = ⟨g, o, none⟩ ∧ g < w.heap.size := fun h0 => by
      obtain ⟨cs', h1, _⟩ := hcell 0 h0
      obtain ⟨_, hcl, hat⟩ := World.cells?_some h1
      have h2 := hat 0 hs
      obtain ⟨g, o, s⟩ := a
      have hc0 : cs'[0]? = some (cs'[0]'(by omega)) := List.getElem?_eq_getElem (by omega)
      rw [hc0] at h2
      have e0 : (⟨g, o, s⟩ : Addr).add (0 * size) = ⟨g, o, s⟩ := by cases s <;> simp [Addr.add]
      rw [e0] at h2
      have e1 : (⟨g, o, s⟩ : Addr).add 0 = ⟨g, o, s⟩ := by cases s <;> simp [Addr.add]
      rw [e1] at h2
      have hsp : s = none := by simpa using World.cell?_spot h2
      subst hsp
      exact ⟨g, o, rfl, by simpa using World.block_lt_of_cell? w _ h2⟩
    subst hzl
    refine ⟨some a, m, zs, hcs, hl, ?_, hm, ?_, ⟨flatMap_len' encE size hlen zs, fun h0 => ?_⟩, fun z hzm => ?_⟩
    · have e0 : zs.length + (m - zs.length) = m := by omega
      exact hw (m * P.bytesOf e) (by simp [DataW.weights, ht, e0])
    · by_cases h0 : m = 0
      · exact .inl h0
      · obtain ⟨g, o, rfl, _⟩ := hspot (by omega)
        exact .inr ⟨g, o, rfl⟩
    · obtain ⟨g, o, rfl, hg⟩ := hspot (by omega)
      refine ⟨g, o, rfl, hg, fun j u hu => ?_⟩
      have hj : j < zs.length * size := by
        have := (List.getElem?_eq_some_iff.1 hu).1
        rwa [flatMap_len' encE size hlen] at this
      have hji : j / size < zs.length := by rw [Nat.div_lt_iff_lt_mul hs]; exact hj
      obtain ⟨h1, _⟩ := hz (j / size) hji
      obtain ⟨_, hcl, hat⟩ := World.cells?_some h1
      have h2 := hat (j % size) (Nat.mod_lt _ hs)
      have e1 : j / size * size + j % size = j := by rw [Nat.mul_comm]; exact Nat.div_add_mod j size
      have h3 := flatMap_at' encE size hlen zs (j / size) (j % size) hji (Nat.mod_lt _ hs)
      rw [e1, hu] at h3
      rw [← h3, add_add, e1] at h2
      rwa [add_none] at h2
    · obtain ⟨i, hil, rfl⟩ := List.getElem_of_mem hzm
      exact (hz i hil).2

theorem trod_str {t : TypeId} {fuel : Nat} {cs : List Value} {x : DataW H × List MemPlace} (ht : P.underlying t = some .string) (h : DataW.trod enc P w base (fun _ => true) held fuel t cs = some x) (hw : ∀ m ∈ x.1.weights P t, m ≤ reachBytes) :
    ∃ s : ByteArray, cs = [.string s] ∧ s.size ≤ 140737488351232 := by
  obtain ⟨s, h1, h2, _⟩ := DataW.trod_string ht h
  refine ⟨s, h1, ?_⟩
  have := hw s.data.toList.length (by rw [h2]; simp [DataW.weights])
  unfold reachBytes at this
  have e : s.data.toList.length = s.size := by simp
  omega
theorem trod_i64 {t : TypeId} {fuel : Nat} {cs : List Value} {x : DataW H × List MemPlace} (ht : P.underlying t = some (.int .i64)) (h : DataW.trod enc P w base (fun _ => true) held fuel t cs = some x) : ∃ n : Int, cs = [.int .i64 n] ∧ -9223372036854775808 ≤ n ∧ n ≤ 9223372036854775807 := by
  obtain ⟨n, h1, _, h2⟩ := DataW.trod_int ht h
  exact ⟨n, h1, bounds_i64 h2⟩
theorem open_i64 {t : TypeId} {v : Value} {b0 : Nat} {d : DataW H} {p : List MemPlace} (ht : P.underlying t = some (.int .i64))
    (hv : Value.okWide P w .any b0 t v) (h : DataW.Trod enc P w base (fun _ => true) held t v d p) : ∃ n : Int, v = .int .i64 n ∧ -9223372036854775808 ≤ n ∧ n ≤ 9223372036854775807 := by
  obtain ⟨fuel, hf⟩ := h
  obtain ⟨n, h1, h2⟩ := trod_i64 ht hf
  refine ⟨n, ?_, h2⟩
  obtain ⟨m, rfl⟩ := okWide_int ht hv
  simpa [Value.cells] using h1
/-- The weights of one argument. -/
theorem weights_at {ts : List TypeId} {ds : List (DataW H)} (h : (DataW.weightsEach P ts ds).all (· ≤ reachBytes) = true) {j : Nat} {t : TypeId} {d : DataW H} (ht : ts[j]? = some t) (hd : ds[j]? = some d) : ∀ m ∈ d.weights P t, m ≤ reachBytes := by
  intro m hm
  have := List.all_eq_true.1 h m (DataW.weights_mem_each ht hd m hm)
  simpa using this
end
end Go.Proofs.Ytnmbblkfaoihfaa

namespace Go.Proofs.Ytnmbblkfaoihfaa
open Go.ChangeShapes Go.WideShapes Go.ChangeAt Go.RowKit Go.Deep

section
variable {H : Type} {enc : TypeId × Value → H} {P : Program} {w : World} {base : Nat} {held : Bool}
theorem map_flat : ∀ zs : List Nat, zs.map u8v = zs.flatMap (fun b => [u8v b])
  | [] => rfl
  | z :: zs => by rw [List.map_cons, List.flatMap_cons, map_flat zs]; rfl
/-- Bytes that came in. -/
def IsBy (w : World) (A : Option Addr) (c : Nat) (bs : List Nat) : Prop := bs.length ≤ c ∧ c ≤ 140737488351232 ∧ Rd w 1 A bs.length (bs.map u8v) ∧ (∀ b ∈ bs, b < 256) ∧ SlA A c
theorem IsBy.bs {w : World} {A : Option Addr} {c : Nat} {bs : List Nat} (h : IsBy w A c bs) : Bs w (.slice A bs.length c) bs := ⟨A, c, rfl, h.1, by have := h.2.1; unfold maxLen; omega, h.2.2.1⟩
theorem IsBy.below {w w' : World} {A : Option Addr} {c : Nat} {bs : List Nat} (h : IsBy w A c bs) (b : Below w.heap.size w w') : IsBy w' A c bs := ⟨h.1, h.2.1, h.2.2.1.below b, h.2.2.2⟩
theorem IsBy.frame {w w' : World} {A : Option Addr} {c : Nat} {bs : List Nat} {S : List Nat} (h : IsBy w A c bs) (f : Fr 0 [] S w w') (hS : 0 < bs.length → ∀ a, A = some a → a.block ∉ S) : IsBy w' A c bs := ⟨h.1, h.2.1, h.2.2.1.frame f hS, h.2.2.2⟩

theorem trod_bytes {t e : TypeId} {fuel : Nat} {cs : List Value} {x : DataW H × List MemPlace} (ht : P.underlying t = some (.slice e)) (he : P.underlying e = some (.int .u8)) (hC : P.cellsOf e = 1) (hB : P.bytesOf e = 1)
    (h : DataW.trod enc P w base (fun _ => true) held fuel t cs = some x) (hw : ∀ m ∈ x.1.weights P t, m ≤ reachBytes) : ∃ A c bs, cs = [.slice A bs.length c] ∧ IsBy w A c bs := by
  obtain ⟨A, c, zs, h1, h2, h3, h4, h5, h6, h7⟩ := open_list (α := Nat) ht hC (by omega) (fun b => [u8v b]) (fun b => b < 256) (fun _ => rfl) (fun n cs x hx _ => by
    obtain ⟨z, rfl, _, hz⟩ := DataW.trod_int he hx
    have := bounds_u8 hz
    obtain ⟨m, rfl⟩ : ∃ m : Nat, z = m := ⟨z.toNat, by omega⟩
    exact ⟨m, rfl, by omega⟩) h hw
  rw [hB] at h3
  refine ⟨A, c, zs, h1, h2, by unfold reachBytes at h3; omega, ?_, h7, h5⟩
  rw [map_flat zs]
  exact h6
theorem open_bytes {t e : TypeId} {v : Value} {b0 : Nat} {d : DataW H} {p : List MemPlace} (ht : P.underlying t = some (.slice e)) (he : P.underlying e = some (.int .u8)) (hC : P.cellsOf e = 1) (hB : P.bytesOf e = 1)
    (hv : Value.okWide P w .any b0 t v) (h : DataW.Trod enc P w base (fun _ => true) held t v d p) (hw : ∀ m ∈ d.weights P t, m ≤ reachBytes) : ∃ A c bs, v = .slice A bs.length c ∧ IsBy w A c bs := by
  obtain ⟨a0, len0, cap0, rfl⟩ := okWide_slice ht hv
  obtain ⟨fuel, hf⟩ := h
  obtain ⟨A, c, bs, h1, h2⟩ := trod_bytes ht he hC hB hf hw
  simp [Value.cells] at h1
  obtain ⟨rfl, rfl, rfl⟩ := h1
  exact ⟨_, _, bs, rfl, h2⟩
end
end Go.Proofs.Ytnmbblkfaoihfaa

namespace Go.Proofs.Ytnmbblkfaoihfaa
open Go.ChangeShapes Go.WideShapes Go.ChangeAt Go.RowKit Go.Deep

section
variable {H : Type} {enc : TypeId × Value → H} {w : World} {base : Nat} {held : Bool}
/-- A packet that came in. -/
def OkPk (w : World) (seq ack : Int) (A : Option Addr) (c : Nat) (bs : List Nat) : Prop := (-9223372036854775808 ≤ seq ∧ seq ≤ 9223372036854775807) ∧ (-9223372036854775808 ≤ ack ∧ ack ≤ 9223372036854775807) ∧ IsBy w A c bs
set_option maxRecDepth 100000 in
theorem elPkt {n : Nat} {cs : List Value} {x : DataW H × List MemPlace} (h : DataW.trod enc Try.prog w base (fun _ => true) held n 43 cs = some x) (hw : ∀ m ∈ x.1.weights Try.prog 43, m ≤ reachBytes) :
    ∃ (seq ack : Int) (A : Option Addr) (c : Nat) (bs : List Nat), cs = [.int .i64 seq, .int .i64 ack, .slice A bs.length c] ∧ OkPk w seq ack A c bs := by
  obtain ⟨xs, n', _, hx, hcl, hlen, hg⟩ := DataW.trod_struct Try.underlying43 h
  have hcl' : cs.length = 3 := hcl.trans (by kernel_rfl)
  match cs, hcl', xs, hlen with
  | [c0, c1, c2], _, [y0, y1, y2], _ =>
    have e0 := hg 0 _ rfl
    have e1 := hg 1 _ rfl
    have e2 := hg 2 _ rfl
    obtain ⟨K, e0, hK⟩ := trod_i64 (cs := [c0]) Try.underlying3 (x := y0) e0
    obtain ⟨N, e1, hN⟩ := trod_i64 (cs := [c1]) Try.underlying3 (x := y1) e1
    obtain ⟨A, c, bs, e2, hb⟩ := trod_bytes (cs := [c2]) (x := y2) Try.underlying41 Try.underlying5 (by kernel_rfl) (by kernel_rfl) e2 (fun q hq => hw q (by rw [hx]; simp [DataW.weights, DataW.weightsEach, Try.underlying43]; exact .inr (.inr hq)))
    simp only [List.cons.injEq, and_true] at e0 e1 e2
    exact ⟨K, N, A, c, bs, by simp [e0, e1, e2], hK, hN, hb⟩
set_option maxRecDepth 100000 in
theorem elOp {n : Nat} {cs : List Value} {x : DataW H × List MemPlace} (h : DataW.trod enc Try.prog w base (fun _ => true) held n 57 cs = some x) (hw : ∀ m ∈ x.1.weights Try.prog 57, m ≤ reachBytes) :
    ∃ (kind now seq ack : Int) (A : Option Addr) (c : Nat) (bs : List Nat), cs = [.int .i64 kind, .int .i64 now, .int .i64 seq, .int .i64 ack, .slice A bs.length c] ∧ (-9223372036854775808 ≤ now ∧ now ≤ 9223372036854775807) ∧ OkPk w seq ack A c bs := by
  obtain ⟨xs, n', _, hx, hcl, hlen, hg⟩ := DataW.trod_struct Try.underlying57 h
  have hcl' : cs.length = 5 := hcl.trans (by kernel_rfl)
  match cs, hcl', xs, hlen with
  | [c0, c1, c2, c3, c4], _, [y0, y1, y2], _ =>
    have e0 := hg 0 _ rfl
    have e1 := hg 1 _ rfl
    have e2 := hg 2 _ rfl
    obtain ⟨K, e0, _⟩ := trod_i64 (cs := [c0]) Try.underlying3 (x := y0) e0
    obtain ⟨N, e1, hN⟩ := trod_i64 (cs := [c1]) Try.underlying3 (x := y1) e1
    obtain ⟨seq, ack, A, c, bs, e2, hb⟩ := elPkt (cs := [c2, c3, c4]) (x := y2) e2 (fun q hq => hw q (by rw [hx]; simp [DataW.weights, DataW.weightsEach, Try.underlying57]; exact .inr (.inr hq)))
    simp only [List.cons.injEq, and_true] at e0 e1 e2
    exact ⟨K, N, seq, ack, A, c, bs, by simp [e0, e1, e2], hN, hb⟩
set_option maxRecDepth 100000 in
theorem open_op {v : Value} {b0 : Nat} {d : DataW H} {p : List MemPlace} (hv : Value.okWide Try.prog w .any b0 57 v) (h : DataW.Trod enc Try.prog w base (fun _ => true) held 57 v d p) (hw : ∀ m ∈ d.weights Try.prog 57, m ≤ reachBytes) :
    ∃ (kind now seq ack : Int) (A : Option Addr) (c : Nat) (bs : List Nat), v = .agg #[.int .i64 kind, .int .i64 now, .int .i64 seq, .int .i64 ack, .slice A bs.length c] ∧ (-9223372036854775808 ≤ now ∧ now ≤ 9223372036854775807) ∧ OkPk w seq ack A c bs := by
  obtain ⟨cs, rfl, _⟩ := okWide_struct Try.underlying57 hv
  obtain ⟨fuel, hf⟩ := h
  obtain ⟨kind, now, seq, ack, A, c, bs, e, h1⟩ := elOp hf hw
  refine ⟨kind, now, seq, ack, A, c, bs, ?_, h1⟩
  have : cs = #[.int .i64 kind, .int .i64 now, .int .i64 seq, .int .i64 ack, .slice A bs.length c] := by
    obtain ⟨l⟩ := cs
    simp only [Value.cells] at e
    rw [← e]
  rw [this]
end
end Go.Proofs.Ytnmbblkfaoihfaa

namespace Go.Proofs.Ytnmbblkfaoihfaa
open Go.RowKit

theorem fr_belowP {w w' : World} {B p : Nat} {G : Option Nat} (f : Fr 0 [] (p :: G.toList) w w') (hp : B ≤ p) (hG : ∀ g, G = some g → B ≤ g) (hB : B ≤ w.heap.size) : Below B w w' :=
  ⟨f.os, f.tape, f.output, f.size, fun k hk => f.block k (by omega) (.inr ⟨fun _ _ _ _ => by simp, fun hm => by
    rcases List.mem_cons.1 hm with e | e
    · omega
    · have := hG k (by simpa using e); omega⟩)⟩
theorem IsE.gcell {W : World} {T TE : TypeId} {p : Nat} {G : Option Nat} {s : LSt} (h : IsE W T TE p G s) : (∃ cs, W.heap[p]? = some (.cells cs TE (0, 0))) ∧ ∀ g, G = some g → ∃ cs, W.heap[g]? = some (.cells cs T (0, 0)) := by
  obtain ⟨v, h1, zs, _, h2, h3, _⟩ := h
  exact ⟨⟨_, h1⟩, fun g hg => (own_block h2 (by rw [h3]; exact hg)).2⟩
/-- All stays but items and ends. -/
def KeepT (W W' : World) : Prop := KeepsB W W' ∧ ∀ (k : Nat) (cs : Array Value) (T : TypeId) (fz : Nat × Nat), W.heap[k]? = some (.cells cs T fz) → T ≠ 84 → T ≠ 80 → T ≠ 91 → T ≠ 55 → W'.heap[k]? = some (.cells cs T fz)
theorem KeepT.below {W W' : World} (h : Below W.heap.size W W') : KeepT W W' := ⟨KeepsB.below h, fun k _ _ _ hk _ _ _ _ => (h.block k (lt_of_block hk)).trans hk⟩
theorem KeepT.trans {A B C : World} (h : KeepT A B) (k : KeepT B C) : KeepT A C := ⟨h.1.trans k.1, fun j _ _ _ hj h1 h2 h3 h4 => k.2 j _ _ _ (h.2 j _ _ _ hj h1 h2 h3 h4) h1 h2 h3 h4⟩
theorem KeepT.pk {W W' : World} (h : KeepT W W') {v : Value} {k : LPk} (hp : IsP W v k) : IsP W' v k := by
  obtain ⟨bv, h1, h2⟩ := hp
  exact ⟨bv, h1, h.1 _ _ h2⟩
theorem KeepT.cells {W W' : World} (h : KeepT W W') {k : Nat} {cs : Array Value} {fz : Nat × Nat} (hk : W.heap[k]? = some (.cells cs 43 fz)) : W'.heap[k]? = some (.cells cs 43 fz) := h.2 k _ _ _ hk (by decide) (by decide) (by decide) (by decide)
theorem KeepT.op {W W' : World} (h : KeepT W W') {k : Nat} {cs : Array Value} {fz : Nat × Nat} (hk : W.heap[k]? = some (.cells cs 57 fz)) : W'.heap[k]? = some (.cells cs 57 fz) := h.2 k _ _ _ hk (by decide) (by decide) (by decide) (by decide)
theorem KeepT.pks {W W' : World} (h : KeepT W W') {B : Nat} {v : Value} {l : List LPk} (hp : IsPs B W v l) : IsPs B W' v l := by
  obtain ⟨zs, h1, h2, h3⟩ := hp
  refine ⟨zs, h1, ?_, fun z hz => h.1 _ _ (h3 z hz)⟩
  refine ⟨h2.1, ?_⟩
  rcases h2.2 with e | ⟨g, cap, cur, e1, e2, e3, e4⟩
  · exact .inl e
  · exact .inr ⟨g, cap, cur, e1, e2, h.cells e3, e4⟩

/-- Both ends, each come since w. -/
def Two (w : World) (p q : Nat) (s r : LSt) (W : World) : Prop :=
  ∃ G H, IsE W 84 80 p G s ∧ IsX W q H r ∧ w.heap.size ≤ p ∧ w.heap.size ≤ q ∧ (∀ g, G = some g → w.heap.size ≤ g) ∧ (∀ g, H = some g → w.heap.size ≤ g) ∧ Below w.heap.size w W
theorem Two.keep {w W W' : World} {p q : Nat} {s r : LSt} (h : Two w p q s r W) (hb : Below W.heap.size W W') : Two w p q s r W' := by
  obtain ⟨G, H, h1, h2, h3, h4, h5, h6, h7⟩ := h
  exact ⟨G, H, h1.below hb, h2.below hb, h3, h4, h5, h6, h7.trans (hb.mono h7.size)⟩
theorem Two.below {w W : World} {p q : Nat} {s r : LSt} (h : Two w p q s r W) : Below w.heap.size w W := by
  obtain ⟨G, H, h1, h2, h3, h4, h5, h6, h7⟩ := h
  exact h7
/-- What a call on one of two ends leaves of both. -/
theorem two_step {w W W' : World} {T TE T' TE' : TypeId} {p q : Nat} {G G' H : Option Nat} {s s' r : LSt} (h : IsE W T TE p G s) (k : IsE W T' TE' q H r) (n1 : TE ≠ TE') (n2 : T ≠ TE') (n3 : TE ≠ T') (n4 : T ≠ T') (u1 : T ≠ 5) (u2 : TE ≠ 5)
    (hp : w.heap.size ≤ p) (hG : ∀ g, G = some g → w.heap.size ≤ g) (hb : Below w.heap.size w W) (hE : IsE W' T TE p G' s') (hF : Fr 0 [] (p :: G.toList) W W') (hG' : ∀ g, G' = some g → G = some g ∨ W.heap.size ≤ g) :
    IsE W' T' TE' q H r ∧ (∀ g, G' = some g → w.heap.size ≤ g) ∧ Below w.heap.size w W' ∧ KeepsB W W' ∧ ∀ (k : Nat) (cs : Array Value) (t : TypeId) (fz : Nat × Nat), W.heap[k]? = some (.cells cs t fz) → t ≠ T → t ≠ TE → W'.heap[k]? = some (.cells cs t fz) := by
  obtain ⟨⟨c1, hc1⟩, hc2⟩ := h.gcell
  obtain ⟨⟨c3, hc3⟩, hc4⟩ := k.gcell
  have hk := h.keeps u1 u2 hF
  refine ⟨k.keepS hF ?_ ?_ hk, ?_, hb.trans (fr_belowP hF hp hG hb.size), hk, ?_⟩
  · intro hm
    rcases List.mem_cons.1 hm with e | e
    · exact block_ne hc1 hc3 n1 e.symm
    · obtain ⟨c, hc⟩ := hc2 q (by simpa using e)
      exact block_ne hc hc3 n2 rfl
  · intro g hg hm
    obtain ⟨c, hc⟩ := hc4 g hg
    rcases List.mem_cons.1 hm with e | e
    · exact block_ne hc1 hc n3 e.symm
    · obtain ⟨c5, hc5⟩ := hc2 g (by simpa using e)
      exact block_ne hc5 hc n4 rfl
  · intro g hg
    rcases hG' g hg with e | e
    · exact hG g e
    · have := hb.size; omega
  · intro j cs t fz hj e1 e2
    refine (hF.block j (lt_of_block hj) (.inr ⟨fun _ _ _ _ => by simp, fun hm => ?_⟩)).trans hj
    rcases List.mem_cons.1 hm with e | e
    · subst e
      rw [hc1] at hj
      injection hj with hj
      injection hj with _ hj _
      exact e2 hj.symm
    · obtain ⟨c, hc⟩ := hc2 j (by simpa using e)
      rw [hc] at hj
      injection hj with hj
      injection hj with _ hj _
      exact e1 hj.symm
theorem Two.callE {w W : World} {p q : Nat} {s s' r : LSt} {f : FuncId} {args : Array Value} {R : Ending → World → Prop} (h : Two w p q s r W)
    (hc : ∀ G, IsE W 84 80 p G s → w.heap.size ≤ p → (∀ g, G = some g → w.heap.size ≤ g) → Calls Try.prog f args W (RetE 84 80 p G R s' W)) :
    Calls Try.prog f args W fun e W' => R e W' ∧ Two w p q s' r W' ∧ KeepT W W' := by
  obtain ⟨G, H, h1, h2, h3, h4, h5, h6, h7⟩ := h
  refine (hc G h1 h3 h5).mono fun e W' ⟨G', hR, hE, hF, hG⟩ => ?_
  obtain ⟨k1, k2, k3, k4, k5⟩ := two_step h1 h2 (by decide) (by decide) (by decide) (by decide) (by decide) (by decide) h3 h5 h7 hE hF (fun g hg => by
    rcases hG with e | ⟨g', e, hg'⟩
    · exact .inl (by rw [← e]; exact hg)
    · rw [e] at hg
      injection hg with hg
      subst hg
      exact .inr hg')
  exact ⟨hR, ⟨G', H, hE, k1, h3, h4, k2, h6, k3⟩, k4, fun k cs T fz hk e1 e2 _ _ => k5 k cs T fz hk e1 e2⟩
theorem Two.callX {w W : World} {p q : Nat} {s r r' : LSt} {f : FuncId} {args : Array Value} {R : Ending → World → Prop} (h : Two w p q s r W)
    (hc : ∀ H, IsX W q H r → w.heap.size ≤ q → (∀ g, H = some g → w.heap.size ≤ g) → Calls Try.prog f args W (RetX q H R r' W)) :
    Calls Try.prog f args W fun e W' => R e W' ∧ Two w p q s r' W' ∧ KeepT W W' := by
  obtain ⟨G, H, h1, h2, h3, h4, h5, h6, h7⟩ := h
  refine (hc H h2 h4 h6).mono fun e W' ⟨H', hR, hE, hF, hG⟩ => ?_
  obtain ⟨k1, k2, k3, k4, k5⟩ := two_step h2 h1 (by decide) (by decide) (by decide) (by decide) (by decide) (by decide) h4 h6 h7 hE hF hG
  exact ⟨hR, ⟨G, H', k1, hE, h3, h4, h5, k2, k3⟩, k4, fun k cs T fz hk _ _ e1 e2 => k5 k cs T fz hk e1 e2⟩
theorem Two.far {w W W' : World} {p q n : Nat} {s r : LSt} {cs : Array Value} {TP : TypeId} {fz : Nat × Nat} (h : Two w p q s r W) (f : Fr 0 [] [n] W W') (hn : W.heap[n]? = some (.cells cs TP fz)) (u1 : TP ≠ 5) (u2 : TP ≠ 84) (u3 : TP ≠ 80) (u4 : TP ≠ 91) (u5 : TP ≠ 55) (hb : w.heap.size ≤ n) : Two w p q s r W' := by
  obtain ⟨G, H, h1, h2, h3, h4, h5, h6, h7⟩ := h
  refine ⟨G, H, h1.far f hn u1 u2 u3, h2.far f hn u1 u4 u5, h3, h4, h5, h6, h7.trans ⟨f.os, f.tape, f.output, f.size, fun k hk => f.block k (by have := h7.size; omega) (.inr ⟨fun _ _ _ _ => by simp, by simp; omega⟩)⟩⟩
theorem IsPs.low {B : Nat} {W : World} {v : Value} {l : List LPk} (h : IsPs B W v l) : IsPs 0 W v l := by
  obtain ⟨zs, h1, h2, h3⟩ := h
  exact ⟨zs, h1, own_low h2 (Nat.zero_le _), h3⟩
/-- Bytes that came in are read whatever an end turns. -/
theorem by_in {w W : World} {A : Option Addr} {c : Nat} {bs : List Nat} (hin : IsBy w A c bs) (hb : Below w.heap.size w W) {p : Nat} {G : Option Nat} (hp : w.heap.size ≤ p) (hG : ∀ g, G = some g → w.heap.size ≤ g) : ∀ W', Fr 0 [] (p :: G.toList) W W' → Bs W' (.slice A bs.length c) bs := fun _ f =>
  (hin.below (hb.trans (fr_belowP f hp hG hb.size))).bs
theorem Two.send {w W : World} {p q : Nat} {s r : LSt} (h : Two w p q s r W) (A : Option Addr) (c : Nat) (bs : List Nat) (now : Int) (hb : ByO W (.slice A bs.length c) bs) (hs : 0 ≤ s.sent ∧ s.sent < 9223372036854775807) (hnow : -9223372036854775808 ≤ now ∧ now ≤ 9223372036854775807) :
    Calls Try.prog 19 #[.pointer (some ⟨p, 0, none⟩), .slice A bs.length c, .int .i64 now] W fun e W' => (∃ v, e = .returned (.tuple #[v, .int .i64 (sendE s bs)]) ∧ IsP W' v (sendP s bs)) ∧ Two w p q (sendS s bs now) r W' ∧ KeepT W W' :=
  h.callE fun G hE _ _ => lsend_any p G s A c bs now W hE (hE.hbs (by decide) (by decide) hb) hb.2 hs hnow
theorem Two.xsend {w W : World} {p q : Nat} {s r : LSt} (h : Two w p q s r W) (A : Option Addr) (c : Nat) (bs : List Nat) (now : Int) (hb : IsBy w A c bs) (hs : 0 ≤ r.sent ∧ r.sent < 9223372036854775807) (hnow : -9223372036854775808 ≤ now ∧ now ≤ 9223372036854775807) :
    Calls Try.prog 22 #[.pointer (some ⟨q, 0, none⟩), .slice A bs.length c, .int .i64 now] W fun e W' => (∃ v, e = .returned (.tuple #[v, .int .i64 (sendE r bs)]) ∧ IsP W' v (sendP r bs)) ∧ Two w p q s (sendS r bs now) W' ∧ KeepT W W' :=
  h.callX fun H hE hq hH => rsend_any q H r A c bs now W hE (by_in hb h.below hq hH) hb.2.2.2.1 hs hnow
theorem Two.tick {w W : World} {p q : Nat} {s r : LSt} (h : Two w p q s r W) (now : Int) (hn : s.l.length ≤ 1048576) (hI : ∀ x ∈ s.l, 0 ≤ x.tries ∧ x.tries < 9223372036854775807 ∧ x.body.length ≤ 140737488351232) (hnow : -9223372036854775808 ≤ now ∧ now ≤ 9223372036854775807) :
    Calls Try.prog 21 #[.pointer (some ⟨p, 0, none⟩), .int .i64 now] W fun e W' => (∃ v, e = .returned v ∧ IsPs W.heap.size W' v (tickP s now)) ∧ Two w p q (tickS s now) r W' ∧ KeepT W W' :=
  h.callE fun G hE _ _ => ltick_any p G s now W hE hn hI hnow
theorem Two.xtick {w W : World} {p q : Nat} {s r : LSt} (h : Two w p q s r W) (now : Int) (hn : r.l.length ≤ 1048576) (hI : ∀ x ∈ r.l, 0 ≤ x.tries ∧ x.tries < 9223372036854775807) (hnow : -9223372036854775808 ≤ now ∧ now ≤ 9223372036854775807) :
    Calls Try.prog 24 #[.pointer (some ⟨q, 0, none⟩), .int .i64 now] W fun e W' => (∃ v, e = .returned v ∧ IsPs W.heap.size W' v (tickP r now)) ∧ Two w p q s (tickS r now) W' ∧ KeepT W W' :=
  h.callX fun H hE _ _ => rtick_any q H r now W hE hn hI hnow
theorem Two.on {w W : World} {p q : Nat} {s r : LSt} (h : Two w p q s r W) (k : LPk) (A : Option Addr) (c : Nat) (hb : IsBy w A c k.body) (hl : k.body.length ≤ 9223372036854775807) (hmk : 0 ≤ s.mark ∧ s.mark < 9223372036854775807) :
    Calls Try.prog 20 #[.pointer (some ⟨p, 0, none⟩), .agg #[.int .i64 k.seq, .int .i64 k.ack, .slice A k.body.length c]] W fun e W' => (∃ bv v3, e = .returned (.tuple #[bv, .bool (onI s k), v3]) ∧ ByO W' bv (onB s k) ∧ IsP W' v3 (onP s k)) ∧ Two w p q (onS s k) r W' ∧ KeepT W W' :=
  h.callE fun G hE hp hG => lon_any p G s k A c W hE hl hmk (by_in hb h.below hp hG) hb.2.2.2.1
theorem Two.xon {w W : World} {p q : Nat} {s r : LSt} (h : Two w p q s r W) (k : LPk) (A : Option Addr) (c : Nat) (hb : IsBy w A c k.body) (hl : k.body.length ≤ 9223372036854775807) (hn : r.l.length ≤ 1048576) (hmk : 0 ≤ r.mark ∧ r.mark < 9223372036854775807) :
    Calls Try.prog 25 #[.pointer (some ⟨q, 0, none⟩), .agg #[.int .i64 k.seq, .int .i64 k.ack, .slice A k.body.length c]] W fun e W' => (∃ bv v3, e = .returned (.tuple #[bv, .bool (onI r k), v3]) ∧ Bs W' bv (onB r k) ∧ IsP W' v3 (onP r k)) ∧ Two w p q s (onS r k) W' ∧ KeepT W W' :=
  h.callX fun H hE hq hH => ron_any q H r k A c W hE hl hn hmk (by_in hb h.below hq hH) hb.2.2.2.1
/-- What the law's calls answer of the end. -/
theorem Two.open_ {w W : World} {p q : Nat} {s r : LSt} (h : Two w p q s r W) : Calls Try.prog 15 #[.pointer (some ⟨p, 0, none⟩)] W fun e W' => e = .returned (.int .i64 s.l.length) ∧ W = W' := by
  obtain ⟨G, H, h1, _⟩ := h
  exact lopen_any p G s W h1
theorem Two.mark {w W : World} {p q : Nat} {s r : LSt} (h : Two w p q s r W) : Calls Try.prog 26 #[.pointer (some ⟨p, 0, none⟩)] W fun e W' => e = .returned (.int .i64 s.mark) ∧ W = W' := by
  obtain ⟨G, H, h1, _⟩ := h
  exact lmark_any p G s W h1
theorem Two.sent {w W : World} {p q : Nat} {s r : LSt} (h : Two w p q s r W) : Calls Try.prog 27 #[.pointer (some ⟨p, 0, none⟩)] W fun e W' => e = .returned (.int .i64 s.sent) ∧ W = W' := by
  obtain ⟨G, H, h1, _⟩ := h
  exact lsent_any p G s W h1
/-- The reference's end lies in one block. -/
theorem Two.cells {w W : World} {p q : Nat} {s r : LSt} (h : Two w p q s r W) : ∃ A c, W.heap[q]? = some (.cells #[.slice A r.l.length c, .int .i64 r.sent, .int .i64 r.mark] 55 (0, 0)) := by
  obtain ⟨_, _, _, ⟨v, h1, zs, _, h2, _⟩, _⟩ := h
  obtain ⟨A, c, rfl, _⟩ := own_slice h2
  exact ⟨A, c, h1⟩

/-- What holds of an end behind i calls. -/
def InvL (s : LSt) (i : Int) : Prop := 0 ≤ s.sent ∧ s.sent ≤ i ∧ 0 ≤ s.mark ∧ s.mark ≤ i ∧ s.l.length ≤ 64 ∧ ∀ x ∈ s.l, 0 ≤ x.tries ∧ x.tries ≤ i + 1 ∧ x.body.length ≤ 2048
theorem InvL.next {s : LSt} {i : Int} (h : InvL s i) : InvL s (i + 1) := by
  obtain ⟨h1, h2, h3, h4, h5, h6⟩ := h
  exact ⟨h1, by omega, h3, by omega, h5, fun x hx => by have := h6 x hx; omega⟩
theorem InvL.send {s : LSt} {i : Int} (h : InvL s i) (bs : List Nat) (now : Int) : InvL (sendS s bs now) (i + 1) := by
  have h' := h.next
  unfold sendS
  split
  · rename_i he
    obtain ⟨h1, h2, h3, h4, h5, h6⟩ := h
    have hb : bs.length ≤ 2048 ∧ s.l.length < 64 := by
      unfold sendE at he
      split at he
      · cases he
      · split at he
        · cases he
        · omega
    refine ⟨by simp only []; omega, by simp only []; omega, h3, by simp only []; omega, by simp; omega, fun x hx => ?_⟩
    rcases List.mem_append.1 hx with hx | hx
    · have := h6 x hx; omega
    · simp at hx
      subst hx
      exact ⟨by simp, by simp only []; omega, hb.1⟩
  · exact h'
theorem InvL.tick {s : LSt} {i : Int} (h : InvL s i) (now : Int) : InvL (tickS s now) (i + 1) := by
  obtain ⟨h1, h2, h3, h4, h5, h6⟩ := h
  refine ⟨h1, by simp only [tickS]; omega, h3, by simp only [tickS]; omega, by simpa [tickS] using h5, fun x hx => ?_⟩
  simp only [tickS, List.mem_map] at hx
  obtain ⟨y, hy, rfl⟩ := hx
  have := h6 y hy
  unfold tickI
  split
  · exact ⟨by simp only []; omega, by simp only []; omega, this.2.2⟩
  · omega
theorem InvL.on {s : LSt} {i : Int} (h : InvL s i) (k : LPk) : InvL (onS s k) (i + 1) := by
  have h' := h.next
  unfold onS
  split
  · obtain ⟨h1, h2, h3, h4, h5, h6⟩ := h'
    obtain ⟨g1, g2, g3, g4, g5, g6⟩ := h
    refine ⟨h1, h2, ?_, ?_, Nat.le_trans (List.length_filter_le _ _) h5, fun x hx => h6 x (List.mem_filter.1 hx).1⟩
    · simp only []; split <;> omega
    · simp only []; split <;> omega
  · exact h'
end Go.Proofs.Ytnmbblkfaoihfaa
