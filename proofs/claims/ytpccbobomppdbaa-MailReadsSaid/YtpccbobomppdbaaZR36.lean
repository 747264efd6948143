/- Joined: The reference's Decode of a mail. From a walk to a row's statement, and how arguments that came in are opened. How arguments that came in are opened: slices of whatever elements, element by element; numbers; texts; their sizes. How arguments that came in are opened: bytes. The law MailReads: the walk. -/
import Derived.Test.YtpccbobomppdbaaZR33
import Derived.Test.YtpccbobomppdbaaZR34
import Derived.Test.YtpccbobomppdbaaZR35
import Derived.Test.YtpccbobomppdbaaRows
import Derived.Test.YtpccbobomppdbaaZR1
import Derived.ProofKit
import Derived.OpenShut
import Derived.ShutString
import Derived.ChangeOld
import Derived.Deep.Slices
import Derived.Deep.Fields
import Derived.Test.YtpccbobomppdbaaZR14
import Derived.SizedLaws
import Derived.Test.YtpccbobomppdbaaZR25
namespace Go.Proofs.Ytpccbobomppdbaa
open Go.RowKit

theorem xmdec_any (A : Option Addr) (c : Nat) (bs : List Nat) (w : World) (h1 : bs.length ≤ c) (h2 : c ≤ maxLen) (h3 : Rd w 1 A bs.length (bs.map u8v)) (h4 : ∀ b ∈ bs, b < 256) (h5 : SlA A c) :
    Calls Try.prog 18 #[.slice A bs.length c] w (RetDecY w (unXM bs)) := by
  cases hy : hasM (kindM (bs, false)) 121 with
  | false => exact xmdec_A A c bs w h1 h2 h3 h4 h5 hy
  | true =>
    cases ha : hasM (kindM (bs, false)) 97 with
    | false => exact xmdec_B A c bs w h1 h2 h3 h4 h5 hy ha
    | true => exact xmdec_C A c bs w h1 h2 h3 h4 h5 hy ha
end Go.Proofs.Ytpccbobomppdbaa

namespace Go.Proofs.Ytpccbobomppdbaa
open Go.ChangeShapes Go.WideShapes Go.ChangeAt Go.RowKit Go.Deep

theorem own : ownKnob Try.prog.godebug = none := by kernel_rfl
theorem laidOut : laidOutB Try.prog = true := by kernel_rfl

section
variable {H : Type} {enc : TypeId × Value → H} {P : Program}
theorem trodAll_below (hl : laidOutB P = true) {W W' : World} (hb : Below W.heap.size W W') : ∀ (ts : List TypeId), (∀ t ∈ ts, P.readableRec t = true ∧ t < P.types.size) → ∀ (vs : List Value) (ds : List (DataW H)) (ps : List MemPlace),
    DataW.TrodAll enc P W 0 (fun _ => true) true ts vs ds ps → (∀ x ∈ ps, x.block < W.heap.size) → DataW.TrodAll enc P W' 0 (fun b => decide (b < W.heap.size)) true ts vs ds ps
  | [], _, [], [], _, h, _ => h
  | [], _, _ :: _, _, _, h, _ => h.elim
  | [], _, [], _ :: _, _, h, _ => h.elim
  | _ :: _, _, [], _, _, h, _ => h.elim
  | _ :: _, _, _ :: _, [], _, h, _ => h.elim
  | t :: ts, hts, v :: vs, d :: ds, ps, h, hlt => by
    obtain ⟨p, q, h1, h2, rfl⟩ := h
    obtain ⟨hr, hrow⟩ := hts t (by simp)
    exact ⟨p, q, Below.trod hl hr hrow h1 hb (fun x hx => hlt x (by simp [hx])), trodAll_below hl hb ts (fun t ht => hts t (by simp [ht])) vs ds q h2 (fun x hx => hlt x (by simp [hx])), rfl⟩

/-- What a law owes behind its walk: it answered true, and nothing that was there has turned. -/
theorem post_true (hl : laidOutB P = true) {f : Func} {s : ChangeSpec} {W W' : World} {args : Array Value} {ds gs : List (DataW H)} {before : List MemPlace} {tb : TypeId}
    (hts : ∀ t ∈ f.params.toList, P.readableRec t = true ∧ t < P.types.size) (hrt : f.resultTypes = #[tb]) (hb : P.underlying tb = some .bool) (hvars : s.vars = [])
    (hres : (s.fn H (ds ++ gs)).results = [.lit (.bool true)]) (hargs : (s.fn H (ds ++ gs)).args = ds) (hsv : (s.fn H (ds ++ gs)).vars = [])
    (hW : DataW.Whole enc P f.params.toList s.vars false W args.toList ds gs before) (bel : Below W.heap.size W W') :
    s.post enc P f false true false false W args (.bool true) W' := by
  have hW' := hW
  obtain ⟨p, q, hA, hV, hpq, _⟩ := hW
  rw [hvars] at hV
  have hlt := hW'.lt
  obtain ⟨rfl, rfl⟩ := trodVars_none hV
  refine ⟨ds, [], before, [], p, [], hW', ?_, ?_, ?_, bel.frame _, fun h => by cases h⟩
  · rw [hres, hrt]
    exact trodAll_mk1 (shut_bool hb _)
  · rw [hargs]
    exact trodAll_below hl bel _ hts _ _ _ hA (fun x hx => hlt x (by rw [hpq]; simp [hx]))
  · rw [hvars, hsv]
    exact rfl
end

/-- A slice of integers that came in. -/
def IsRow (k : IntKind) (w : World) (a : Option Addr) (len cap : Nat) (zs : List Int) : Prop :=
  len ≤ cap ∧ cap ≤ maxLen ∧ Rd w 1 a len (zs.map (Value.int k)) ∧ ∀ n ∈ zs, (Lit.int k n).wf = true

theorem IsRow.length {k : IntKind} {w : World} {a : Option Addr} {len cap : Nat} {zs : List Int} (h : IsRow k w a len cap zs) : zs.length = len := by
  have := h.2.2.1.1
  simpa using this
theorem IsRow.at_ {k : IntKind} {w : World} {a : Option Addr} {len cap : Nat} {zs : List Int} (h : IsRow k w a len cap zs) (hi : 0 < len) : ∃ g o, a = some ⟨g, o, none⟩ ∧ g < w.heap.size ∧ ∀ i (h : i < zs.length), w.cell? ⟨g, o + i, none⟩ = some (.int k zs[i]) := by
  obtain ⟨g, o, ha, hg, hc⟩ := h.2.2.1.2 hi
  exact ⟨g, o, ha, hg, fun i hi => hc i _ (by simp [hi])⟩
theorem IsRow.below {k : IntKind} {w w' : World} {a : Option Addr} {len cap : Nat} {zs : List Int} (h : IsRow k w a len cap zs) (hb : Below w.heap.size w w') : IsRow k w' a len cap zs :=
  ⟨h.1, h.2.1, h.2.2.1.below hb, h.2.2.2⟩

section
variable {H : Type} {enc : TypeId × Value → H} {P : Program} {w : World}
theorem open_row {t e : TypeId} {k : IntKind} {v : Value} {base : Nat} {d : DataW H} {p : List MemPlace} (ht : P.underlying t = some (.slice e)) (he : P.underlying e = some (.int k)) (hC : P.cellsOf e = 1)
    (hv : Value.okWide P w .any base t v) (h : DataW.Trod enc P w 0 (fun _ => true) true t v d p) : ∃ a len cap zs, v = .slice a len cap ∧ IsRow k w a len cap zs := by
  obtain ⟨a0, len0, cap0, rfl⟩ := okWide_slice ht hv
  obtain ⟨fuel, hf⟩ := h
  rcases open_ints ht he hC hf with ⟨hcs, _⟩ | ⟨x, l, c, zs, hcs, _, hl, hm, hz, _, hcell, hwz⟩
  · simp [Value.cells] at hcs
    obtain ⟨rfl, rfl, rfl⟩ := hcs
    exact ⟨_, _, _, [], rfl, Nat.le_refl _, Nat.zero_le _, Rd.nil, by simp⟩
  · simp [Value.cells] at hcs
    obtain ⟨rfl, rfl, rfl⟩ := hcs
    have hz' : zs.length = cap0 := by simpa using hz
    refine ⟨_, _, _, zs.take len0, rfl, hl, hm, ⟨by simp; omega, fun hn => ?_⟩, fun n hn => hwz n (List.mem_of_mem_take hn)⟩
    obtain ⟨g, o, s⟩ := x
    have hc := hcell 0 (by omega)
    have hspot : s = none := by simpa [Addr.add] using World.cell?_spot hc
    subst hspot
    refine ⟨g, o, rfl, by simpa [Addr.add] using World.block_lt_of_cell? w _ hc, fun j u hu => ?_⟩
    have hj : j < zs.length ∧ j < len0 := by
      have := (List.getElem?_eq_some_iff.1 hu).1
      simp at this
      omega
    have hcj := hcell j hj.1
    rw [List.getElem?_map, List.getElem?_take, if_pos hj.2, List.getElem?_eq_getElem hj.1] at hu
    simp only [Option.map_some, Option.some.injEq] at hu
    rw [← hu]
    have e : (⟨g, o, none⟩ : Addr).add j = ⟨g, o + j, none⟩ := by unfold Addr.add; split <;> simp_all
    rw [e] at hcj
    rw [hcj]
    simp [List.getD, hj.1]
end

end Go.Proofs.Ytpccbobomppdbaa

namespace Go.Proofs.Ytpccbobomppdbaa
open Go.ChangeShapes Go.WideShapes Go.ChangeAt Go.RowKit Go.Deep

theorem add_none (g o j : Nat) : (⟨g, o, none⟩ : Addr).add j = ⟨g, o + j, none⟩ := by unfold Addr.add; split <;> simp_all
theorem flatMap_at' {α : Type} (enc : α → List Value) (size : Nat) (h : ∀ x, (enc x).length = size) (zs : List α) (i j : Nat) (hi : i < zs.length) (hj : j < size) : (zs.flatMap enc)[i * size + j]? = (enc zs[i])[j]? := by
  induction zs generalizing i with
  | nil => simp at hi
  | cons z zs ih =>
    cases i with
    | zero =>
      rw [List.flatMap_cons, List.getElem?_append_left (by rw [h]; omega)]
      simp
    | succ i =>
      rw [List.flatMap_cons, List.getElem?_append_right (by rw [h, Nat.succ_mul]; omega), h, show (i + 1) * size + j - size = i * size + j from by rw [Nat.succ_mul]; omega, ih i (by simpa using hi)]
      simp
theorem flatMap_len' {α : Type} (enc : α → List Value) (size : Nat) (h : ∀ x, (enc x).length = size) (zs : List α) : (zs.flatMap enc).length = zs.length * size := by
  induction zs with
  | nil => simp
  | cons z zs ih => rw [List.flatMap_cons, List.length_append, h, ih, List.length_cons, Nat.succ_mul]; omega

section
variable {H : Type} {enc : TypeId × Value → H} {P : Program} {w : World} {base : Nat} {held : Bool}
theorem choose_list {α : Type} (p : Nat → α → Prop) : ∀ n, (∀ i, i < n → ∃ z, p i z) → ∃ zs : List α, zs.length = n ∧ ∀ i (h : i < zs.length), p i zs[i]
  | 0, _ => ⟨[], rfl, fun i h => absurd h (by simp)⟩
  | n + 1, h => by
    obtain ⟨zs, hl, hz⟩ := choose_list p n (fun i hi => h i (by omega))
    obtain ⟨z, hp⟩ := h n (by omega)
    refine ⟨zs ++ [z], by simp [hl], fun i hi => ?_⟩
    by_cases hin : i < zs.length
    · rw [List.getElem_append_left hin]; exact hz i hin
    · have : i = n := by simp at hi; omega
      subst this
      rw [List.getElem_append_right (by omega)]
      simpa [hl] using hp
/-- A slice, opened: 'hel' opens an element. -/
theorem open_list {α : Type} {t e : TypeId} {size fuel : Nat} {cs : List Value} {x : DataW H × List MemPlace} (ht : P.underlying t = some (.slice e)) (hC : P.cellsOf e = size) (hs : 0 < size) (encE : α → List Value) (Good : α → Prop) (hlen : ∀ z, (encE z).length = size)
    (hel : ∀ n cs x, DataW.trod enc P w base (fun _ => true) held n e cs = some x → (∀ m ∈ x.1.weights P e, m ≤ reachBytes) → ∃ z, cs = encE z ∧ Good z)
    (h : DataW.trod enc P w base (fun _ => true) held fuel t cs = some x) (hw : ∀ m ∈ x.1.weights P t, m ≤ reachBytes) :
    ∃ (A : Option Addr) (c : Nat) (zs : List α), cs = [.slice A zs.length c] ∧ zs.length ≤ c ∧ c * P.bytesOf e ≤ reachBytes ∧ c ≤ maxLen ∧ SlA A c ∧ Rd w size A zs.length (zs.flatMap encE) ∧ ∀ z ∈ zs, Good z := by
  rcases open_slice ht h with ⟨hcs, hx⟩ | ⟨a, len, cap, m, n, D, Pl, hcs, hb, hl, hm, hmm, hx, hi⟩
  · exact ⟨none, 0, [], hcs, Nat.le_refl _, by simp, Nat.zero_le _, .inl rfl, Rd.nil, by simp⟩
  · have hmc : m = cap := by simpa using hmm
    subst hmc
    subst hx
    have hwe : ∀ q, q ∈ DataW.weightsAll P e ((List.range len).map D) → q ≤ reachBytes := fun q hq => hw q (by simp [DataW.weights, ht, hq])
    have hall : ∀ (l : List (DataW H)) (d : DataW H), d ∈ l → ∀ q ∈ d.weights P e, q ∈ DataW.weightsAll P e l := by
      intro l
      induction l with
      | nil => intro d hd; simp at hd
      | cons d' l ih =>
        intro d hd q hq
        rw [DataW.weightsAll]
        rcases List.mem_cons.1 hd with e | e
        · subst e; exact List.mem_append_left _ hq
        · exact List.mem_append_right _ (ih d e q hq)
    rw [hC] at hi
    have hcell : ∀ i, i < m → ∃ cs', w.cells? base (a.add (i * size)) size = some cs' ∧ DataW.trod enc P w base (fun _ => true) held n e cs' = some (D i, Pl i) := hi
    obtain ⟨zs, hzl, hz⟩ := choose_list (fun i (z : α) => w.cells? base (a.add (i * size)) size = some (encE z) ∧ Good z) len (fun i hil => by
      obtain ⟨cs', h1, h2⟩ := hcell i (by omega)
      obtain ⟨z, rfl, hg⟩ := hel n cs' _ h2 (fun q hq => hwe q (hall _ (D i) (List.mem_map.2 ⟨i, by simpa using hil, rfl⟩) q hq))
      exact ⟨z, h1, hg⟩)
    have hspot : 0 < m → ∃ g o, a = ⟨g, o, none⟩ ∧ g < w.heap.size := fun h0 => by
      obtain ⟨cs', h1, _⟩ := hcell 0 h0
      obtain ⟨_, hcl, hat⟩ := World.cells?_some h1
      have h2 := hat 0 hs
      obtain ⟨g, o, s⟩ := a
      have hc0 : cs'[0]? = some (cs'[0]'(by omega)) := List.getElem?_eq_getElem (by omega)
      rw [hc0] at h2
      have e0 : (⟨g, o, s⟩ : Addr).add (0 * size) = ⟨g, o, s⟩ := by cases s <;> simp [Addr.add]
      rw [e0] at h2
      have e1 : (⟨g, o, s⟩ : Addr).add 0 = ⟨g, o, s⟩ := by cases s <;> simp [Addr.add]
      rw [e1] at h2
      have hsp : s = none := by simpa using World.cell?_spot h2
      subst hsp
      exact ⟨g, o, rfl, by simpa using World.block_lt_of_cell? w _ h2⟩
    subst hzl
    refine ⟨some a, m, zs, hcs, hl, ?_, hm, ?_, ⟨flatMap_len' encE size hlen zs, fun h0 => ?_⟩, fun z hzm => ?_⟩
    · have e0 : zs.length + (m - zs.length) = m := by omega
      exact hw (m * P.bytesOf e) (by simp [DataW.weights, ht, e0])
    · by_cases h0 : m = 0
      · exact .inl h0
      · obtain ⟨g, o, rfl, _⟩ := hspot (by omega)
        exact .inr ⟨g, o, rfl⟩
    · obtain ⟨g, o, rfl, hg⟩ := hspot (by omega)
      refine ⟨g, o, rfl, hg, fun j u hu => ?_⟩
      have hj : j < zs.length * size := by
        have := (List.getElem?_eq_some_iff.1 hu).1
        rwa [flatMap_len' encE size hlen] at this
      have hji : j / size < zs.length := by rw [Nat.div_lt_iff_lt_mul hs]; exact hj
      obtain ⟨h1, _⟩ := hz (j / size) hji
      obtain ⟨_, hcl, hat⟩ := World.cells?_some h1
      have h2 := hat (j % size) (Nat.mod_lt _ hs)
      have e1 : j / size * size + j % size = j := by rw [Nat.mul_comm]; exact Nat.div_add_mod j size
      have h3 := flatMap_at' encE size hlen zs (j / size) (j % size) hji (Nat.mod_lt _ hs)
      rw [e1, hu] at h3
      rw [← h3, add_add, e1] at h2
      rwa [add_none] at h2
    · obtain ⟨i, hil, rfl⟩ := List.getElem_of_mem hzm
      exact (hz i hil).2

theorem trod_str {t : TypeId} {fuel : Nat} {cs : List Value} {x : DataW H × List MemPlace} (ht : P.underlying t = some .string) (h : DataW.trod enc P w base (fun _ => true) held fuel t cs = some x) (hw : ∀ m ∈ x.1.weights P t, m ≤ reachBytes) :
    ∃ s : ByteArray, cs = [.string s] ∧ s.size ≤ 140737488351232 := by
  obtain ⟨s, h1, h2, _⟩ := DataW.trod_string ht h
  refine ⟨s, h1, ?_⟩
  have := hw s.data.toList.length (by rw [h2]; simp [DataW.weights])
  unfold reachBytes at this
  have e : s.data.toList.length = s.size := by simp
  omega
theorem trod_i64 {t : TypeId} {fuel : Nat} {cs : List Value} {x : DataW H × List MemPlace} (ht : P.underlying t = some (.int .i64)) (h : DataW.trod enc P w base (fun _ => true) held fuel t cs = some x) : ∃ n : Int, cs = [.int .i64 n] ∧ -9223372036854775808 ≤ n ∧ n ≤ 9223372036854775807 := by
  obtain ⟨n, h1, _, h2⟩ := DataW.trod_int ht h
  exact ⟨n, h1, bounds_i64 h2⟩
theorem open_i64 {t : TypeId} {v : Value} {b0 : Nat} {d : DataW H} {p : List MemPlace} (ht : P.underlying t = some (.int .i64))
    (hv : Value.okWide P w .any b0 t v) (h : DataW.Trod enc P w base (fun _ => true) held t v d p) : ∃ n : Int, v = .int .i64 n ∧ -9223372036854775808 ≤ n ∧ n ≤ 9223372036854775807 := by
  obtain ⟨fuel, hf⟩ := h
  obtain ⟨n, h1, h2⟩ := trod_i64 ht hf
  refine ⟨n, ?_, h2⟩
  obtain ⟨m, rfl⟩ := okWide_int ht hv
  simpa [Value.cells] using h1
/-- The weights of one argument. -/
theorem weights_at {ts : List TypeId} {ds : List (DataW H)} (h : (DataW.weightsEach P ts ds).all (· ≤ reachBytes) = true) {j : Nat} {t : TypeId} {d : DataW H} (ht : ts[j]? = some t) (hd : ds[j]? = some d) : ∀ m ∈ d.weights P t, m ≤ reachBytes := by
  intro m hm
  have := List.all_eq_true.1 h m (DataW.weights_mem_each ht hd m hm)
  simpa using this
end
end Go.Proofs.Ytpccbobomppdbaa

namespace Go.Proofs.Ytpccbobomppdbaa
open Go.ChangeShapes Go.WideShapes Go.ChangeAt Go.RowKit Go.Deep

section
variable {H : Type} {enc : TypeId × Value → H} {P : Program} {w : World} {base : Nat} {held : Bool}
theorem map_flat : ∀ zs : List Nat, zs.map u8v = zs.flatMap (fun b => [u8v b])
  | [] => rfl
  | z :: zs => by rw [List.map_cons, List.flatMap_cons, map_flat zs]; rfl
/-- Bytes that came in. -/
def IsBy (w : World) (A : Option Addr) (c : Nat) (bs : List Nat) : Prop := bs.length ≤ c ∧ c ≤ 140737488351232 ∧ Rd w 1 A bs.length (bs.map u8v) ∧ (∀ b ∈ bs, b < 256) ∧ SlA A c
theorem IsBy.bs {w : World} {A : Option Addr} {c : Nat} {bs : List Nat} (h : IsBy w A c bs) : Bs w (.slice A bs.length c) bs := ⟨A, c, rfl, h.1, by have := h.2.1; unfold maxLen; omega, h.2.2.1⟩
theorem IsBy.below {w w' : World} {A : Option Addr} {c : Nat} {bs : List Nat} (h : IsBy w A c bs) (b : Below w.heap.size w w') : IsBy w' A c bs := ⟨h.1, h.2.1, h.2.2.1.below b, h.2.2.2⟩
theorem IsBy.frame {w w' : World} {A : Option Addr} {c : Nat} {bs : List Nat} {S : List Nat} (h : IsBy w A c bs) (f : Fr 0 [] S w w') (hS : 0 < bs.length → ∀ a, A = some a → a.block ∉ S) : IsBy w' A c bs := ⟨h.1, h.2.1, h.2.2.1.frame f hS, h.2.2.2⟩

theorem trod_bytes {t e : TypeId} {fuel : Nat} {cs : List Value} {x : DataW H × List MemPlace} (ht : P.underlying t = some (.slice e)) (he : P.underlying e = some (.int .u8)) (hC : P.cellsOf e = 1) (hB : P.bytesOf e = 1)
    (h : DataW.trod enc P w base (fun _ => true) held fuel t cs = some x) (hw : ∀ m ∈ x.1.weights P t, m ≤ reachBytes) : ∃ A c bs, cs = [.slice A bs.length c] ∧ IsBy w A c bs := by
  obtain ⟨A, c, zs, h1, h2, h3, h4, h5, h6, h7⟩ := open_list (α := Nat) ht hC (by omega) (fun b => [u8v b]) (fun b => b < 256) (fun _ => rfl) (fun n cs x hx _ => by
    obtain ⟨z, rfl, _, hz⟩ := DataW.trod_int he hx
    have := bounds_u8 hz
    obtain ⟨m, rfl⟩ : ∃ m : Nat, z = m := ⟨z.toNat, by omega⟩
    exact ⟨m, rfl, by omega⟩) h hw
  rw [hB] at h3
  refine ⟨A, c, zs, h1, h2, by unfold reachBytes at h3; omega, ?_, h7, h5⟩
  rw [map_flat zs]
  exact h6
theorem open_bytes {t e : TypeId} {v : Value} {b0 : Nat} {d : DataW H} {p : List MemPlace} (ht : P.underlying t = some (.slice e)) (he : P.underlying e = some (.int .u8)) (hC : P.cellsOf e = 1) (hB : P.bytesOf e = 1)
    (hv : Value.okWide P w .any b0 t v) (h : DataW.Trod enc P w base (fun _ => true) held t v d p) (hw : ∀ m ∈ d.weights P t, m ≤ reachBytes) : ∃ A c bs, v = .slice A bs.length c ∧ IsBy w A c bs := by
  obtain ⟨a0, len0, cap0, rfl⟩ := okWide_slice ht hv
  obtain ⟨fuel, hf⟩ := h
  obtain ⟨A, c, bs, h1, h2⟩ := trod_bytes ht he hC hB hf hw
  simp [Value.cells] at h1
  obtain ⟨rfl, rfl, rfl⟩ := h1
  exact ⟨_, _, bs, rfl, h2⟩
end
end Go.Proofs.Ytpccbobomppdbaa

namespace Go.Proofs.Ytpccbobomppdbaa
open Go.RowKit

/-- What both readings leave. -/
theorem mdecE_any (v : Value) (bs : List Nat) (w : World) (hv : Bs w v bs) (hl : ∀ b ∈ bs, b < 256) (ht : bs.length ≤ 140737488355328) :
    Calls Try.prog 16 #[v] w fun e W => ∃ A c A' c', e = .returned (.tuple #[mlV ((unM bs).getD zeroMl) (.slice A ((unM bs).getD zeroMl).items.length c) (.slice A' ((unM bs).getD zeroMl).ask.items.length c'), .int .i64 (if (unM bs).isSome = true then 0 else 10)]) ∧ Rd W 2 A ((unM bs).getD zeroMl).items.length (((unM bs).getD zeroMl).items.flatMap encI) ∧ Rd W 2 A' ((unM bs).getD zeroMl).ask.items.length (((unM bs).getD zeroMl).ask.items.flatMap encI) ∧ Below w.heap.size w W := by
  refine (mdec_any v bs w hv hl ht).mono ?_
  rintro e W ⟨h1, h2⟩
  cases hu : unM bs with
  | some m =>
    obtain ⟨A, c, A', c', he, hr, hr', hb⟩ := h1 m hu
    exact ⟨A, c, A', c', he, hr, hr', hb⟩
  | none =>
    obtain ⟨he, hb⟩ := h2 hu
    exact ⟨none, 0, none, 0, he, Rd.nil, Rd.nil, hb⟩
theorem xmdecE_any (A : Option Addr) (c : Nat) (bs : List Nat) (w : World) (h : IsBy w A c bs) :
    Calls Try.prog 18 #[.slice A bs.length c] w fun e W => ∃ A c A' c', e = .returned (.tuple #[mlV ((unM bs).getD zeroMl) (.slice A ((unM bs).getD zeroMl).items.length c) (.slice A' ((unM bs).getD zeroMl).ask.items.length c'), .bool (unM bs).isSome]) ∧ Rd W 2 A ((unM bs).getD zeroMl).items.length (((unM bs).getD zeroMl).items.flatMap encI) ∧ Rd W 2 A' ((unM bs).getD zeroMl).ask.items.length (((unM bs).getD zeroMl).ask.items.flatMap encI) ∧ Below w.heap.size w W := by
  refine (xmdec_any A c bs w h.1 (by have := h.2.1; unfold maxLen; omega) h.2.2.1 h.2.2.2.1 h.2.2.2.2).mono ?_
  rintro e W ⟨h1, h2⟩
  rw [← unM_eq h.2.2.2.1] at h1 h2
  cases hu : unM bs with
  | some m =>
    obtain ⟨A, c, A', c', he, hr, hr', hb⟩ := h1 m hu
    exact ⟨A, c, A', c', he, hr, hr', hb⟩
  | none =>
    obtain ⟨he, hb⟩ := h2 hu
    exact ⟨none, 0, none, 0, he, Rd.nil, Rd.nil, hb⟩
theorem unM_len {bs : List Nat} (hl : ∀ b ∈ bs, b < 256) : ((unM bs).getD zeroMl).items.length ≤ 4611686018427387903 ∧ ((unM bs).getD zeroMl).ask.items.length ≤ 4611686018427387903 := by
  cases hu : unM bs with
  | some m =>
    have h := mayM_lim ((unM_iff hl m).1 hu).1
    have h1 := (mayI_at h.items).1
    refine ⟨by show m.items.length ≤ _; omega, ?_⟩
    show m.ask.items.length ≤ _
    rcases h.ask with h2 | h2
    · have := (mayI_at (mayA_lim h2).c9).1
      omega
    · rw [h2]; simp [zeroK]
  | none => simp [zeroMl, zeroK]
set_option maxRecDepth 100000 in
set_option maxHeartbeats 4000000 in
theorem mrl_any (A : Option Addr) (c : Nat) (bs : List Nat) (w : World) (hp : IsBy w A c bs) :
    Calls Try.prog 6 #[.slice A bs.length c] w fun e W => e = .returned (.bool true) ∧ Below w.heap.size w W := by
  obtain ⟨i0, hi0, hz0, hz1, hz2⟩ := info_parts Try.infoByte
  have hbl : bs.length ≤ 140737488351232 := Nat.le_trans hp.1 hp.2.1
  have hcm : c ≤ 9223372036854775807 := by have := hp.2.1; omega
  have HP := Lib.hid hp
  have HBL := Lib.hid hbl
  clear hp
  go_enter Try.func6, Try.ntmps6
  go_wp2_with (first
    | (at_builtin
       refine wpList_append_rd _ rfl (.tmp 8) (.tmp 9) 31 rfl w.heap.size 5 i0 (.int .u8 0) 1 1 Try.underlying31 hi0 hz0 hz1 hz2 rfl (by decide) (.slice (some ⟨w.heap.size, 0, none⟩) 0 0) 0 [] rfl (own_of_cells w #[] 0 (Nat.zero_le _) rfl) A bs.length c (bs.map u8v) rfl (HP.out.2.2.1.below ((Below.refl _ _).alloc (Nat.le_refl _) _)) (u8_one' _) (by unfold maxLen; omega) (by omega) (by simp) ?_
       intro v2 w2 hown2 hgrow2 _
       have HO2 := Lib.hid hown2
       have hG2 := Fr.grown (B := w.heap.size) (T := [5]) (S := []) ((Fr.refl w).alloc (.cells #[] 5)) hgrow2 (fun j hj => by
         simp [Value.ownBlock] at hj
         subst hj
         exact ⟨Nat.le_refl _, .inr ⟨_, _, _, block_new _ _, by simp⟩⟩)
       have HB2 := Lib.hid (hG2.below (Nat.le_refl _))
       clear hown2 hgrow2 hG2)
    | fail)
  have hbs2 : Bs w2 v2 bs := Bs.own_lt (n := bs.length) (by simpa using HO2.out)
  have HV2 := Lib.hid hbs2
  obtain ⟨A2, c2, rfl, q1, km2, q3⟩ := hbs2
  have hc2 : c2 ≤ 9223372036854775807 := by unfold maxLen at km2; omega
  have HP2 := Lib.hid (HP.out.below HB2.out)
  have HL := Lib.hid HP.out.2.2.2.1
  have HD1 := Lib.hid (mdecE_any _ bs w2 HV2.out HL.out (by omega))
  have HD2 := Lib.hid (fun W (hW : Below w2.heap.size w2 W) => xmdecE_any A c bs W (HP2.out.below hW))
  have hkl := unM_len HL.out
  obtain ⟨U, hU⟩ : ∃ U, (unM bs).isSome = U := ⟨_, rfl⟩
  obtain ⟨K, hK⟩ : ∃ K, (unM bs).getD zeroMl = K := ⟨_, rfl⟩
  obtain ⟨E, hE⟩ : ∃ E : Int, (if U = true then 0 else 10) = E := ⟨_, rfl⟩
  have HE := Lib.hid hE
  rw [hU, hK, hE] at HD1
  rw [hU, hK] at HD2
  rw [hK] at hkl
  have HKL := Lib.hid hkl
  obtain ⟨nk, hnk⟩ : ∃ nk, K.items.length = nk := ⟨_, rfl⟩
  obtain ⟨kk, hkk⟩ : ∃ kk, K.ask.items.length = kk := ⟨_, rfl⟩
  have HNK := Lib.hid hnk
  have HKK := Lib.hid hkk
  rw [hnk, hkk] at HD1 HD2 hkl
  obtain ⟨n, hn⟩ : ∃ n, bs.length = n := ⟨_, rfl⟩
  have HN := Lib.hid hn
  rw [hn] at HV2 HD1 HD2 hbl ⊢
  clear hi0 hz0 hz1 hz2 km2 HO2 q1 q3 hU hK hE hnk hkk hn
  go_wp2_with fail
  refine HD1.out.mono ?_
  rintro e w3 ⟨A4, c4, A4', c4', he, hr4, hs4, hb⟩
  have he2 : e = .returned (.tuple #[.agg #[.int .i64 K.kind, .int .i64 K.order, .slice A4 nk c4, .int .i64 K.ask.client, .int .i64 K.ask.number, .int .i64 K.ask.kind, .int .i64 K.ask.order, .int .i64 K.ask.region, .int .i64 K.ask.to, .int .i64 K.ask.n, .string K.ask.good, .slice A4' kk c4', .int .i64 K.yc, .int .i64 K.yn, .int .i64 K.yd, .int .i64 K.yN], .int .i64 E]) := he
  clear he
  subst he2
  have hb4 := hb.trans (((Below.refl w3.heap.size w3).alloc (Nat.le_refl _) (.cells #[.int .i64 K.kind, .int .i64 K.order, .slice A4 nk c4, .int .i64 K.ask.client, .int .i64 K.ask.number, .int .i64 K.ask.kind, .int .i64 K.ask.order, .int .i64 K.ask.region, .int .i64 K.ask.to, .int .i64 K.ask.n, .string K.ask.good, .slice A4' kk c4', .int .i64 K.yc, .int .i64 K.yn, .int .i64 K.yd, .int .i64 K.yN] 29)).mono hb.size)
  have kp := block_new w3 (.cells #[.int .i64 K.kind, .int .i64 K.order, .slice A4 nk c4, .int .i64 K.ask.client, .int .i64 K.ask.number, .int .i64 K.ask.kind, .int .i64 K.ask.order, .int .i64 K.ask.region, .int .i64 K.ask.to, .int .i64 K.ask.n, .string K.ask.good, .slice A4' kk c4', .int .i64 K.yc, .int .i64 K.yn, .int .i64 K.yd, .int .i64 K.yN] 29)
  have hr44 := hr4.below ((Below.refl w3.heap.size w3).alloc (Nat.le_refl _) (.cells #[.int .i64 K.kind, .int .i64 K.order, .slice A4 nk c4, .int .i64 K.ask.client, .int .i64 K.ask.number, .int .i64 K.ask.kind, .int .i64 K.ask.order, .int .i64 K.ask.region, .int .i64 K.ask.to, .int .i64 K.ask.n, .string K.ask.good, .slice A4' kk c4', .int .i64 K.yc, .int .i64 K.yn, .int .i64 K.yd, .int .i64 K.yN] 29))
  have hs44 := hs4.below ((Below.refl w3.heap.size w3).alloc (Nat.le_refl _) (.cells #[.int .i64 K.kind, .int .i64 K.order, .slice A4 nk c4, .int .i64 K.ask.client, .int .i64 K.ask.number, .int .i64 K.ask.kind, .int .i64 K.ask.order, .int .i64 K.ask.region, .int .i64 K.ask.to, .int .i64 K.ask.n, .string K.ask.good, .slice A4' kk c4', .int .i64 K.yc, .int .i64 K.yn, .int .i64 K.yd, .int .i64 K.yN] 29))
  obtain ⟨w4, hw4⟩ : ∃ w4, w3.alloc (.cells #[.int .i64 K.kind, .int .i64 K.order, .slice A4 nk c4, .int .i64 K.ask.client, .int .i64 K.ask.number, .int .i64 K.ask.kind, .int .i64 K.ask.order, .int .i64 K.ask.region, .int .i64 K.ask.to, .int .i64 K.ask.n, .string K.ask.good, .slice A4' kk c4', .int .i64 K.yc, .int .i64 K.yn, .int .i64 K.yd, .int .i64 K.yN] 29) = w4 := ⟨_, rfl⟩
  obtain ⟨p, hp⟩ : ∃ p, w3.heap.size = p := ⟨_, rfl⟩
  rw [hw4] at kp hb4 hr44 hs44
  rw [hp] at kp
  have HC4 : Hid (∀ W, Below w4.heap.size w4 W → W.heap[p]? = some (.cells #[.int .i64 K.kind, .int .i64 K.order, .slice A4 nk c4, .int .i64 K.ask.client, .int .i64 K.ask.number, .int .i64 K.ask.kind, .int .i64 K.ask.order, .int .i64 K.ask.region, .int .i64 K.ask.to, .int .i64 K.ask.n, .string K.ask.good, .slice A4' kk c4', .int .i64 K.yc, .int .i64 K.yn, .int .i64 K.yd, .int .i64 K.yN] 29 (0, 0))) := Lib.hid (fun W hW => (hW.block _ (lt_of_block kp)).trans kp)
  have HR4 := Lib.hid hr44
  have HT4 := Lib.hid hs44
  have HW4 := Lib.hid hw4
  have HPP := Lib.hid hp
  have HB24 := Lib.hid hb4
  clear hb hb4 kp hr4 hs4 hr44 hs44 hw4 hp
  go_wp2_with fail
  rw [HW4.out, HPP.out]
  refine (HD2.out w4 HB24.out).mono ?_
  rintro e w5 ⟨A6, c6, A6', c6', he, hr6, hs6, hb⟩
  have he2 : e = .returned (.tuple #[.agg #[.int .i64 K.kind, .int .i64 K.order, .slice A6 nk c6, .int .i64 K.ask.client, .int .i64 K.ask.number, .int .i64 K.ask.kind, .int .i64 K.ask.order, .int .i64 K.ask.region, .int .i64 K.ask.to, .int .i64 K.ask.n, .string K.ask.good, .slice A6' kk c6', .int .i64 K.yc, .int .i64 K.yn, .int .i64 K.yd, .int .i64 K.yN], .bool U]) := he
  clear he
  subst he2
  have hb6 := hb.trans (((Below.refl w5.heap.size w5).alloc (Nat.le_refl _) (.cells #[.int .i64 K.kind, .int .i64 K.order, .slice A6 nk c6, .int .i64 K.ask.client, .int .i64 K.ask.number, .int .i64 K.ask.kind, .int .i64 K.ask.order, .int .i64 K.ask.region, .int .i64 K.ask.to, .int .i64 K.ask.n, .string K.ask.good, .slice A6' kk c6', .int .i64 K.yc, .int .i64 K.yn, .int .i64 K.yd, .int .i64 K.yN] 29)).mono hb.size)
  have kp := block_new w5 (.cells #[.int .i64 K.kind, .int .i64 K.order, .slice A6 nk c6, .int .i64 K.ask.client, .int .i64 K.ask.number, .int .i64 K.ask.kind, .int .i64 K.ask.order, .int .i64 K.ask.region, .int .i64 K.ask.to, .int .i64 K.ask.n, .string K.ask.good, .slice A6' kk c6', .int .i64 K.yc, .int .i64 K.yn, .int .i64 K.yd, .int .i64 K.yN] 29)
  have hr66 := hr6.below ((Below.refl w5.heap.size w5).alloc (Nat.le_refl _) (.cells #[.int .i64 K.kind, .int .i64 K.order, .slice A6 nk c6, .int .i64 K.ask.client, .int .i64 K.ask.number, .int .i64 K.ask.kind, .int .i64 K.ask.order, .int .i64 K.ask.region, .int .i64 K.ask.to, .int .i64 K.ask.n, .string K.ask.good, .slice A6' kk c6', .int .i64 K.yc, .int .i64 K.yn, .int .i64 K.yd, .int .i64 K.yN] 29))
  have hs66 := hs6.below ((Below.refl w5.heap.size w5).alloc (Nat.le_refl _) (.cells #[.int .i64 K.kind, .int .i64 K.order, .slice A6 nk c6, .int .i64 K.ask.client, .int .i64 K.ask.number, .int .i64 K.ask.kind, .int .i64 K.ask.order, .int .i64 K.ask.region, .int .i64 K.ask.to, .int .i64 K.ask.n, .string K.ask.good, .slice A6' kk c6', .int .i64 K.yc, .int .i64 K.yn, .int .i64 K.yd, .int .i64 K.yN] 29))
  obtain ⟨w6, hw6⟩ : ∃ w6, w5.alloc (.cells #[.int .i64 K.kind, .int .i64 K.order, .slice A6 nk c6, .int .i64 K.ask.client, .int .i64 K.ask.number, .int .i64 K.ask.kind, .int .i64 K.ask.order, .int .i64 K.ask.region, .int .i64 K.ask.to, .int .i64 K.ask.n, .string K.ask.good, .slice A6' kk c6', .int .i64 K.yc, .int .i64 K.yn, .int .i64 K.yd, .int .i64 K.yN] 29) = w6 := ⟨_, rfl⟩
  obtain ⟨q, hq⟩ : ∃ q, w5.heap.size = q := ⟨_, rfl⟩
  rw [hw6] at kp hb6 hr66 hs66
  rw [hq] at kp
  have HC6 : Hid (∀ W, Below w6.heap.size w6 W → W.heap[q]? = some (.cells #[.int .i64 K.kind, .int .i64 K.order, .slice A6 nk c6, .int .i64 K.ask.client, .int .i64 K.ask.number, .int .i64 K.ask.kind, .int .i64 K.ask.order, .int .i64 K.ask.region, .int .i64 K.ask.to, .int .i64 K.ask.n, .string K.ask.good, .slice A6' kk c6', .int .i64 K.yc, .int .i64 K.yn, .int .i64 K.yd, .int .i64 K.yN] 29 (0, 0))) := Lib.hid (fun W hW => (hW.block _ (lt_of_block kp)).trans kp)
  have HR6 := Lib.hid hr66
  have HT6 := Lib.hid hs66
  have HW6 := Lib.hid hw6
  have HQQ := Lib.hid hq
  have HB46 := Lib.hid hb6
  clear hb hb6 kp hr6 hs6 hr66 hs66 hw6 hq
  go_wp2_with fail
  rw [HW6.out, HQQ.out]
  refine (mlives_any w6).mono ?_
  rintro e w7 ⟨rfl, hb⟩
  have HB67 := Lib.hid hb
  have HB47 := Lib.hid (HB46.out.trans (hb.mono HB46.out.size))
  have HSM : Hid (Calls Try.prog 9 #[.agg #[.int .i64 K.kind, .int .i64 K.order, .slice A4 nk c4, .int .i64 K.ask.client, .int .i64 K.ask.number, .int .i64 K.ask.kind, .int .i64 K.ask.order, .int .i64 K.ask.region, .int .i64 K.ask.to, .int .i64 K.ask.n, .string K.ask.good, .slice A4' kk c4', .int .i64 K.yc, .int .i64 K.yn, .int .i64 K.yd, .int .i64 K.yN], .agg #[.int .i64 K.kind, .int .i64 K.order, .slice A6 nk c6, .int .i64 K.ask.client, .int .i64 K.ask.number, .int .i64 K.ask.kind, .int .i64 K.ask.order, .int .i64 K.ask.region, .int .i64 K.ask.to, .int .i64 K.ask.n, .string K.ask.good, .slice A6' kk c6', .int .i64 K.yc, .int .i64 K.yn, .int .i64 K.yd, .int .i64 K.yN]] w7 fun e W' => e = .returned (.bool true) ∧ Below w7.heap.size w7 W') := Lib.hid (by
    have h := xmsame_any K K A4 A4' c4 c4' A6 A6' c6 c6' w7 (HNK.out.symm ▸ HR4.out.below HB47.out) (HKK.out.symm ▸ HT4.out.below HB47.out) (HNK.out.symm ▸ HR6.out.below HB67.out) (HKK.out.symm ▸ HT6.out.below HB67.out) HKL.out.1 HKL.out.2
    rw [eqM_iff.2 rfl, HNK.out, HKK.out] at h
    exact h)
  clear hb
  have k4 := HC4.out w7 HB47.out
  have k6 := HC6.out w7 HB67.out
  go_wp2_with (first | (refine mail_load (by rfl) (.tmp 4) rfl _ rfl #[.int .i64 K.kind, .int .i64 K.order, .slice A4 nk c4, .int .i64 K.ask.client, .int .i64 K.ask.number, .int .i64 K.ask.kind, .int .i64 K.ask.order, .int .i64 K.ask.region, .int .i64 K.ask.to, .int .i64 K.ask.n, .string K.ask.good, .slice A4' kk c4', .int .i64 K.yc, .int .i64 K.yn, .int .i64 K.yd, .int .i64 K.yN] (k4) rfl ?_) | (refine mail_load (by rfl) (.tmp 6) rfl _ rfl #[.int .i64 K.kind, .int .i64 K.order, .slice A6 nk c6, .int .i64 K.ask.client, .int .i64 K.ask.number, .int .i64 K.ask.kind, .int .i64 K.ask.order, .int .i64 K.ask.region, .int .i64 K.ask.to, .int .i64 K.ask.n, .string K.ask.good, .slice A6' kk c6', .int .i64 K.yc, .int .i64 K.yn, .int .i64 K.yd, .int .i64 K.yN] (k6) rfl ?_))
  refine HSM.out.mono ?_
  rintro e w8 ⟨rfl, hb⟩
  have HB48 := Lib.hid (HB47.out.trans (hb.mono HB47.out.size))
  have HB28 := Lib.hid (HB24.out.trans (HB48.out.mono HB24.out.size))
  clear hb k4 k6
  obtain ⟨A2', c2', e1, _, _, r1⟩ := HV2.out.below HB28.out
  cases e1
  have r2 := (HP2.out.below HB28.out).2.2.1
  rw [HN.out] at r2
  obtain ⟨S, hS⟩ : ∃ S, strOf bs = S := ⟨_, rfl⟩
  have s1 := hS ▸ run_str w8 A2 _ c2 bs r1 HL.out
  have s2 := hS ▸ run_str w8 A _ c bs r2 HL.out
  clear r1 r2 hS
  cases U
  · obtain rfl : E = 10 := HE.out.symm
    go_wp2
    go_ret
    exact ⟨ret_bool (by simp), HB2.out.trans (HB28.out.mono HB2.out.size)⟩
  · obtain rfl : E = 0 := HE.out.symm
    go_wp2
    go_ret
    exact ⟨ret_bool (by simp), HB2.out.trans (HB28.out.mono HB2.out.size)⟩
end Go.Proofs.Ytpccbobomppdbaa
