/- Joined: Unpacking: a taker and the backlog that is made of what it takes. How arguments that came in are opened: slices of whatever elements, element by element; numbers; texts; their sizes. How arguments that came in are opened: bytes. More steps of a walk through a drawn region: state that is handed on; append. -/
import Derived.Test.YtglfbihdbdcgiaaZBU28
import Derived.Test.YtglfbihdbdcgiaaZBU13
import Derived.Test.YtglfbihdbdcgiaaZBU16
import Derived.SizedLaws
import Derived.Test.YtglfbihdbdcgiaaZBU18
import Derived.Test.YtglfbihdbdcgiaaZBU24
import Derived.Test.YtglfbihdbdcgiaaZBU6
namespace Go.Proofs.Ytglfbihdbdcgiaa
open Go.RowKit

/-- Where the backlog at pb is made out of a taker at pt. -/
structure UB (w : World) (TT TB TR : TypeId) (pt pb : Nat) (D : Option Nat) (s : List Nat × Bool) (v : Value) (rs : List (Int × Bool)) (out : Int) (W : World) : Prop where
  t : IsT W TT pt D s
  lt : pt < pb
  d : ∀ d, D = some d → d < pb ∧ d ≠ pt
  low : w.heap.size ≤ pt
  b : W.heap[pb]? = some (.cells #[v, .int .i64 out] TB (0, 0))
  r : W.ownsRow pb TR 2 v rs.length (flat rs)
  bel : Below w.heap.size w W
section
variable {w W W' : World} {TT TB TR : TypeId} {pt pb : Nat} {D : Option Nat} {s s' : List Nat × Bool} {v v' : Value} {rs rs' : List (Int × Bool)} {out : Int}
theorem UB.dp (h : UB w TT TB TR pt pb D s v rs out W) : D ≠ some pt := fun e => (h.d _ e).2 rfl
theorem UB.turn (h : UB w TT TB TR pt pb D s v rs out W) {val : Value} {e : Ending} (hr : RetT TT pt D val s' W e W') : e = .returned val ∧ UB w TT TB TR pt pb D s' v rs out W' := by
  obtain ⟨he, hT, hf⟩ := hr
  have hlt := h.lt
  refine ⟨he, hT, hlt, h.d, h.low, hf.keep0 h.b (by simp; omega), hf.own h.r (by simp) (fun k hk => ?_), h.bel.trans (hf.belowT h.low h.bel.size)⟩
  have := (own_block h.r hk).1
  simp
  omega
theorem UB.below (h : UB w TT TB TR pt pb D s v rs out W) (b : Below W.heap.size W W') : UB w TT TB TR pt pb D s v rs out W' :=
  ⟨h.t.below b, h.lt, h.d, h.low, (b.block _ (lt_of_block h.b)).trans h.b, own_below' h.r b, h.bel.trans (b.mono h.bel.size)⟩
theorem UB.set (h : UB w TT TB TR pt pb D s v rs out W) {px : Nat} (hp : pb < px) (hg : ∀ g, v.ownBlock = some g → g ≠ px) (i : Nat) (u : Value) : UB w TT TB TR pt pb D s v rs out (W.setCell ⟨px, i, none⟩ u) := by
  have hlt := h.lt
  have f : Fr 0 [] [px] W (W.setCell ⟨px, i, none⟩ u) := (Fr.refl W).setCell (p := ⟨px, i, none⟩) _ (Nat.zero_le _) (.inl (by simp))
  refine ⟨h.t.keep f (by simp; omega) (fun d hd => by have := (h.d d hd).1; simp; omega), hlt, h.d, h.low, f.keep0 h.b (by simp; omega), f.own h.r (by simp) (fun k hk => by simpa using hg k hk), h.bel.trans (f.belowT (by have := h.low; omega) h.bel.size)⟩
theorem UB.own_lt (h : UB w TT TB TR pt pb D s v rs out W) : ∀ g, v.ownBlock = some g → g < W.heap.size := fun g hg => by
  obtain ⟨_, cs, hc⟩ := own_block h.r hg
  exact lt_of_block hc
theorem IsT.low {B p : Nat} {T : TypeId} (h : IsT W T p D s) (b : Below B W W') (hp : p < B) (hD : ∀ d, D = some d → d < B) : IsT W' T p D s := by
  obtain ⟨A, c, h1, h2, h3, h4, h5, h6, h7⟩ := h
  refine ⟨A, c, (b.block _ hp).trans h1, h2, h3, ⟨h4.1, fun hn => ?_⟩, h5, h6, h7⟩
  obtain ⟨g, o, e, hg, hc⟩ := h4.2 hn
  have hgB := hD _ (h5 hn _ e)
  exact ⟨g, o, e, Nat.lt_of_lt_of_le hg b.size, fun j u hu => (World.cell?_of_block (a := ⟨g, o + j, none⟩) (b.block g hgB)).trans (hc j u hu)⟩
/-- Where one more has been appended, and not been stored. -/
structure UA (w : World) (TT TB TR : TypeId) (pt pb : Nat) (D : Option Nat) (s : List Nat × Bool) (v v' : Value) (rs : List (Int × Bool)) (out : Int) (W : World) : Prop where
  t : IsT W TT pt D s
  lt : pt < pb
  d : ∀ d, D = some d → d < pb ∧ d ≠ pt
  low : w.heap.size ≤ pt
  b : W.heap[pb]? = some (.cells #[v, .int .i64 out] TB (0, 0))
  r : W.ownsRow pb TR 2 v' rs.length (flat rs)
  ne : ∀ g, v'.ownBlock = some g → g ≠ pb
  bel : Below w.heap.size w W
theorem UB.fr (h : UB w TT TB TR pt pb D s v rs out W) (hg : W.grownBy W' v.ownBlock) (B : Nat) (hB : B ≤ pb) : Fr B [TR] [] W W' := (Fr.refl W).grown hg fun k hk => by
  obtain ⟨hb, cs, hc⟩ := own_block h.r hk
  exact ⟨by omega, .inr ⟨cs, _, _, hc, by simp⟩⟩
theorem UB.app (h : UB w TT TB TR pt pb D s v rs out W) (hne : TB ≠ TR) {o : Int} {f : Bool} (ho : W'.ownsRow pb TR 2 v' (rs.length + 1) (flat rs ++ [.int .i64 o, .bool f])) (hg : W.grownBy W' v.ownBlock) :
    UA w TT TB TR pt pb D s v v' (rs ++ [(o, f)]) out W' := by
  have hlt := h.lt
  have hpb := lt_of_block h.b
  have f1 := h.fr hg pb (Nat.le_refl _)
  have b1 : Below pb W W' := f1.below (by omega)
  have hb := f1.keep h.b (by simpa using hne) (by simp)
  refine ⟨h.t.low b1 hlt (fun d hd => (h.d d hd).1), hlt, h.d, h.low, hb, by rw [flat_append, List.length_append]; exact ho, fun g hg' => ?_, h.bel.trans (b1.mono (by have := h.low; omega))⟩
  obtain ⟨_, cs, hc⟩ := own_block ho hg'
  rintro rfl
  rw [hb] at hc
  injection hc with hc
  injection hc with _ hc
  exact hne hc
theorem UA.store (h : UA w TT TB TR pt pb D s v v' rs out W) : UB w TT TB TR pt pb D s v' rs out (W.setCell ⟨pb, 0, none⟩ v') := by
  have hlt := h.lt
  have f : Fr 0 [] [pb] W (W.setCell ⟨pb, 0, none⟩ v') := (Fr.refl W).setCell (p := ⟨pb, 0, none⟩) _ (Nat.zero_le _) (.inl (by simp))
  refine ⟨h.t.keep f (by simp; omega) (fun d hd => by have := (h.d d hd).1; simp; omega), hlt, h.d, h.low, by rw [block_set h.b]; rfl, f.own h.r (by simp) (fun k hk => by simpa using h.ne k hk), h.bel.trans (f.belowT (by have := h.low; omega) h.bel.size)⟩
end
end Go.Proofs.Ytglfbihdbdcgiaa

namespace Go.Proofs.Ytglfbihdbdcgiaa
open Go.ChangeShapes Go.WideShapes Go.ChangeAt Go.RowKit Go.Deep

theorem add_none (g o j : Nat) : (⟨g, o, none⟩ : Addr).add j = ⟨g, o + j, none⟩ := by unfold Addr.add; split <;> simp_all
theorem flatMap_at' {α : Type} (enc : α → List Value) (size : Nat) (h : ∀ x, (enc x).length = size) (zs : List α) (i j : Nat) (hi : i < zs.length) (hj : j < size) : (zs.flatMap enc)[i * size + j]? = (enc zs[i])[j]? := by
  induction zs generalizing i with
  | nil => simp at hi
  | cons z zs ih =>
    cases i with
    | zero =>
      rw [List.flatMap_cons, List.getElem?_append_left (by rw [h]; omega)]
      simp
    | succ i =>
      rw [List.flatMap_cons, List.getElem?_append_right (by rw [h, Nat.succ_mul]; omega), h, show (i + 1) * size + j - size = i * size + j from by rw [Nat.succ_mul]; omega, ih i (by simpa using hi)]
      simp
theorem flatMap_len' {α : Type} (enc : α → List Value) (size : Nat) (h : ∀ x, (enc x).length = size) (zs : List α) : (zs.flatMap enc).length = zs.length * size := by
  induction zs with
  | nil => simp
  | cons z zs ih => rw [List.flatMap_cons, List.length_append, h, ih, List.length_cons, Nat.succ_mul]; omega

section
variable {H : Type} {enc : TypeId × Value → H} {P : Program} {w : World} {base : Nat} {held : Bool}
theorem choose_list {α : Type} (p : Nat → α → Prop) : ∀ n, (∀ i, i < n → ∃ z, p i z) → ∃ zs : List α, zs.length = n ∧ ∀ i (h : i < zs.length), p i zs[i]
  | 0, _ => ⟨[], rfl, fun i h => absurd h (by simp)⟩
  | n + 1, h => by
    obtain ⟨zs, hl, hz⟩ := choose_list p n (fun i hi => h i (by omega))
    obtain ⟨z, hp⟩ := h n (by omega)
    refine ⟨zs ++ [z], by simp [hl], fun i hi => ?_⟩
    by_cases hin : i < zs.length
    · rw [List.getElem_append_left hin]; exact hz i hin
    · have : i = n := by simp at hi; omega
      subst this
      rw [List.getElem_append_right (by omega)]
      simpa [hl] using hp
/-- A slice, opened: 'hel' opens an element. -/
theorem open_list {α : Type} {t e : TypeId} {size fuel : Nat} {cs : List Value} {x : DataW H × List MemPlace} (ht : P.underlying t = some (.slice e)) (hC : P.cellsOf e = size) (hs : 0 < size) (encE : α → List Value) (Good : α → Prop) (hlen : ∀ z, (encE z).length = size)
    (hel : ∀ n cs x, DataW.trod enc P w base (fun _ => true) held n e cs = some x → (∀ m ∈ x.1.weights P e, m ≤ reachBytes) → ∃ z, cs = encE z ∧ Good z)
    (h : DataW.trod enc P w base (fun _ => true) held fuel t cs = some x) (hw : ∀ m ∈ x.1.weights P t, m ≤ reachBytes) :
    ∃ (A : Option Addr) (c : Nat) (zs : List α), cs = [.slice A zs.length c] ∧ zs.length ≤ c ∧ c * P.bytesOf e ≤ reachBytes ∧ c ≤ maxLen ∧ SlA A c ∧ Rd w size A zs.length (zs.flatMap encE) ∧ ∀ z ∈ zs, Good z := by
  rcases open_slice ht h with ⟨hcs, hx⟩ | ⟨a, len, cap, m, n, D, Pl, hcs, hb, hl, hm, hmm, hx, hi⟩
  · exact ⟨none, 0, [], hcs, Nat.le_refl _, by simp, Nat.zero_le _, .inl rfl, Rd.nil, by simp⟩
  · have hmc : m = cap := by simpa using hmm
    subst hmc
    subst hx
    have hwe : ∀ q, q ∈ DataW.weightsAll P e ((List.range len).map D) → q ≤ reachBytes := fun q hq => hw q (by simp [DataW.weights, ht, hq])
    have hall : ∀ (l : List (DataW H)) (d : DataW H), d ∈ l → ∀ q ∈ d.weights P e, q ∈ DataW.weightsAll P e l := by
      intro l
      induction l with
      | nil => intro d hd; simp at hd
      | cons d' l ih =>
        intro d hd q hq
        rw [DataW.weightsAll]
        rcases List.mem_cons.1 hd with e | e
        · subst e; exact List.mem_append_left _ hq
        · exact List.mem_append_right _ (ih d e q hq)
    rw [hC] at hi
    have hcell : ∀ i, i < m → ∃ cs', w.cells? base (a.add (i * size)) size = some cs' ∧ DataW.trod enc P w base (fun _ => true) held n e cs' = some (D i, Pl i) := hi
    obtain ⟨zs, hzl, hz⟩ := choose_list (fun i (z : α) => w.cells? base (a.add (i * size)) size = some (encE z) ∧ Good z) len (fun i hil => by
      obtain ⟨cs', h1, h2⟩ := hcell i (by omega)
      obtain ⟨z, rfl, hg⟩ := hel n cs' _ h2 (fun q hq => hwe q (hall _ (D i) (List.mem_map.2 ⟨i, by simpa using hil, rfl⟩) q hq))
      exact ⟨z, h1, hg⟩)
    have hspot : 0 < m → ∃ g o, a = ⟨g, o, none⟩ ∧ g < w.heap.size := fun h0 => by
      obtain ⟨cs', h1, _⟩ := hcell 0 h0
      obtain ⟨_, hcl, hat⟩ := World.cells?_some h1
      have h2 := hat 0 hs
      obtain ⟨g, o, s⟩ := a
      have hc0 : cs'[0]? = some (cs'[0]'(by omega)) := List.getElem?_eq_getElem (by omega)
      rw [hc0] at h2
      have e0 : (⟨g, o, s⟩ : Addr).add (0 * size) = ⟨g, o, s⟩ := by cases s <;> simp [Addr.add]
      rw [e0] at h2
      have e1 : (⟨g, o, s⟩ : Addr).add 0 = ⟨g, o, s⟩ := by cases s <;> simp [Addr.add]
      rw [e1] at h2
      have hsp : s = none := by simpa using World.cell?_spot h2
      subst hsp
      exact ⟨g, o, rfl, by simpa using World.block_lt_of_cell? w _ h2⟩
    subst hzl
    refine ⟨some a, m, zs, hcs, hl, ?_, hm, ?_, ⟨flatMap_len' encE size hlen zs, fun h0 => ?_⟩, fun z hzm => ?_⟩
    · have e0 : zs.length + (m - zs.length) = m := by omega
      exact hw (m * P.bytesOf e) (by simp [DataW.weights, ht, e0])
    · by_cases h0 : m = 0
      · exact .inl h0
      · obtain ⟨g, o, rfl, _⟩ := hspot (by omega)
        exact .inr ⟨g, o, rfl⟩
    · obtain ⟨g, o, rfl, hg⟩ := hspot (by omega)
      refine ⟨g, o, rfl, hg, fun j u hu => ?_⟩
      have hj : j < zs.length * size := by
        have := (List.getElem?_eq_some_iff.1 hu).1
        rwa [flatMap_len' encE size hlen] at this
      have hji : j / size < zs.length := by rw [Nat.div_lt_iff_lt_mul hs]; exact hj
      obtain ⟨h1, _⟩ := hz (j / size) hji
      obtain ⟨_, hcl, hat⟩ := World.cells?_some h1
      have h2 := hat (j % size) (Nat.mod_lt _ hs)
      have e1 : j / size * size + j % size = j := by rw [Nat.mul_comm]; exact Nat.div_add_mod j size
      have h3 := flatMap_at' encE size hlen zs (j / size) (j % size) hji (Nat.mod_lt _ hs)
      rw [e1, hu] at h3
      rw [← h3, add_add, e1] at h2
      rwa [add_none] at h2
    · obtain ⟨i, hil, rfl⟩ := List.getElem_of_mem hzm
      exact (hz i hil).2

theorem trod_str {t : TypeId} {fuel : Nat} {cs : List Value} {x : DataW H × List MemPlace} (ht : P.underlying t = some .string) (h : DataW.trod enc P w base (fun _ => true) held fuel t cs = some x) (hw : ∀ m ∈ x.1.weights P t, m ≤ reachBytes) :
    ∃ s : ByteArray, cs = [.string s] ∧ s.size ≤ 140737488351232 := by
  obtain ⟨s, h1, h2, _⟩ := DataW.trod_string ht h
  refine ⟨s, h1, ?_⟩
  have := hw s.data.toList.length (by rw [h2]; simp [DataW.weights])
  unfold reachBytes at this
  have e : s.data.toList.length = s.size := by simp
  omega
theorem trod_i64 {t : TypeId} {fuel : Nat} {cs : List Value} {x : DataW H × List MemPlace} (ht : P.underlying t = some (.int .i64)) (h : DataW.trod enc P w base (fun _ => true) held fuel t cs = some x) : ∃ n : Int, cs = [.int .i64 n] ∧ -9223372036854775808 ≤ n ∧ n ≤ 9223372036854775807 := by
  obtain ⟨n, h1, _, h2⟩ := DataW.trod_int ht h
  exact ⟨n, h1, bounds_i64 h2⟩
theorem open_i64 {t : TypeId} {v : Value} {b0 : Nat} {d : DataW H} {p : List MemPlace} (ht : P.underlying t = some (.int .i64))
    (hv : Value.okWide P w .any b0 t v) (h : DataW.Trod enc P w base (fun _ => true) held t v d p) : ∃ n : Int, v = .int .i64 n ∧ -9223372036854775808 ≤ n ∧ n ≤ 9223372036854775807 := by
  obtain ⟨fuel, hf⟩ := h
  obtain ⟨n, h1, h2⟩ := trod_i64 ht hf
  refine ⟨n, ?_, h2⟩
  obtain ⟨m, rfl⟩ := okWide_int ht hv
  simpa [Value.cells] using h1
/-- The weights of one argument. -/
theorem weights_at {ts : List TypeId} {ds : List (DataW H)} (h : (DataW.weightsEach P ts ds).all (· ≤ reachBytes) = true) {j : Nat} {t : TypeId} {d : DataW H} (ht : ts[j]? = some t) (hd : ds[j]? = some d) : ∀ m ∈ d.weights P t, m ≤ reachBytes := by
  intro m hm
  have := List.all_eq_true.1 h m (DataW.weights_mem_each ht hd m hm)
  simpa using this
end
end Go.Proofs.Ytglfbihdbdcgiaa

namespace Go.Proofs.Ytglfbihdbdcgiaa
open Go.ChangeShapes Go.WideShapes Go.ChangeAt Go.RowKit Go.Deep

section
variable {H : Type} {enc : TypeId × Value → H} {P : Program} {w : World} {base : Nat} {held : Bool}
theorem map_flat : ∀ zs : List Nat, zs.map u8v = zs.flatMap (fun b => [u8v b])
  | [] => rfl
  | z :: zs => by rw [List.map_cons, List.flatMap_cons, map_flat zs]; rfl
/-- Bytes that came in. -/
def IsBy (w : World) (A : Option Addr) (c : Nat) (bs : List Nat) : Prop := bs.length ≤ c ∧ c ≤ 140737488351232 ∧ Rd w 1 A bs.length (bs.map u8v) ∧ (∀ b ∈ bs, b < 256) ∧ SlA A c
theorem IsBy.bs {w : World} {A : Option Addr} {c : Nat} {bs : List Nat} (h : IsBy w A c bs) : Bs w (.slice A bs.length c) bs := ⟨A, c, rfl, h.1, by have := h.2.1; unfold maxLen; omega, h.2.2.1⟩
theorem IsBy.below {w w' : World} {A : Option Addr} {c : Nat} {bs : List Nat} (h : IsBy w A c bs) (b : Below w.heap.size w w') : IsBy w' A c bs := ⟨h.1, h.2.1, h.2.2.1.below b, h.2.2.2⟩
theorem IsBy.frame {w w' : World} {A : Option Addr} {c : Nat} {bs : List Nat} {S : List Nat} (h : IsBy w A c bs) (f : Fr 0 [] S w w') (hS : 0 < bs.length → ∀ a, A = some a → a.block ∉ S) : IsBy w' A c bs := ⟨h.1, h.2.1, h.2.2.1.frame f hS, h.2.2.2⟩

theorem trod_bytes {t e : TypeId} {fuel : Nat} {cs : List Value} {x : DataW H × List MemPlace} (ht : P.underlying t = some (.slice e)) (he : P.underlying e = some (.int .u8)) (hC : P.cellsOf e = 1) (hB : P.bytesOf e = 1)
    (h : DataW.trod enc P w base (fun _ => true) held fuel t cs = some x) (hw : ∀ m ∈ x.1.weights P t, m ≤ reachBytes) : ∃ A c bs, cs = [.slice A bs.length c] ∧ IsBy w A c bs := by
  obtain ⟨A, c, zs, h1, h2, h3, h4, h5, h6, h7⟩ := open_list (α := Nat) ht hC (by omega) (fun b => [u8v b]) (fun b => b < 256) (fun _ => rfl) (fun n cs x hx _ => by
    obtain ⟨z, rfl, _, hz⟩ := DataW.trod_int he hx
    have := bounds_u8 hz
    obtain ⟨m, rfl⟩ : ∃ m : Nat, z = m := ⟨z.toNat, by omega⟩
    exact ⟨m, rfl, by omega⟩) h hw
  rw [hB] at h3
  refine ⟨A, c, zs, h1, h2, by unfold reachBytes at h3; omega, ?_, h7, h5⟩
  rw [map_flat zs]
  exact h6
theorem open_bytes {t e : TypeId} {v : Value} {b0 : Nat} {d : DataW H} {p : List MemPlace} (ht : P.underlying t = some (.slice e)) (he : P.underlying e = some (.int .u8)) (hC : P.cellsOf e = 1) (hB : P.bytesOf e = 1)
    (hv : Value.okWide P w .any b0 t v) (h : DataW.Trod enc P w base (fun _ => true) held t v d p) (hw : ∀ m ∈ d.weights P t, m ≤ reachBytes) : ∃ A c bs, v = .slice A bs.length c ∧ IsBy w A c bs := by
  obtain ⟨a0, len0, cap0, rfl⟩ := okWide_slice ht hv
  obtain ⟨fuel, hf⟩ := h
  obtain ⟨A, c, bs, h1, h2⟩ := trod_bytes ht he hC hB hf hw
  simp [Value.cells] at h1
  obtain ⟨rfl, rfl, rfl⟩ := h1
  exact ⟨_, _, bs, rfl, h2⟩
end
end Go.Proofs.Ytglfbihdbdcgiaa

namespace Go.Proofs.Ytglfbihdbdcgiaa
open Go.RowKit

section
variable {P : Program} {ops : Array Oper} {R : Act → (World → Prop) → Prop} {o : Oper} {i : Nat} {l vis : List Nat} {S C : World → Prop} {a : Act}
/-- A call that hands back something, keeps S, and of which H holds until the next one. -/
theorem flow_gcall (H : Value → World → Prop) (ho : ops.toList[i]? = some o) (hv : boundIn vis o = true) (hw : Region.wanted o (yielded ops a.tmps) = true) (hb : behindB ops i l = true)
    (h : ∀ w, S w → C w → ∃ f args w', (execOp a.eval o).run P w = .ok (.enter f args) w' ∧ Calls P f args w' fun e w'' => ∃ v, e = .returned v ∧ S w'' ∧ H v w'')
    (h' : ∀ v, (∃ w, S w ∧ H v w) → FlowAll P ops R l (i :: vis) (fun w => S w ∧ True) (H v) (a.put o.dst v)) : FlowAll P ops R (i :: l) vis S C a :=
  ⟨o, by rw [← Array.getElem?_toList]; exact ho, hv, .inr ⟨hw, hb, S, .inr fun _ h => h, fun _ _ => True, H, fun w hs hc => by
    obtain ⟨f, args, w', h1, h2⟩ := h w hs hc
    exact .inr (.inr ⟨f, args, w', h1, h2.mono fun e w'' ⟨v, he, hs', hk⟩ => ⟨v, he, hs', trivial, hk⟩⟩), fun v ⟨w, h1, _, h2⟩ => h' v ⟨w, h1, h2⟩⟩⟩
/-- An operation of the language's own that makes or writes memory: of what it hands back H holds until the next one. -/
theorem flow_gmake (H : Value → World → Prop) (ho : ops.toList[i]? = some o) (hv : boundIn vis o = true) (hw : Region.wanted o (yielded ops a.tmps) = true) (hb : behindB ops i l = true)
    (h : ∀ w, S w → C w → ∃ v w', (execOp a.eval o).run P w = .ok (.value v) w' ∧ S w' ∧ H v w')
    (h' : ∀ v, (∃ w, S w ∧ H v w) → FlowAll P ops R l (i :: vis) (fun w => S w ∧ True) (H v) (a.put o.dst v)) : FlowAll P ops R (i :: l) vis S C a :=
  ⟨o, by rw [← Array.getElem?_toList]; exact ho, hv, .inr ⟨hw, hb, S, .inr fun _ h => h, fun _ _ => True, H, fun w hs hc => by
    obtain ⟨v, w', h1, h2, h3⟩ := h w hs hc
    exact .inl ⟨v, w', h1, h2, trivial, h3⟩, fun v ⟨w, h1, _, h2⟩ => h' v ⟨w, h1, h2⟩⟩⟩
end
/-- An operation that appends what may be read to a row that is the caller's own. -/
theorem exec_append_rd {P : Program} {o : Oper} {ρ : Operand → Value} {w : World} {S : World → Prop} {H : Value → World → Prop} (s x : Operand) (t : TypeId)
    (ho : o.op = .call { callee := .builtin .append, args := #[s, x], argTypes := #[t, t] })
    (base : Nat) (e : TypeId) (i : TypeInfo) (z : Value) (size bytes : Nat) (ht : P.underlying t = some (.slice e)) (hi : P.info? e = some i) (hz : i.zero = some z)
    (hsize : i.size = size) (hby : i.bytes = bytes) (hzs : z.cells.size = size) (hsz : 0 < size)
    (v : Value) (n : Nat) (xs : List Value) (hs : ρ s = v) (hown : w.ownsRow base e size v n xs)
    (A : Option Addr) (m c : Nat) (news : List Value) (hx : ρ x = .slice A m c) (hr : Rd w size A m news) (h1 : ∀ u ∈ news, u.oneCell' = true)
    (h63 : n + m ≤ maxLen) (hbytes : (n + m) * bytes ≤ 140737488355328) (hbase : base ≤ w.heap.size)
    (h : ∀ v' w', w'.ownsRow base e size v' (n + m) (xs ++ news) → w.grownBy w' v.ownBlock → S w' ∧ H v' w') :
    ∃ v' w', (execOp ρ o).run P w = .ok (.value v') w' ∧ S w' ∧ H v' w' := by
  obtain ⟨v', w', hrun, h2, h3, _⟩ := run_append_rd (P := P) w base t o.type e i z size bytes ht hi hz hsize hby hzs hsz v n xs hown A m c news hr h1 h63 hbytes hbase
  refine ⟨v', w', ?_, h v' w' h2 h3⟩
  unfold execOp
  simp only [ho, resolve, invoke, builtin, Sem.run_bind, Sem.run_pure, Result.andThen_ok, List.map_toArray, List.map_cons, List.map_nil, hs, hx, hrun]

end Go.Proofs.Ytglfbihdbdcgiaa
