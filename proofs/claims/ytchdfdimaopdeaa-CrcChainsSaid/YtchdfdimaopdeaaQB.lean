/- Bytes in memory: slices that read as bytes, texts of bytes, bytes that came in. -/
import Derived.Test.YtchdfdimaopdeaaOpenG
import Derived.Test.YtchdfdimaopdeaaMem3
import Derived.Test.YtchdfdimaopdeaaSlA
import Derived.Laws.IdiomStrings
import Derived.Lib.AppendZeros
import Derived.Maps.AppendAt
import Derived.Lib.AppendStr
namespace Go.Proofs.Ytchdfdimaopdeaa
open Go.ChangeShapes Go.WideShapes Go.ChangeAt Go.RowKit Go.Deep

/-- Bytes as cells. -/
def u8v (b : Nat) : Value := .int .u8 b
/-- A slice value that reads as bytes. -/
def Bs (w : World) (v : Value) (bs : List Nat) : Prop := ∃ A c, v = .slice A bs.length c ∧ bs.length ≤ c ∧ c ≤ maxLen ∧ Rd w 1 A bs.length (bs.map u8v)
/-- A call that hands back bytes and leaves all that was there as it was. -/
def RetB (bs : List Nat) (w : World) (e : Ending) (w' : World) : Prop := ∃ v, e = .returned v ∧ Bs w' v bs ∧ Below w.heap.size w w'
theorem Bs.below {w w' : World} {v : Value} {bs : List Nat} (h : Bs w v bs) (hb : Below w.heap.size w w') : Bs w' v bs := by
  obtain ⟨A, c, h1, h2, h3, h4⟩ := h
  exact ⟨A, c, h1, h2, h3, h4.below hb⟩
theorem Bs.of_own {w : World} {B e : Nat} {v : Value} {bs : List Nat} (h : w.ownsRow B e 1 v bs.length (bs.map u8v)) : Bs w v bs := by
  obtain ⟨A, c, h1, h2, h3, h4, _⟩ := own_slice h
  exact ⟨A, c, h1, h2, h3, h4⟩
theorem own_one (w : World) (e : TypeId) (v : Value) (B : Nat) (hB : B ≤ w.heap.size) : (w.alloc (.cells #[v] e)).ownsRow B e 1 (.slice (some ⟨w.heap.size, 0, none⟩) 1 1) 1 [v] :=
  ⟨rfl, .inr ⟨w.heap.size, 1, #[v], rfl, hB, block_new _ _, Nat.le_refl _, by unfold maxLen; omega, rfl, rfl⟩⟩
theorem Try.infoByte : (Try.prog.info? 5).map (fun i => (i.zero, i.size, i.bytes)) = some (some (.int .u8 0), 1, 1) := by kernel_rfl
theorem own_byte (w : World) (n : Int) (k : Nat) (h : n = k) : (w.alloc (.cells #[.int .u8 n] 5)).ownsRow w.heap.size 5 1 (.slice (some ⟨w.heap.size, 0, none⟩) 1 1) 1 ([k].map u8v) := by
  subst h
  exact own_one w _ _ _ (Nat.le_refl _)
/-- The text of bytes. -/
def strOf (bs : List Nat) : ByteArray := ⟨(bs.map UInt8.ofNat).toArray⟩
theorem strOf_toList (bs : List Nat) : (strOf bs).toList = bs.map UInt8.ofNat := by
  rw [ByteArray.toList_eq]
  simp [strOf]
theorem u8_inj {a b : Nat} (ha : a < 256) (hb : b < 256) (h : UInt8.ofNat a = UInt8.ofNat b) : a = b := by
  have := congrArg UInt8.toNat h
  simp at this
  omega
theorem map_u8_inj : ∀ {a b : List Nat}, (∀ x ∈ a, x < 256) → (∀ x ∈ b, x < 256) → a.map UInt8.ofNat = b.map UInt8.ofNat → a = b
  | [], [], _, _, _ => rfl
  | [], _ :: _, _, _, h => by simp at h
  | _ :: _, [], _, _, h => by simp at h
  | x :: a, y :: b, ha, hb, h => by
    simp only [List.map_cons, List.cons.injEq] at h
    rw [u8_inj (ha x (by simp)) (hb y (by simp)) h.1, map_u8_inj (fun z hz => ha z (by simp [hz])) (fun z hz => hb z (by simp [hz])) h.2]
theorem strOf_beq {a b : List Nat} (ha : ∀ x ∈ a, x < 256) (hb : ∀ x ∈ b, x < 256) : ((strOf a).toList == (strOf b).toList) = decide (a = b) := by
  rw [strOf_toList, strOf_toList]
  by_cases h : a = b
  · subst h; simp
  · have : a.map UInt8.ofNat ≠ b.map UInt8.ofNat := fun e => h (map_u8_inj ha hb e)
    simp [h, this]
theorem run_str (w : World) (A : Option Addr) (n c : Nat) (bs : List Nat) (hr : Rd w 1 A n (bs.map u8v)) (hb : ∀ x ∈ bs, x < 256) :
    (convert 23 9 (.slice A n c)).run Try.prog w = .ok (.string (strOf bs)) w := by
  have hn : n = bs.length := by have := hr.1; simp at this; omega
  subst hn
  cases A with
  | none =>
    have h0 : bs = [] := by
      by_cases h : 0 < bs.length
      · obtain ⟨g, o, ha, _⟩ := hr.2 h
        cases ha
      · exact List.eq_nil_of_length_eq_zero (by omega)
    subst h0
    rw [run_convert_bytes_string w _ _ 5 none _ c Try.underlying23 Try.underlying5 Try.underlying9]
    rfl
  | some a =>
    have := run_convert_bytes_back (P := Try.prog) w 23 9 5 a c (bs.map UInt8.ofNat) Try.underlying23 Try.underlying5 Try.underlying9 (fun j hj => by
      have hj' : j < bs.length := by simpa using hj
      obtain ⟨g, o, ha, _, hc⟩ := hr.2 (by omega)
      cases ha
      have e : (⟨g, o, none⟩ : Addr).add j = ⟨g, o + j, none⟩ := by unfold Addr.add; split <;> simp_all
      rw [e, hc j (u8v bs[j]) (by simp [hj'])]
      have := hb bs[j] (List.getElem_mem hj')
      simp [u8v]
      omega)
    simpa [strOf] using this
theorem u8_one' (bs : List Nat) : ∀ u ∈ bs.map u8v, u.oneCell' = true := by
  intro u hu
  obtain ⟨b, _, rfl⟩ := List.mem_map.1 hu
  rfl
theorem Bs.nil (w : World) : Bs w (.slice none 0 0) [] := ⟨none, 0, rfl, Nat.le_refl _, Nat.zero_le _, by simp, fun h => absurd h (by simp)⟩
theorem Rd.frame {w w' : World} {n : Nat} {A : Option Addr} {size : Nat} {xs : List Value} {S : List Nat} (h : Rd w size A n xs) (f : Fr 0 [] S w w') (hS : 0 < n → ∀ a, A = some a → a.block ∉ S) : Rd w' size A n xs := by
  refine ⟨h.1, fun hn => ?_⟩
  obtain ⟨g, o, rfl, hg, hc⟩ := h.2 hn
  have hb : w'.heap[g]? = w.heap[g]? := f.block g hg (.inr ⟨by simp, hS hn _ rfl⟩)
  exact ⟨g, o, rfl, Nat.lt_of_lt_of_le hg f.size, fun j u hu => (World.cell?_of_block (a := ⟨g, o + j, none⟩) hb).trans (hc j u hu)⟩
theorem Fr.keep0 {w w' : World} {S : List Nat} (h : Fr 0 [] S w w') {k : Nat} {o : Obj} (hk : w.heap[k]? = some o) (hs : k ∉ S) : w'.heap[k]? = some o :=
  (h.block k (Array.getElem?_eq_some_iff.1 hk).1 (.inr ⟨by simp, hs⟩)).trans hk
/-- A slice of byte slices. -/
def Bss (w : World) (v : Value) (l : List (List Nat)) : Prop :=
  ∃ A c hs, v = .slice A l.length c ∧ l.length ≤ c ∧ c ≤ maxLen ∧ Rd w 1 A l.length hs ∧ ∀ j (h : j < l.length) u, hs[j]? = some u → Bs w u l[j]
theorem Bss.below {w w' : World} {v : Value} {l : List (List Nat)} (h : Bss w v l) (b : Below w.heap.size w w') : Bss w' v l := by
  obtain ⟨A, c, hs, h1, h2, h3, h4, h5⟩ := h
  exact ⟨A, c, hs, h1, h2, h3, h4.below b, fun j hj u hu => (h5 j hj u hu).below b⟩

section
variable {P : Program} (w : World)
theorem run_append_rd_at (base : Nat) (t ty e : TypeId) (i : TypeInfo) (z : Value) (size bytes : Nat) (ht : P.underlying t = some (.slice e)) (hi : P.info? e = some i) (hz : i.zero = some z)
    (hsize : i.size = size) (hby : i.bytes = bytes) (hzs : z.cells.size = size) (hsz : 0 < size)
    (v : Value) (n : Nat) (xs : List Value) (hown : w.ownsRow base e size v n xs)
    (A : Option Addr) (m c : Nat) (news : List Value) (hr : Rd w size A m news) (h1 : ∀ u ∈ news, u.oneCell' = true)
    (h63 : n + m ≤ maxLen) (hbytes : (n + m) * bytes ≤ 140737488355328) (hbase : base ≤ w.heap.size) :
    ∃ v' w', (Builtin.append_ #[t, t] ty #[v, .slice A m c]).run P w = .ok v' w' ∧ w'.ownsRow base e size v' (n + m) (xs ++ news) ∧ w.grownBy w' v.ownBlock ∧ (v'.ownBlock = v.ownBlock ∨ v'.ownBlock = some w.heap.size) := by
  by_cases hm : m = 0
  · subst hm
    have hn : news = [] := List.eq_nil_of_length_eq_zero (by simpa using hr.1)
    subst hn
    cases A with
    | none =>
      refine ⟨v, w, ?_, by simpa using hown, World.grownBy.refl w _, .inl rfl⟩
      rcases hown.2 with ⟨rfl, rfl⟩ | ⟨g, cap, cur, rfl, _, _, hnc, _⟩
      · simp [Builtin.append_, run_underlying ht, sizeOf, typeInfo, hi, Builtin.lenOf, Builtin.firstCells]
      · simp [Builtin.append_, run_underlying ht, sizeOf, typeInfo, hi, Builtin.lenOf, Builtin.firstCells, hnc, storeCells]
    | some a =>
      obtain ⟨v', w', h2, h3, h4, _, h5⟩ := run_append_own_at (P := P) w base t ty e i z size bytes ht hi hz hsize hby hzs hsz v n xs hown a 0 c [] (by simp) (by simp) (by simp) h63 hbytes hbase
      exact ⟨v', w', h2, h3, h4, h5⟩
  · obtain ⟨g, o, rfl, hg, hc⟩ := hr.2 (by omega)
    obtain ⟨v', w', h2, h3, h4, _, h5⟩ := run_append_own_at (P := P) w base t ty e i z size bytes ht hi hz hsize hby hzs hsz v n xs hown ⟨g, o, none⟩ m c news hr.1 (fun j u hu => by
      have := hc j u hu
      have e : (⟨g, o, none⟩ : Addr).add j = ⟨g, o + j, none⟩ := by unfold Addr.add; split <;> simp_all
      rw [e]; exact this) h1 h63 hbytes hbase
    exact ⟨v', w', h2, h3, h4, h5⟩

theorem wp_append_rd_at {o : Oper} {a : Act} {K : Act → World → Prop} {Q : Exit → Act → World → Prop} (s x : Operand) (t : TypeId)
    (ho : o.op = .call { callee := .builtin .append, args := #[s, x], argTypes := #[t, t] })
    (base : Nat) (e : TypeId) (i : TypeInfo) (z : Value) (size bytes : Nat) (ht : P.underlying t = some (.slice e)) (hi : P.info? e = some i) (hz : i.zero = some z)
    (hsize : i.size = size) (hby : i.bytes = bytes) (hzs : z.cells.size = size) (hsz : 0 < size)
    (v : Value) (n : Nat) (xs : List Value) (hs : a.eval s = v) (hown : w.ownsRow base e size v n xs)
    (A : Option Addr) (m c : Nat) (news : List Value) (hx : a.eval x = .slice A m c) (hr : Rd w size A m news) (h1 : ∀ u ∈ news, u.oneCell' = true)
    (h63 : n + m ≤ maxLen) (hbytes : (n + m) * bytes ≤ 140737488355328) (hbase : base ≤ w.heap.size)
    (h : ∀ v' w', w'.ownsRow base e size v' (n + m) (xs ++ news) → w.grownBy w' v.ownBlock → (v'.ownBlock = v.ownBlock ∨ v'.ownBlock = some w.heap.size) → K (a.put o.dst v') w') : o.wp P a w K Q := by
  obtain ⟨v', w', hrun, h2, h3, h4⟩ := run_append_rd_at (P := P) w base t o.type e i z size bytes ht hi hz hsize hby hzs hsz v n xs hown A m c news hr h1 h63 hbytes hbase
  unfold Oper.wp execOp
  simp only [ho, resolve, invoke, builtin, Sem.run_bind, Sem.run_pure, Result.andThen_ok, List.map_toArray, List.map_cons, List.map_nil, hs, hx, hrun]
  exact h v' w' h2 h3 h4

theorem wpList_append_rd_at {ops : Array Oper} {rest : List Oper} {o : Oper} {a : Act} {Q : Exit → Act → World → Prop} (hgd : o.guard = none) (s x : Operand) (t : TypeId)
    (ho : o.op = .call { callee := .builtin .append, args := #[s, x], argTypes := #[t, t] })
    (base : Nat) (e : TypeId) (i : TypeInfo) (z : Value) (size bytes : Nat) (ht : P.underlying t = some (.slice e)) (hi : P.info? e = some i) (hz : i.zero = some z)
    (hsize : i.size = size) (hby : i.bytes = bytes) (hzs : z.cells.size = size) (hsz : 0 < size)
    (v : Value) (n : Nat) (xs : List Value) (hs : a.eval s = v) (hown : w.ownsRow base e size v n xs)
    (A : Option Addr) (m c : Nat) (news : List Value) (hx : a.eval x = .slice A m c) (hr : Rd w size A m news) (h1 : ∀ u ∈ news, u.oneCell' = true)
    (h63 : n + m ≤ maxLen) (hbytes : (n + m) * bytes ≤ 140737488355328) (hbase : base ≤ w.heap.size)
    (h : ∀ v' w', w'.ownsRow base e size v' (n + m) (xs ++ news) → w.grownBy w' v.ownBlock → (v'.ownBlock = v.ownBlock ∨ v'.ownBlock = some w.heap.size) → wpList P ops Q rest (a.put o.dst v') w') : wpList P ops Q (o :: rest) a w :=
  wpList_plain hgd fun _ hK => wp_append_rd_at w s x t ho base e i z size bytes ht hi hz hsize hby hzs hsz v n xs hs hown A m c news hx hr h1 h63 hbytes hbase fun v' w' h2 h3 h4 => hK _ _ (h v' w' h2 h3 h4)
end

section
variable {H : Type} {enc : TypeId × Value → H} {P : Program} {w : World} {base : Nat} {held : Bool}
theorem map_flat : ∀ zs : List Nat, zs.map u8v = zs.flatMap (fun b => [u8v b])
  | [] => rfl
  | z :: zs => by rw [List.map_cons, List.flatMap_cons, map_flat zs]; rfl
/-- Bytes that came in. -/
def IsBy (w : World) (A : Option Addr) (c : Nat) (bs : List Nat) : Prop := bs.length ≤ c ∧ c ≤ 140737488351232 ∧ Rd w 1 A bs.length (bs.map u8v) ∧ (∀ b ∈ bs, b < 256) ∧ SlA A c
theorem IsBy.bs {w : World} {A : Option Addr} {c : Nat} {bs : List Nat} (h : IsBy w A c bs) : Bs w (.slice A bs.length c) bs := ⟨A, c, rfl, h.1, by have := h.2.1; unfold maxLen; omega, h.2.2.1⟩
theorem IsBy.below {w w' : World} {A : Option Addr} {c : Nat} {bs : List Nat} (h : IsBy w A c bs) (b : Below w.heap.size w w') : IsBy w' A c bs := ⟨h.1, h.2.1, h.2.2.1.below b, h.2.2.2⟩
theorem IsBy.frame {w w' : World} {A : Option Addr} {c : Nat} {bs : List Nat} {S : List Nat} (h : IsBy w A c bs) (f : Fr 0 [] S w w') (hS : 0 < bs.length → ∀ a, A = some a → a.block ∉ S) : IsBy w' A c bs := ⟨h.1, h.2.1, h.2.2.1.frame f hS, h.2.2.2⟩

theorem trod_bytes {t e : TypeId} {fuel : Nat} {cs : List Value} {x : DataW H × List MemPlace} (ht : P.underlying t = some (.slice e)) (he : P.underlying e = some (.int .u8)) (hC : P.cellsOf e = 1) (hB : P.bytesOf e = 1)
    (h : DataW.trod enc P w base (fun _ => true) held fuel t cs = some x) (hw : ∀ m ∈ x.1.weights P t, m ≤ reachBytes) : ∃ A c bs, cs = [.slice A bs.length c] ∧ IsBy w A c bs := by
  obtain ⟨A, c, zs, h1, h2, h3, h4, h5, h6, h7⟩ := open_list (α := Nat) ht hC (by omega) (fun b => [u8v b]) (fun b => b < 256) (fun _ => rfl) (fun n cs x hx _ => by
    obtain ⟨z, rfl, _, hz⟩ := DataW.trod_int he hx
    have := bounds_u8 hz
    obtain ⟨m, rfl⟩ : ∃ m : Nat, z = m := ⟨z.toNat, by omega⟩
    exact ⟨m, rfl, by omega⟩) h hw
  rw [hB] at h3
  refine ⟨A, c, zs, h1, h2, by unfold reachBytes at h3; omega, ?_, h7, h5⟩
  rw [map_flat zs]
  exact h6
theorem open_bytes {t e : TypeId} {v : Value} {b0 : Nat} {d : DataW H} {p : List MemPlace} (ht : P.underlying t = some (.slice e)) (he : P.underlying e = some (.int .u8)) (hC : P.cellsOf e = 1) (hB : P.bytesOf e = 1)
    (hv : Value.okWide P w .any b0 t v) (h : DataW.Trod enc P w base (fun _ => true) held t v d p) (hw : ∀ m ∈ d.weights P t, m ≤ reachBytes) : ∃ A c bs, v = .slice A bs.length c ∧ IsBy w A c bs := by
  obtain ⟨a0, len0, cap0, rfl⟩ := okWide_slice ht hv
  obtain ⟨fuel, hf⟩ := h
  obtain ⟨A, c, bs, h1, h2⟩ := trod_bytes ht he hC hB hf hw
  simp [Value.cells] at h1
  obtain ⟨rfl, rfl, rfl⟩ := h1
  exact ⟨_, _, bs, rfl, h2⟩
end
end Go.Proofs.Ytchdfdimaopdeaa
