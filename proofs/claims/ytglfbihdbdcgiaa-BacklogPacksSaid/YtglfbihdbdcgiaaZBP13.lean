/- Joined: The law BacklogFair: for every slice of calls the call returns true. The law BacklogDoes, its plain part: what holds between two calls. Plain facts on numbers as bytes: the digits of a number, the cell of a number, the first number of bytes. No program is named here. -/
import Derived.Test.YtglfbihdbdcgiaaZBP4
import Derived.Test.YtglfbihdbdcgiaaZBP12
import Derived.Test.YtglfbihdbdcgiaaZBP10
import Derived.Test.YtglfbihdbdcgiaaZBP11
import Derived.Lib.BitFns
namespace Go.Proofs.Ytglfbihdbdcgiaa
open Go.RowKit

/-- What holds between two calls of the law. -/
structure FairInv (rs : List (Int × Bool)) (acc : List Int) (last : Int) : Prop where
  pos : ∀ i (h : i < rs.length), 1 ≤ rs[i].1 ∧ (Lit.int .i64 rs[i].1).wf = true
  inj : ∀ i j (hi : i < rs.length) (hj : j < rs.length), rs[i].1 = rs[j].1 → i = j
  ready : ∀ i (h : i < rs.length), rs[i].2 = true → last < i
  tried : ∀ x ∈ acc, ∃ (j : Nat) (h : j < rs.length), (j : Int) ≤ last ∧ rs[j].1 = x
  small : rs.length ≤ 256

theorem FairInv.start : FairInv [] [] (-1) := ⟨fun i h => absurd h (by simp), fun i j h => absurd h (by simp), fun i h => absurd h (by simp), fun x h => by simp at h, by simp⟩

theorem idx_neg {q : Int × Bool → Bool} {rs : List (Int × Bool)} (h : idx q rs = -1) : ∀ i (hi : i < rs.length), q rs[i] = false := by
  unfold idx at h
  cases hf : rs.findIdx? q with
  | none => exact fun i hi => List.findIdx?_eq_none_iff.1 hf _ (List.getElem_mem hi)
  | some k => rw [hf] at h; simp only at h; omega

theorem FairInv.push {rs : List (Int × Bool)} {acc : List Int} {last n : Int} (h : FairInv rs acc last) (hl : last < rs.length ∨ last = -1) (hn : (Lit.int .i64 n).wf = true) : FairInv (pushS rs n) acc last ∧ (last < (pushS rs n).length ∨ last = -1) := by
  unfold pushS
  split
  · exact ⟨h, hl⟩
  · rename_i h1
    split
    · rename_i h2
      split
      · exact ⟨h, hl⟩
      · rename_i h3
        have hne := idx_neg h2
        have hlen : (rs ++ [(n, false)]).length = rs.length + 1 := by simp
        refine ⟨⟨fun i hi => ?_, fun i j hi hj e => ?_, fun i hi hr => ?_, fun x hx => ?_, by rw [hlen]; omega⟩, ?_⟩
        · rw [hlen] at hi
          by_cases hc : i < rs.length
          · rw [List.getElem_append_left hc]; exact h.pos i hc
          · obtain rfl : i = rs.length := by omega
            simp
            exact ⟨by omega, hn⟩
        · rw [hlen] at hi hj
          by_cases hc : i < rs.length <;> by_cases hd : j < rs.length
          · rw [List.getElem_append_left hc, List.getElem_append_left hd] at e
            exact h.inj i j hc hd e
          · obtain rfl : j = rs.length := by omega
            rw [List.getElem_append_left hc] at e
            have := hne i hc
            simp at this e
            exact absurd e this
          · obtain rfl : i = rs.length := by omega
            rw [List.getElem_append_left hd] at e
            have := hne j hd
            simp at this e
            exact absurd e.symm this
          · omega
        · rw [hlen] at hi
          by_cases hc : i < rs.length
          · rw [List.getElem_append_left hc] at hr; exact h.ready i hc hr
          · obtain rfl : i = rs.length := by omega
            simp at hr
        · obtain ⟨j, hj, h1, h2⟩ := h.tried x hx
          exact ⟨j, by rw [hlen]; omega, h1, by rw [List.getElem_append_left hj]; exact h2⟩
        · rw [hlen]; omega
    · exact ⟨h, hl⟩

theorem FairInv.news {rs : List (Int × Bool)} {acc : List Int} {last : Int} (h : FairInv rs acc last) : FairInv (rs.map (newsRow 0)) [] (-1) := by
  refine ⟨fun i hi => ?_, fun i j hi hj e => ?_, fun i hi hr => by omega, fun x hx => by simp at hx, by simpa using h.small⟩
  · have hi' : i < rs.length := by simpa using hi
    simpa [newsRow] using h.pos i hi'
  · exact h.inj i j (by simpa using hi) (by simpa using hj) (by simpa [newsRow] using e)

theorem FairInv.try {rs : List (Int × Bool)} {acc : List Int} {last : Int} (h : FairInv rs acc last) {k : Nat} (hf : rs.findIdx? (fun r => r.2) = some k) :
    ∃ x, 1 ≤ x ∧ (Lit.int .i64 x).wf = true ∧ tryX rs 0 = x ∧ tryB rs 0 = true ∧ tryO rs 0 = x ∧ x ∉ acc ∧ idx (fun r => r.1 == x) (tryS rs 0) = k ∧ last < k ∧ k < (tryS rs 0).length ∧ (tryS rs 0).length = rs.length ∧ FairInv (tryS rs 0) (x :: acc) k := by
  obtain ⟨hk, hr, hb⟩ := List.findIdx?_eq_some_iff_getElem.1 hf
  have hlast := h.ready k hk hr
  have hX : tryX rs 0 = rs[k].1 := by simp [tryX, hf, hk]
  have hO : tryO rs 0 = rs[k].1 := by simp [tryO, hf, hk]
  have hB : tryB rs 0 = true := by simp [tryB, hf]
  have hS : tryS rs 0 = rs.set k (rs[k].1, false) := by simp [tryS, hf, hk]
  have hfst : ∀ i (hi : i < rs.length), ((rs.set k (rs[k].1, false))[i]'(by simpa using hi)).1 = rs[i].1 := by
    intro i hi
    rw [List.getElem_set]
    split
    · subst_vars; rfl
    · rfl
  rw [hS]
  refine ⟨rs[k].1, (h.pos k hk).1, (h.pos k hk).2, hX, hB, hO, ?_, ?_, hlast, by simpa using hk, by simp, ?_⟩
  · intro hx
    obtain ⟨j, hj, h1, h2⟩ := h.tried _ hx
    have := h.inj j k hj hk h2
    omega
  · refine idx_some (by simpa using hk) ?_ (fun j hj => ?_)
    · simp
    · have hj' : j < rs.length := by omega
      rw [hfst j hj']
      have := h.inj j k hj' hk
      simp
      intro e
      have := this e
      omega
  · refine ⟨fun i hi => ?_, fun i j hi hj e => ?_, fun i hi hr' => ?_, fun x hx => ?_, by simpa using h.small⟩
    · have hi' : i < rs.length := by simpa using hi
      rw [hfst i hi']
      exact h.pos i hi'
    · have hi' : i < rs.length := by simpa using hi
      have hj' : j < rs.length := by simpa using hj
      rw [hfst i hi', hfst j hj'] at e
      exact h.inj i j hi' hj' e
    · have hi' : i < rs.length := by simpa using hi
      rw [List.getElem_set] at hr'
      split at hr'
      · simp at hr'
      · rename_i hne
        rcases Nat.lt_or_ge i k with hc | hc
        · have := hb i hc
          rw [hr'] at this
          simp at this
        · omega
    · rcases List.mem_cons.1 hx with rfl | hx
      · exact ⟨k, by simpa using hk, Int.le_refl _, hfst k hk⟩
      · obtain ⟨j, hj, h1, h2⟩ := h.tried x hx
        exact ⟨j, by simpa using hj, by omega, by rw [hfst j hj]; exact h2⟩

theorem try_no {rs : List (Int × Bool)} (hf : rs.findIdx? (fun r => r.2) = none) : tryX rs 0 = 0 ∧ tryB rs 0 = false ∧ tryS rs 0 = rs ∧ tryO rs 0 = 0 := by
  simp [tryX, tryB, tryS, tryO, hf]

end Go.Proofs.Ytglfbihdbdcgiaa

namespace Go.Proofs.Ytglfbihdbdcgiaa
open Go.RowKit

/-- Rows as a backlog has them. -/
def Good (rs : List (Int × Bool)) : Prop := rs.length ≤ 256 ∧ (rs.map (·.1)).Nodup

theorem Good.inj {rs : List (Int × Bool)} (h : Good rs) : ∀ i j (hi : i < rs.length) (hj : j < rs.length), rs[i].1 = rs[j].1 → i = j := by
  have hp := List.pairwise_iff_getElem.1 h.2
  intro i j hi hj e
  rcases Nat.lt_trichotomy i j with hl | hl | hl
  · have := hp i j (by simpa using hi) (by simpa using hj) hl
    simp at this
    exact absurd e this
  · exact hl
  · have := hp j i (by simpa using hj) (by simpa using hi) hl
    simp at this
    exact absurd e.symm this

theorem Good.nil : Good [] := ⟨by simp, by simp⟩

theorem Good.push {rs : List (Int × Bool)} (h : Good rs) (n : Int) : Good (pushS rs n) := by
  unfold pushS
  split
  · exact h
  · split
    · rename_i h2
      split
      · exact h
      · refine ⟨by simp; omega, ?_⟩
        rw [List.map_append, List.nodup_append]
        refine ⟨h.2, by simp, fun a ha b hb => ?_⟩
        obtain ⟨r, hr, rfl⟩ := List.mem_map.1 ha
        obtain ⟨i, hi, rfl⟩ := List.getElem_of_mem hr
        have := idx_neg h2 i hi
        simp at this hb
        subst hb
        exact this
    · exact h

theorem Good.drop {rs : List (Int × Bool)} (h : Good rs) (n : Int) : Good (dropS rs n) := by
  unfold dropS
  split
  · rename_i i _
    refine ⟨Nat.le_trans (by rw [List.length_eraseIdx]; split <;> omega) h.1, ?_⟩
    exact h.2.sublist ((List.eraseIdx_sublist rs i).map _)
  · exact h

theorem Good.news {rs : List (Int × Bool)} (h : Good rs) (out : Int) : Good (rs.map (newsRow out)) := by
  refine ⟨by simpa using h.1, ?_⟩
  rw [List.map_map]
  exact h.2

theorem Good.try {rs : List (Int × Bool)} (h : Good rs) (out : Int) : Good (tryS rs out) := by
  unfold tryS
  split
  · split
    · rename_i k hf
      obtain ⟨hk, _, _⟩ := List.findIdx?_eq_some_iff_getElem.1 hf
      refine ⟨by simpa using h.1, ?_⟩
      have : (rs.set k ((rs.getD k (0, false)).1, false)).map (·.1) = rs.map (·.1) := by
        rw [List.map_set]
        have e : (rs.map (·.1))[k]'(by simpa using hk) = (rs.getD k (0, false)).1 := by simp [hk]
        rw [← e]
        exact List.set_getElem_self _
      rw [this]
      exact h.2
    · exact h
  · exact h

/-- A backlog, a reference and the call's variable. -/
def DS (w : World) (p q t : Nat) (K N : Int) (rb : List (Int × Bool)) (ob : Int) (rx : List (Int × Bool)) (ox : Int) (W : World) : Prop :=
  IsB W w.heap.size p rb ob ∧ IsX W w.heap.size q rx ox ∧ Below w.heap.size w W ∧ W.heap[t]? = some (.cells #[.int .i64 K, .int .i64 N] 28 (0, 0))
section
variable {w W W' : World} {p q t : Nat} {K N : Int} {rb rb' rx rx' : List (Int × Bool)} {ob ob' ox ox' : Int}
theorem DS.c1 (h : DS w p q t K N rb ob rx ox W) : W.cell? ⟨t, 1, none⟩ = some (.int .i64 N) := cell_at h.2.2.2 1
theorem DS.below (h : DS w p q t K N rb ob rx ox W) (hb : Below W.heap.size W W') : DS w p q t K N rb ob rx ox W' :=
  ⟨h.1.below hb, h.2.1.below hb, h.2.2.1.trans (hb.mono h.2.2.1.size), (hb.block t (lt_of_block h.2.2.2)).trans h.2.2.2⟩
theorem DS.b (h : DS w p q t K N rb ob rx ox W) {f : FuncId} {args : Array Value} {v : Value}
    (hc : Calls Try.prog f args W fun e W' => e = .returned v ∧ IsB W' w.heap.size p rb' ob' ∧ FrB w.heap.size W W') :
    Calls Try.prog f args W fun e W' => e = .returned v ∧ DS w p q t K N rb' ob' rx ox W' :=
  hc.mono fun _ _ ⟨he, hi, hf⟩ => ⟨he, hi, h.2.1.fr hf (by decide) (by decide), h.2.2.1.trans (hf.below h.2.2.1.size), hf.keep h.2.2.2 (by decide) (by simp)⟩
theorem DS.x (h : DS w p q t K N rb ob rx ox W) {f : FuncId} {args : Array Value} {v : Value}
    (hc : Calls Try.prog f args W fun e W' => e = .returned v ∧ IsX W' w.heap.size q rx' ox' ∧ FrX w.heap.size W W') :
    Calls Try.prog f args W fun e W' => e = .returned v ∧ DS w p q t K N rb ob rx' ox' W' :=
  hc.mono fun _ _ ⟨he, hi, hf⟩ => ⟨he, h.1.fr hf (by decide) (by decide), hi, h.2.2.1.trans (hf.below h.2.2.1.size), hf.keep h.2.2.2 (by decide) (by simp)⟩
end

/-- The worlds of a region that calls the one and then the other. -/
def DT (w : World) (p q t : Nat) (K N : Int) (rs : List (Int × Bool)) (out : Int) (rs1 : List (Int × Bool)) (o1 : Int) (s : Nat) (W : World) : Prop :=
  DS w p q t K N (if 1 ≤ s then rs1 else rs) (if 1 ≤ s then o1 else out) (if 2 ≤ s then rs1 else rs) (if 2 ≤ s then o1 else out) W

def DoesRel (w : World) (q : Nat) (wr : World) (i : Value) : Prop := ∃ (k : Nat) (rs : List (Int × Bool)) (out : Int), i = .int .i64 k ∧ Good rs ∧
  IsB wr w.heap.size w.heap.size rs out ∧ IsX wr w.heap.size q rs out ∧ Below w.heap.size w wr

end Go.Proofs.Ytglfbihdbdcgiaa

namespace Go.Proofs.Ytglfbihdbdcgiaa

/-- The digits of a number to the base 256, the highest first, without noughts ahead (at most f of them). -/
def digF : Nat → Nat → List Nat
  | 0, _ => []
  | f + 1, u => if u = 0 then [] else digF f (u / 256) ++ [u % 256]
def dig (u : Nat) : List Nat := digF 8 u

theorem digF_zero (f : Nat) : digF f 0 = [] := by cases f <;> simp [digF]
theorem digF_length (f u : Nat) (h : u < 256 ^ f) : (Lib.bitLenAux (8 * f) u + 7) / 8 = (digF f u).length := by
  induction f generalizing u with
  | zero => simp [digF, Lib.bitLenAux]
  | succ f ih =>
    by_cases h0 : u = 0
    · subst h0
      rw [digF_zero]
      have : 8 * (f + 1) = (8 * f + 7) + 1 := by omega
      rw [this]
      simp [Lib.bitLenAux]
    · have hq : u / 256 < 256 ^ f := by
        rw [Nat.div_lt_iff_lt_mul (by omega), ← Nat.pow_succ]
        exact h
      have h1 := ih (u / 256) hq
      rw [digF, if_neg h0, List.length_append, ← h1]
      -- eight halvings, or fewer where nothing is left
      have e8 : 8 * (f + 1) = 8 * f + 1 + 1 + 1 + 1 + 1 + 1 + 1 + 1 := by omega
      rw [e8]
      have hdiv : u / 2 / 2 / 2 / 2 / 2 / 2 / 2 / 2 = u / 256 := by omega
      simp only [Lib.bitLenAux, hdiv, List.length_singleton]
      by_cases c1 : u / 2 = 0
      · have : u / 256 = 0 := by omega
        rw [this]
        have hz : ∀ g, Lib.bitLenAux g 0 = 0 := fun g => by cases g <;> simp [Lib.bitLenAux]
        simp [h0, c1, hz]
      · by_cases c2 : u / 2 / 2 = 0
        · have : u / 256 = 0 := by omega
          rw [this]
          have hz : ∀ g, Lib.bitLenAux g 0 = 0 := fun g => by cases g <;> simp [Lib.bitLenAux]
          simp [h0, c1, c2, hz]
        · by_cases c3 : u / 2 / 2 / 2 = 0
          · have : u / 256 = 0 := by omega
            rw [this]
            have hz : ∀ g, Lib.bitLenAux g 0 = 0 := fun g => by cases g <;> simp [Lib.bitLenAux]
            simp [h0, c1, c2, c3, hz]
          · by_cases c4 : u / 2 / 2 / 2 / 2 = 0
            · have : u / 256 = 0 := by omega
              rw [this]
              have hz : ∀ g, Lib.bitLenAux g 0 = 0 := fun g => by cases g <;> simp [Lib.bitLenAux]
              simp [h0, c1, c2, c3, c4, hz]
            · by_cases c5 : u / 2 / 2 / 2 / 2 / 2 = 0
              · have : u / 256 = 0 := by omega
                rw [this]
                have hz : ∀ g, Lib.bitLenAux g 0 = 0 := fun g => by cases g <;> simp [Lib.bitLenAux]
                simp [h0, c1, c2, c3, c4, c5, hz]
              · by_cases c6 : u / 2 / 2 / 2 / 2 / 2 / 2 = 0
                · have : u / 256 = 0 := by omega
                  rw [this]
                  have hz : ∀ g, Lib.bitLenAux g 0 = 0 := fun g => by cases g <;> simp [Lib.bitLenAux]
                  simp [h0, c1, c2, c3, c4, c5, c6, hz]
                · by_cases c7 : u / 2 / 2 / 2 / 2 / 2 / 2 / 2 = 0
                  · have : u / 256 = 0 := by omega
                    rw [this]
                    have hz : ∀ g, Lib.bitLenAux g 0 = 0 := fun g => by cases g <;> simp [Lib.bitLenAux]
                    simp [h0, c1, c2, c3, c4, c5, c6, c7, hz]
                  · simp only [h0, c1, c2, c3, c4, c5, c6, c7, if_false]
                    omega
theorem dig_length (u : Nat) (h : u < 18446744073709551616) : (Lib.bitLen u + 7) / 8 = (dig u).length := digF_length 8 u (by simpa using h)
theorem digF_le (f u : Nat) : (digF f u).length ≤ f := by
  induction f generalizing u with
  | zero => simp [digF]
  | succ f ih =>
    rw [digF]
    split
    · simp
    · have := ih (u / 256)
      simp
      omega
theorem dig_le (u : Nat) : (dig u).length ≤ 8 := digF_le 8 u
theorem digF_lt (f u : Nat) : ∀ b ∈ digF f u, b < 256 := by
  induction f generalizing u with
  | zero => simp [digF]
  | succ f ih =>
    rw [digF]
    split
    · simp
    · intro b hb
      rcases List.mem_append.1 hb with hb | hb
      · exact ih _ b hb
      · simp at hb; omega
theorem dig_lt (u : Nat) : ∀ b ∈ dig u, b < 256 := digF_lt 8 u
/-- The number that bytes make. -/
def val (l : List Nat) : Nat := l.foldl (fun a b => a * 256 + b) 0
theorem val_snoc (l : List Nat) (b : Nat) : val (l ++ [b]) = val l * 256 + b := by simp [val]
theorem val_digF (f u : Nat) (h : u < 256 ^ f) : val (digF f u) = u := by
  induction f generalizing u with
  | zero => simp at h; subst h; simp [digF, val]
  | succ f ih =>
    rw [digF]
    split
    · subst_vars; simp [val]
    · rw [val_snoc, ih (u / 256) (by rw [Nat.div_lt_iff_lt_mul (by omega), ← Nat.pow_succ]; exact h)]
      omega
theorem val_dig (u : Nat) (h : u < 18446744073709551616) : val (dig u) = u := val_digF 8 u (by simpa using h)
/-- The j-th digit from the end. -/
theorem digF_get (f u : Nat) (h : u < 256 ^ f) (j : Nat) (hj : j < (digF f u).length) : (digF f u)[(digF f u).length - 1 - j]'(by omega) = u / 256 ^ j % 256 := by
  induction f generalizing u j with
  | zero => simp [digF] at hj
  | succ f ih =>
    by_cases h0 : u = 0
    · subst h0; rw [digF_zero] at hj; simp at hj
    · have hq : u / 256 < 256 ^ f := by rw [Nat.div_lt_iff_lt_mul (by omega), ← Nat.pow_succ]; exact h
      have e : digF (f + 1) u = digF f (u / 256) ++ [u % 256] := by rw [digF, if_neg h0]
      have hl : (digF (f + 1) u).length = (digF f (u / 256)).length + 1 := by rw [e]; simp
      cases j with
      | zero =>
        simp only [e, List.length_append, List.length_singleton, Nat.add_sub_cancel, Nat.sub_zero]
        rw [List.getElem_append_right (Nat.le_refl _)]
        simp
      | succ j =>
        have hj' : j < (digF f (u / 256)).length := by omega
        have := ih (u / 256) hq j hj'
        simp only [e, List.length_append, List.length_singleton, Nat.add_sub_cancel]
        rw [List.getElem_append_left (by omega)]
        have e2 : (digF f (u / 256)).length - (j + 1) = (digF f (u / 256)).length - 1 - j := by omega
        simp only [e2]
        rw [this, Nat.pow_succ, Nat.mul_comm, ← Nat.div_div_eq_div_mul]
theorem digF_pos (f u : Nat) (h : u < 256 ^ f) (h0 : 0 < u) : 0 < (digF f u).length := by
  cases f with
  | zero => simp at h; omega
  | succ f => rw [digF, if_neg (by omega)]; simp
/-- The first of the last k digits, with the others behind it: what a loop from the highest digit on has written. -/
def digTo (u k : Nat) : List Nat := (dig u).take k
theorem digTo_succ (u k : Nat) (h : u < 18446744073709551616) (hk : k < (dig u).length) : digTo u (k + 1) = digTo u k ++ [u / 256 ^ ((dig u).length - 1 - k) % 256] := by
  unfold digTo
  rw [List.take_succ_eq_append_getElem hk]
  have := digF_get 8 u (by simpa using h) ((dig u).length - 1 - k) (by unfold dig at hk ⊢; omega)
  congr 2
  unfold dig at hk this ⊢
  rw [← this]
  congr 1
  omega

/-- The cell of a number. -/
def numB (n : Int) : List Nat :=
  if 0 ≤ n ∧ n < 128 then [n.toNat] else if 0 ≤ n then (128 + (dig n.toNat).length) :: dig n.toNat else (144 + (dig (-1 - n).toNat).length) :: dig (-1 - n).toNat
/-- A 64-bit number. -/
def I64 (n : Int) : Prop := -9223372036854775808 ≤ n ∧ n ≤ 9223372036854775807
theorem numB_lt (n : Int) : ∀ b ∈ numB n, b < 256 := by
  unfold numB
  split
  · intro b hb; simp at hb; omega
  · split
    · intro b hb
      rcases List.mem_cons.1 hb with rfl | hb
      · have := dig_le n.toNat; omega
      · exact dig_lt _ b hb
    · intro b hb
      rcases List.mem_cons.1 hb with rfl | hb
      · have := dig_le (-1 - n).toNat; omega
      · exact dig_lt _ b hb
theorem numB_length (n : Int) : 1 ≤ (numB n).length ∧ (numB n).length ≤ 9 := by
  unfold numB
  split
  · simp
  · split
    · have := dig_le n.toNat; simp; omega
    · have := dig_le (-1 - n).toNat; simp; omega
end Go.Proofs.Ytglfbihdbdcgiaa
