/- Shares, plain: what is left, who is chosen, that the greater weight gets no less. -/
import Derived.Test.YtochhjdjfgiaeaaNSym
namespace Go.Proofs.Ytochhjdjfgiaeaa
namespace SymP
/-- Parts as they are cut off: whose each is, and its rest. -/
def rs (n S : Nat) (ws : List Nat) (i : Nat) : Nat := n * ws.getD i 0 % S
/-- The parts in their order. -/
def sP (n S : Nat) (ws : List Nat) : List Pt := insN 0 (ws.length - 1) (pL n S ws ws.length)
theorem pL_get {n S : Nat} {ws : List Nat} {k i : Nat} (h : i < k) : (pL n S ws k).getD i z = (i, rs n S ws i) := by
  simp [pL, List.getD_eq_getElem?_getD, h, rs]
theorem pL_inc (n S : Nat) (ws : List Nat) : Inc (pL n S ws ws.length) 0 ws.length := fun s t _ h1 h2 => by
  rw [pL_get (by omega), pL_get h2]
  exact h1
theorem sP_srt {n S : Nat} {ws : List Nat} (h : 0 < ws.length) : Srt (sP n S ws) 0 ws.length ∧ (sP n S ws).Perm (pL n S ws ws.length) := by
  have := insN_of (a := 0) (b := ws.length) h (Nat.le_refl _) (pL_len n S ws ws.length) (pL_inc n S ws)
  exact ⟨this.1, this.2.perm⟩
theorem sP_len {n S : Nat} {ws : List Nat} (h : 0 < ws.length) : (sP n S ws).length = ws.length := (sP_srt h).2.length_eq.trans (pL_len n S ws ws.length)
theorem sP_mem {n S : Nat} {ws : List Nat} (h : 0 < ws.length) {p : Pt} : p ∈ sP n S ws ↔ p.1 < ws.length ∧ p.2 = rs n S ws p.1 := by
  rw [(sP_srt h).2.mem_iff]
  constructor
  · intro hp
    obtain ⟨i, hi, rfl⟩ := List.mem_map.1 hp
    exact ⟨by simpa using hi, rfl⟩
  · rintro ⟨h1, h2⟩
    exact List.mem_map.2 ⟨p.1, by simpa using h1, Prod.ext rfl h2.symm⟩
theorem sP_fst {n S : Nat} {ws : List Nat} (h : 0 < ws.length) : ((sP n S ws).map (·.1)).Nodup := by
  have hp := (sP_srt (n := n) (S := S) h).2.map (·.1)
  refine (hp.nodup_iff).2 ?_
  have e : (pL n S ws ws.length).map (·.1) = List.range ws.length := by simp [pL, Function.comp_def]
  rw [e]
  exact List.nodup_range
/-- Where one stands in that order. -/
theorem sP_at {n S : Nat} {ws : List Nat} (h : 0 < ws.length) {i : Nat} (hi : i < ws.length) : ∃ j, j < ws.length ∧ (sP n S ws).getD j z = (i, rs n S ws i) := by
  have hm : (i, rs n S ws i) ∈ sP n S ws := (sP_mem h).2 ⟨hi, rfl⟩
  obtain ⟨j, hj, e⟩ := List.getElem_of_mem hm
  refine ⟨j, by rw [sP_len h] at hj; exact hj, ?_⟩
  rw [List.getD_eq_getElem?_getD, List.getElem?_eq_getElem hj, Option.getD_some, e]
theorem sP_val {n S : Nat} {ws : List Nat} (h : 0 < ws.length) {j : Nat} (hj : j < ws.length) : ((sP n S ws).getD j z).1 < ws.length ∧ ((sP n S ws).getD j z).2 = rs n S ws ((sP n S ws).getD j z).1 := by
  have hj' : j < (sP n S ws).length := by rw [sP_len h]; exact hj
  have e : (sP n S ws).getD j z = (sP n S ws)[j] := by simp [List.getD_eq_getElem?_getD, hj']
  rw [e]
  exact (sP_mem h).1 (List.getElem_mem hj')
theorem sP_inj {n S : Nat} {ws : List Nat} (h : 0 < ws.length) {i j : Nat} (hi : i < ws.length) (hj : j < ws.length) (e : ((sP n S ws).getD i z).1 = ((sP n S ws).getD j z).1) : i = j := by
  have hi' : i < (sP n S ws).length := by rw [sP_len h]; exact hi
  have hj' : j < (sP n S ws).length := by rw [sP_len h]; exact hj
  have nd := sP_fst (n := n) (S := S) h
  refine (List.getElem_inj (h₀ := by simpa using hi') (h₁ := by simpa using hj') nd).1 ?_
  simpa [List.getD_eq_getElem?_getD, hi', hj'] using e
/-- Is it one of the first k in that order? -/
def isIn (n S : Nat) (ws : List Nat) (k i : Nat) : Bool := ((sP n S ws).take k).any fun p => p.1 == i
theorem isIn_iff {n S : Nat} {ws : List Nat} (h : 0 < ws.length) {k i : Nat} (hk : k ≤ ws.length) : isIn n S ws k i = true ↔ ∃ j, j < k ∧ ((sP n S ws).getD j z).1 = i := by
  have hl := sP_len (n := n) (S := S) h
  unfold isIn
  rw [List.any_eq_true]
  constructor
  · rintro ⟨p, hp, e⟩
    obtain ⟨j, hj, rfl⟩ := List.getElem_of_mem hp
    rw [List.length_take] at hj
    have hj' : j < (sP n S ws).length := by omega
    refine ⟨j, by omega, ?_⟩
    rw [List.getElem_take] at e
    simpa [List.getD_eq_getElem?_getD, hj'] using e
  · rintro ⟨j, hj, e⟩
    have hj' : j < (sP n S ws).length := by omega
    refine ⟨(sP n S ws)[j], List.mem_iff_getElem.2 ⟨j, by rw [List.length_take]; omega, by rw [List.getElem_take]⟩, ?_⟩
    simpa [List.getD_eq_getElem?_getD, hj'] using e
/-- The best of those that are not yet chosen is the next in that order. -/
theorem sP_next {n S : Nat} {ws : List Nat} {k b : Nat} (hk : k < ws.length) (hb : b < ws.length) (hg : isIn n S ws k b = false) (hbest : ∀ i, i < ws.length → isIn n S ws k i = false → i = b ∨ R (b, rs n S ws b) (i, rs n S ws i)) : ((sP n S ws).getD k z).1 = b := by
  have h : 0 < ws.length := by omega
  have hv := sP_val (n := n) (S := S) h hk
  generalize hc : (sP n S ws).getD k z = c at hv ⊢
  have hcn : isIn n S ws k c.1 = false := by
    rw [← Bool.not_eq_true, isIn_iff h (by omega)]
    rintro ⟨j, hj, e⟩
    have := sP_inj (n := n) (S := S) h (i := j) (j := k) (by omega) hk (by rw [hc]; exact e)
    omega
  rcases hbest c.1 hv.1 hcn with e | hr
  · exact e
  · obtain ⟨j, hj, e⟩ := sP_at (n := n) (S := S) h hb
    have hkj : ¬ j < k := fun hlt => by
      have : isIn n S ws k b = true := (isIn_iff h (by omega)).2 ⟨j, hlt, by rw [e]⟩
      rw [hg] at this
      exact absurd this (by decide)
    by_cases ejk : j = k
    · subst ejk
      rw [hc] at e
      rw [e]
    · have hs := (sP_srt (n := n) (S := S) h).1 k j (Nat.zero_le _) (by omega) hj
      rw [hc, e] at hs
      have ec : c = (c.1, rs n S ws c.1) := Prod.ext rfl hv.2
      rw [ec] at hs
      exact (R.asymm hs hr).elim
/-- What one has behind the first k. -/
theorem bump_at (o : List Int) (l : List Pt) (i : Nat) (hi : i < o.length) : (bump o l).getD i 0 = o.getD i 0 + ((l.filter fun p => p.1 == i).length : Int) := by
  induction l generalizing o with
  | nil => simp [bump]
  | cons p l ih =>
    have e : bump o (p :: l) = bump (o.set p.1 (o.getD p.1 0 + 1)) l := rfl
    rw [e, ih _ (by simpa using hi)]
    by_cases h : p.1 = i
    · subst h
      simp [hi]
      omega
    · have h' : (p.1 == i) = false := by simpa using h
      simp [List.getD_eq_getElem?_getD, List.getElem?_set_ne h, h']
theorem cnt_one {l : List Pt} (h : (l.map (·.1)).Nodup) (i : Nat) : (l.filter fun p => p.1 == i).length = if l.any (fun p => p.1 == i) then 1 else 0 := by
  induction l with
  | nil => rfl
  | cons p l ih =>
    rw [List.map_cons, List.nodup_cons] at h
    have ih := ih h.2
    by_cases e : p.1 = i
    · have hn : l.any (fun p => p.1 == i) = false := by
        rw [List.any_eq_false]
        intro q hq hqi
        have : q.1 = i := by simpa using hqi
        exact h.1 (List.mem_map.2 ⟨q, hq, by rw [this, e]⟩)
      rw [hn] at ih
      simp [e]
      simpa using ih
    · have h' : (p.1 == i) = false := by simpa using e
      rw [List.filter_cons, List.any_cons, h', Bool.false_or]
      exact ih
/-- What each gets. -/
theorem share_at {n S : Nat} {ws : List Nat} (h : 0 < ws.length) {k i : Nat} (hi : i < ws.length) : (bump (oL n S ws ws.length) ((sP n S ws).take k)).getD i 0 = ((n * ws.getD i 0 / S : Nat) : Int) + if isIn n S ws k i then 1 else 0 := by
  rw [bump_at _ _ _ (by rw [oL_len]; exact hi), cnt_one]
  · have e : (oL n S ws ws.length).getD i 0 = ((n * ws.getD i 0 / S : Nat) : Int) := by simp [oL, List.getD_eq_getElem?_getD, hi]
    rw [e]
    unfold isIn
    split <;> rfl
  · rw [List.map_take]
    exact (sP_fst (n := n) (S := S) h).sublist (List.take_sublist _ _)
/-- The sum grows by one for each. -/
theorem set_sum (o : List Int) (i : Nat) (hi : i < o.length) (v : Int) : (o.set i v).sum = o.sum - o.getD i 0 + v := by
  induction o generalizing i with
  | nil => simp at hi
  | cons a l ih =>
    cases i with
    | zero => simp; omega
    | succ i =>
      have := ih i (by simpa using hi)
      simp only [List.set_cons_succ, List.sum_cons, List.getD_cons_succ, this]
      omega
theorem bump_sum (o : List Int) (l : List Pt) (h : ∀ p ∈ l, p.1 < o.length) : (bump o l).sum = o.sum + l.length := by
  induction l generalizing o with
  | nil => simp [bump]
  | cons p l ih =>
    have e : bump o (p :: l) = bump (o.set p.1 (o.getD p.1 0 + 1)) l := rfl
    have hp := h p (by simp)
    rw [e, ih _ (fun q hq => by rw [List.length_set]; exact h q (by simp [hq])), set_sum _ _ hp, List.length_cons]
    omega
theorem map_sum_cast (l : List Nat) : (l.map fun x : Nat => (x : Int)).sum = (l.sum : Nat) := by
  induction l with
  | nil => rfl
  | cons a l ih => simp only [List.map_cons, List.sum_cons, ih]; omega
theorem oL_sum (n S : Nat) (ws : List Nat) : (oL n S ws ws.length).sum = (qS n S ws ws.length : Nat) := by
  unfold qS
  rw [← map_sum_cast, List.map_map]
  congr 1
  apply List.map_congr_left
  intro i hi
  have : i < ws.length := by simpa using hi
  simp [this]
/-- Sums over places. -/
def sumI (m : Nat) (f : Nat → Nat) : Nat := ((List.range m).map f).sum
theorem sumI_succ (m : Nat) (f : Nat → Nat) : sumI (m + 1) f = sumI m f + f m := by simp [sumI, List.range_succ]
theorem sumI_ws (ws : List Nat) : ∀ m, m ≤ ws.length → sumI m (fun i => ws.getD i 0) = (ws.take m).sum
  | 0, _ => by simp [sumI]
  | m + 1, h => by
    rw [sumI_succ, sumI_ws ws m (by omega), List.take_succ_eq_append_getElem (by omega), List.sum_append]
    simp [List.getD_eq_getElem?_getD, show m < ws.length by omega]
theorem sumI_cut (n S : Nat) (ws : List Nat) : ∀ m, n * sumI m (fun i => ws.getD i 0) = S * qS n S ws m + sumI m (rs n S ws)
  | 0 => by simp [sumI, qS]
  | m + 1 => by
    rw [sumI_succ, sumI_succ, qS_succ, Nat.mul_add, Nat.mul_add, sumI_cut n S ws m]
    have := Nat.div_add_mod (n * ws.getD m 0) S
    unfold rs
    omega
theorem sumI_le {m M : Nat} {f : Nat → Nat} (h : ∀ i, i < m → f i ≤ M) : sumI m f ≤ m * M := by
  induction m with
  | zero => simp [sumI]
  | succ m ih =>
    have h1 := ih fun i hi => h i (by omega)
    have h2 := h m (by omega)
    rw [sumI_succ, Nat.succ_mul]
    omega
/-- What is left over is less than how many they are; it is the sum of the rests. -/
theorem left_of {n S : Nat} {ws : List Nat} (hS : ws.sum = S) (hS0 : 0 < S) : ∃ left, n = qS n S ws ws.length + left ∧ S * left = sumI ws.length (rs n S ws) ∧ left < ws.length := by
  have hw : sumI ws.length (fun i => ws.getD i 0) = S := by rw [sumI_ws ws _ (Nat.le_refl _), List.take_length, hS]
  have hc := sumI_cut n S ws ws.length
  rw [hw] at hc
  have hr : sumI ws.length (rs n S ws) ≤ ws.length * (S - 1) := sumI_le fun i _ => by
    have := Nat.mod_lt (n * ws.getD i 0) hS0
    unfold rs
    omega
  have hlen : 0 < ws.length := by
    cases ws with
    | nil => simp at hS; omega
    | cons a l => simp
  have hle : qS n S ws ws.length ≤ n := by
    refine Nat.le_of_mul_le_mul_left (c := S) ?_ hS0
    rw [Nat.mul_comm S n]
    omega
  obtain ⟨left, hl⟩ : ∃ left, n = qS n S ws ws.length + left := ⟨n - qS n S ws ws.length, by omega⟩
  have he : S * left = sumI ws.length (rs n S ws) := by
    have : n * S = S * qS n S ws ws.length + S * left := by rw [← Nat.mul_add, ← hl, Nat.mul_comm]
    omega
  refine ⟨left, hl, he, ?_⟩
  have : S * left < S * ws.length := by
    rw [he, Nat.mul_comm S]
    refine Nat.lt_of_le_of_lt hr ?_
    exact Nat.mul_lt_mul_of_pos_left (by omega) hlen
  exact Nat.lt_of_mul_lt_mul_left this
theorem share_sum {n S left : Nat} {ws : List Nat} (h : 0 < ws.length) (hq : n = qS n S ws ws.length + left) (hl : left ≤ ws.length) : (bump (oL n S ws ws.length) ((sP n S ws).take left)).sum = (n : Int) := by
  rw [bump_sum, oL_sum, List.length_take, sP_len h]
  · omega
  · intro p hp
    rw [oL_len]
    exact ((sP_mem h).1 (List.mem_of_mem_take hp)).1
theorem sum_nn : ∀ (o : List Int), (∀ x ∈ o, 0 ≤ x) → 0 ≤ o.sum
  | [], _ => by simp
  | a :: l, h => by
    have h1 := sum_nn l fun x hx => h x (by simp [hx])
    have h2 := h a (by simp)
    rw [List.sum_cons]
    omega
theorem getD_sum_le : ∀ (o : List Int) (i : Nat), (∀ x ∈ o, 0 ≤ x) → o.getD i 0 ≤ o.sum
  | [], i, _ => by simp
  | a :: l, 0, h => by
    have h1 : 0 ≤ l.sum := by
      exact sum_nn l fun x hx => h x (by simp [hx])
    simp; omega
  | a :: l, i + 1, h => by
    have := getD_sum_le l i fun x hx => h x (by simp [hx])
    have := h a (by simp)
    simp only [List.getD_cons_succ, List.sum_cons]
    omega
/-- Who has no rest is not chosen. -/
theorem isIn_rest {n S left i : Nat} {ws : List Nat} (hS0 : 0 < S) (h : 0 < ws.length) (hl : left < ws.length) (he : S * left = sumI ws.length (rs n S ws)) (hi : isIn n S ws left i = true) : 0 < rs n S ws i := by
  obtain ⟨j, hj, e⟩ := (isIn_iff h (by omega)).1 hi
  rcases Nat.eq_zero_or_pos (rs n S ws i) with h0 | h0
  · exfalso
    have hv := sP_val (n := n) (S := S) h (j := j) (by omega)
    have hs := (sP_srt (n := n) (S := S) h).1
    -- behind j there is nothing left
    have hz : ∀ t, j ≤ t → t < ws.length → ((sP n S ws).getD t z).2 = 0 := fun t h1 h2 => by
      by_cases et : t = j
      · subst et; rw [hv.2, e, h0]
      · have := hs j t (Nat.zero_le _) (by omega) h2
        have h3 : ((sP n S ws).getD j z).2 = 0 := by rw [hv.2, e, h0]
        unfold R at this
        omega
    have hsum : sumI ws.length (rs n S ws) = sumI ws.length (fun t => ((sP n S ws).getD t z).2) := by
      have hp := ((sP_srt (n := n) (S := S) h).2.map (·.2)).sum_nat
      have e1 : (pL n S ws ws.length).map (·.2) = (List.range ws.length).map (rs n S ws) := by simp [pL, Function.comp_def, rs]
      have e2 : (sP n S ws).map (·.2) = (List.range ws.length).map (fun t => ((sP n S ws).getD t z).2) := by
        apply List.ext_getElem
        · simp [sP_len h]
        · intro t h1 h2
          have ht : t < (sP n S ws).length := by simpa using h1
          simp [List.getD_eq_getElem?_getD, ht]
      rw [e1, e2] at hp
      exact hp.symm
    have hb : ∀ m, m ≤ ws.length → sumI m (fun t => ((sP n S ws).getD t z).2) ≤ j * (S - 1) := by
      intro m hm
      induction m with
      | zero => simp [sumI]
      | succ m ih =>
        have ih := ih (by omega)
        rw [sumI_succ]
        by_cases hmj : m < j
        · have hle : sumI m (fun t => ((sP n S ws).getD t z).2) ≤ m * (S - 1) := sumI_le fun t ht => by
            rw [(sP_val (n := n) (S := S) h (j := t) (by omega)).2]
            have := Nat.mod_lt (n * ws.getD ((sP n S ws).getD t z).1 0) hS0
            unfold rs
            omega
          have h2 : ((sP n S ws).getD m z).2 ≤ S - 1 := by
            rw [(sP_val (n := n) (S := S) h (j := m) (by omega)).2]
            have := Nat.mod_lt (n * ws.getD ((sP n S ws).getD m z).1 0) hS0
            unfold rs
            omega
          have h3 : (m + 1) * (S - 1) ≤ j * (S - 1) := Nat.mul_le_mul_right _ hmj
          rw [Nat.succ_mul] at h3
          omega
        · rw [hz m (by omega) (by omega)]
          exact ih
    have h1 := hb ws.length (Nat.le_refl _)
    rw [← hsum, ← he] at h1
    have h2 : j * (S - 1) ≤ j * S := Nat.mul_le_mul_left j (by omega)
    have h3 : S * (j + 1) ≤ S * left := Nat.mul_le_mul_left S hj
    rw [Nat.mul_succ, Nat.mul_comm S j] at h3
    omega
  · exact h0
/-- The greater weight gets no less. -/
theorem fair {n S left i k : Nat} {ws : List Nat} (hS0 : 0 < S) (h : 0 < ws.length) (hl : left < ws.length) (he : S * left = sumI ws.length (rs n S ws)) (hi : i < ws.length) (hw : ws.getD k 0 < ws.getD i 0) :
    (n * ws.getD k 0 / S) + (if isIn n S ws left k then 1 else 0) ≤ (n * ws.getD i 0 / S) + (if isIn n S ws left i then 1 else 0) := by
  have hm : n * ws.getD k 0 ≤ n * ws.getD i 0 := Nat.mul_le_mul_left n (by omega)
  have hd : n * ws.getD k 0 / S ≤ n * ws.getD i 0 / S := Nat.div_le_div_right hm
  by_cases hq : n * ws.getD k 0 / S < n * ws.getD i 0 / S
  · split <;> split <;> omega
  · have hqe : n * ws.getD k 0 / S = n * ws.getD i 0 / S := by omega
    by_cases hin : isIn n S ws left k = true
    · have hr := isIn_rest hS0 h hl he hin
      have hn : 0 < n := by
        rcases Nat.eq_zero_or_pos n with h0 | h0
        · subst h0
          simp [rs] at hr
        · exact h0
      have hmm : n * ws.getD k 0 < n * ws.getD i 0 := Nat.mul_lt_mul_of_pos_left hw hn
      have d1 := Nat.div_add_mod (n * ws.getD k 0) S
      have d2 := Nat.div_add_mod (n * ws.getD i 0) S
      rw [hqe] at d1
      have hrr : rs n S ws k < rs n S ws i := by
        unfold rs
        omega
      obtain ⟨jk, hjk, ek⟩ := (isIn_iff h (by omega)).1 hin
      obtain ⟨ji, hji, ei⟩ := sP_at (n := n) (S := S) h hi
      have hvk := sP_val (n := n) (S := S) h (j := jk) (by omega)
      have hin2 : isIn n S ws left i = true := by
        refine (isIn_iff h (by omega)).2 ⟨ji, ?_, by rw [ei]⟩
        by_cases hjj : ji ≤ jk
        · omega
        · exfalso
          have hs := (sP_srt (n := n) (S := S) h).1 jk ji (Nat.zero_le _) (by omega) hji
          rw [ei] at hs
          have hv2 := hvk.2
          rw [ek] at hv2
          unfold R at hs
          simp only at hs
          omega
      rw [if_pos hin, if_pos hin2, hqe]
      exact Nat.le_refl _
    · rw [if_neg hin]
      omega
/-- With twice the weights all stand as before. -/
def dbl (p : Pt) : Pt := (p.1, 2 * p.2)
theorem dbl_get (l : List Pt) (j : Nat) : (l.map dbl).getD j (0, 0) = dbl (l.getD j (0, 0)) := by
  simp only [List.getD_eq_getElem?_getD, List.getElem?_map]
  cases l[j]? <;> rfl
theorem swapL_dbl (l : List Pt) (j : Nat) : swapL (l.map dbl) j = (swapL l j).map dbl := by
  unfold swapL
  rw [dbl_get, dbl_get, List.map_set, List.map_set]
theorem insD_dbl (a : Nat) : ∀ (j : Nat) (l : List Pt), insD a j (l.map dbl) = (insD a j l).map dbl
  | 0, l => rfl
  | j + 1, l => by
    have e : (a < j + 1 ∧ ((l.map dbl).getD j (0, 0)).2 < ((l.map dbl).getD (j + 1) (0, 0)).2) ↔ (a < j + 1 ∧ (l.getD j (0, 0)).2 < (l.getD (j + 1) (0, 0)).2) := by
      rw [dbl_get, dbl_get]
      unfold dbl
      simp only
      omega
    rw [insD, insD]
    by_cases hc : a < j + 1 ∧ (l.getD j (0, 0)).2 < (l.getD (j + 1) (0, 0)).2
    · rw [if_pos hc, if_pos (e.2 hc), swapL_dbl, insD_dbl]
    · rw [if_neg hc, if_neg (fun h => hc (e.1 h))]
theorem insN_dbl (a : Nat) : ∀ (k : Nat) (l : List Pt), insN a k (l.map dbl) = (insN a k l).map dbl
  | 0, l => rfl
  | k + 1, l => by rw [insN, insN, insN_dbl, insD_dbl]
theorem dbl_w (ws : List Nat) (i : Nat) : (ws.map (2 * ·)).getD i 0 = 2 * ws.getD i 0 := by
  simp only [List.getD_eq_getElem?_getD, List.getElem?_map]
  cases ws[i]? <;> rfl
theorem sP_dbl (n S : Nat) (ws : List Nat) : sP n (2 * S) (ws.map (2 * ·)) = (sP n S ws).map dbl := by
  unfold sP
  rw [List.length_map, ← insN_dbl]
  congr 1
  unfold pL
  rw [List.map_map]
  apply List.map_congr_left
  intro i _
  have : n * (2 * ws.getD i 0) % (2 * S) = 2 * (n * ws.getD i 0 % S) := by
    rw [Nat.mul_left_comm, Nat.mul_mod_mul_left]
  simp only [Function.comp, dbl, dbl_w, this]
theorem oL_dbl (n S : Nat) (ws : List Nat) : oL n (2 * S) (ws.map (2 * ·)) ws.length = oL n S ws ws.length := by
  unfold oL
  rw [List.length_map]
  apply List.map_congr_left
  intro i _
  have : n * (2 * ws.getD i 0) / (2 * S) = n * ws.getD i 0 / S := by
    rw [Nat.mul_left_comm, Nat.mul_div_mul_left _ _ (by decide)]
  rw [dbl_w, this]
theorem bump_dbl (o : List Int) (l : List Pt) : bump o (l.map dbl) = bump o l := by
  induction l generalizing o with
  | nil => rfl
  | cons p l ih => exact ih _
theorem share_dbl (n S left : Nat) (ws : List Nat) : bump (oL n (2 * S) (ws.map (2 * ·)) ws.length) ((sP n (2 * S) (ws.map (2 * ·))).take left) = bump (oL n S ws ws.length) ((sP n S ws).take left) := by
  rw [oL_dbl, sP_dbl, ← List.map_take, bump_dbl]
theorem qS_dbl (n S : Nat) (ws : List Nat) (k : Nat) : qS n (2 * S) (ws.map (2 * ·)) k = qS n S ws k := by
  unfold qS
  congr 1
  apply List.map_congr_left
  intro i _
  rw [dbl_w, Nat.mul_left_comm, Nat.mul_div_mul_left _ _ (by decide)]
theorem sum_dbl (ws : List Nat) : (ws.map (2 * ·)).sum = 2 * ws.sum := by
  induction ws with
  | nil => rfl
  | cons a l ih => simp only [List.map_cons, List.sum_cons, ih]; omega
end SymP
end Go.Proofs.Ytochhjdjfgiaeaa
