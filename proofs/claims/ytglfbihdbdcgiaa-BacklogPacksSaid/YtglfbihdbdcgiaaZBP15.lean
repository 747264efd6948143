/- Joined: What a backlog's code is, and what any bytes are as a backlog: by definition; the one is the other's inverse. The address of a slice value. No program is named here. math/bits.Len64 of the library at this translation, by the kit's shelf in its plain mode: for every 64-bit number. -/
import Derived.Test.YtglfbihdbdcgiaaZBP13
import Derived.Test.YtglfbihdbdcgiaaZBP14
import Derived.Test.YtglfbihdbdcgiaaZBP1
import Derived.Shelf.Strconv.Itoa0
import Derived.Test.YtglfbihdbdcgiaaProg
namespace Go.Proofs.Ytglfbihdbdcgiaa
open Go.RowKit

def rowB (r : Int × Bool) : List Nat := numB r.1 ++ flagB r.2
def rowsB : List (Int × Bool) → List Nat
  | [] => []
  | r :: l => rowB r ++ rowsB l
theorem rowsB_snoc : ∀ (l : List (Int × Bool)) (r : Int × Bool), rowsB (l ++ [r]) = rowsB l ++ rowB r
  | [], r => by simp [rowsB]
  | x :: l, r => by rw [List.cons_append, rowsB, rowsB, rowsB_snoc l, List.append_assoc]
theorem rowB_len (r : Int × Bool) : (rowB r).length ≤ 18 := by
  have h1 := (numB_length r.1).2
  have h2 := (numB_length (if r.2 then 1 else 0)).2
  simp only [rowB, flagB, List.length_append]
  omega
theorem rowsB_len : ∀ l : List (Int × Bool), (rowsB l).length ≤ 18 * l.length
  | [] => by simp [rowsB]
  | r :: l => by
    have h1 := rowB_len r
    have h2 := rowsB_len l
    simp only [rowsB, List.length_append, List.length_cons]
    omega
/-- The code of a backlog. -/
def packB (rs : List (Int × Bool)) (out : Int) : List Nat := numB out ++ (numB rs.length ++ rowsB rs)
theorem packB_len (rs : List (Int × Bool)) (out : Int) : (packB rs out).length ≤ 18 + 18 * rs.length := by
  have h1 := (numB_length out).2
  have h2 := (numB_length rs.length).2
  have h3 := rowsB_len rs
  simp only [packB, List.length_append]
  omega
theorem flagB_lt (b : Bool) : ∀ x ∈ flagB b, x < 256 := numB_lt _
theorem rowsB_lt : ∀ (l : List (Int × Bool)), ∀ b ∈ rowsB l, b < 256
  | [] => by simp [rowsB]
  | r :: l => by
    intro b hb
    rcases List.mem_append.1 hb with hb | hb
    · rcases List.mem_append.1 hb with hb | hb
      · exact numB_lt _ b hb
      · exact numB_lt _ b hb
    · exact rowsB_lt l b hb
theorem packB_lt (rs : List (Int × Bool)) (out : Int) : ∀ b ∈ packB rs out, b < 256 := by
  intro b hb
  rcases List.mem_append.1 hb with hb | hb
  · exact numB_lt _ b hb
  · rcases List.mem_append.1 hb with hb | hb
    · exact numB_lt _ b hb
    · exact rowsB_lt rs b hb
/-- Where an order stands. -/
def at_ (rs : List (Int × Bool)) (o : Int) : Int := idx (fun r => r.1 == o) rs
/-- n rows, taken one by one. -/
def unR : Nat → List (Int × Bool) → List Nat × Bool → Option (List (Int × Bool) × (List Nat × Bool))
  | 0, rs, s => some (rs, s)
  | n + 1, rs, s => if at_ rs (numT s 1 9223372036854775807).1 = -1 then unR n (rs ++ [((numT s 1 9223372036854775807).1, (flagT (numT s 1 9223372036854775807).2).1)]) (flagT (numT s 1 9223372036854775807).2).2 else none
/-- The same as the reference does it. -/
def unX : Nat → List (Int × Bool) → List Nat × Bool → Option (List (Int × Bool) × (List Nat × Bool))
  | 0, rs, s => some (rs, s)
  | n + 1, rs, s => if s.2 = true then some (rs, s) else if (flagT (numT s 1 9223372036854775807).2).2.2 = true ∨ at_ rs (numT s 1 9223372036854775807).1 ≠ -1 then none else unX n (rs ++ [((numT s 1 9223372036854775807).1, (flagT (numT s 1 9223372036854775807).2).1)]) (flagT (numT s 1 9223372036854775807).2).2
def okR : Option (List (Int × Bool) × (List Nat × Bool)) → Option (List (Int × Bool))
  | none => none
  | some (rs, s) => if doneT s = 0 then some rs else none
def outBad (rs : List (Int × Bool)) (out : Int) : Prop := out ≠ 0 ∧ (at_ rs out = -1 ∨ (rs.getD (at_ rs out).toNat (0, false)).2 = true)
instance (rs : List (Int × Bool)) (out : Int) : Decidable (outBad rs out) := by unfold outBad; exact inferInstance
def endB (o : Int) : Option (List (Int × Bool)) → Option (List (Int × Bool) × Int)
  | none => none
  | some rs => if outBad rs o then none else some (rs, o)
/-- What any bytes are as a backlog. -/
def unB (c : List Nat) : Option (List (Int × Bool) × Int) := endB (numT (c, false) 0 9223372036854775807).1 (okR (unR (numT (numT (c, false) 0 9223372036854775807).2 0 256).1.toNat [] (numT (numT (c, false) 0 9223372036854775807).2 0 256).2))

theorem doneT_bad {s : List Nat × Bool} (h : s.2 = true) : doneT s = 10 := by unfold doneT; rw [if_pos (.inl h)]
theorem flagT_bad {s : List Nat × Bool} (h : s.2 = true) : (flagT s).2 = s := by unfold flagT; rw [numT_bad h]
theorem unR_bad : ∀ (n : Nat) (rs : List (Int × Bool)) (s : List Nat × Bool), s.2 = true → okR (unR n rs s) = none
  | 0, rs, s, h => by simp [unR, okR, doneT_bad h]
  | n + 1, rs, s, h => by
    rw [unR]
    split
    · rw [numT_bad h]
      simp only
      rw [flagT_bad h]
      exact unR_bad n _ s h
    · rfl
theorem okR_eq : ∀ (n : Nat) (rs : List (Int × Bool)) (s : List Nat × Bool), okR (unX n rs s) = okR (unR n rs s)
  | 0, rs, s => rfl
  | n + 1, rs, s => by
    by_cases hb : s.2 = true
    · rw [unR_bad _ _ _ hb, unX, if_pos hb]
      simp [okR, doneT_bad hb]
    · rw [unX, unR, if_neg hb]
      by_cases hi : at_ rs (numT s 1 9223372036854775807).1 = -1
      · rw [if_pos hi]
        by_cases hf : (flagT (numT s 1 9223372036854775807).2).2.2 = true
        · rw [if_pos (.inl hf), unR_bad _ _ _ hf]; rfl
        · rw [if_neg (by simp [hf, hi])]
          exact okR_eq n _ _
      · rw [if_neg hi, if_pos (.inr hi)]

theorem numT_back {s : List Nat × Bool} (hb : ∀ b ∈ s.1, b < 256) {a b : Int} (h : (numT s a b).2.2 = false) : s.2 = false ∧ s.1 = numB (numT s a b).1 ++ (numT s a b).2.1 ∧ a ≤ (numT s a b).1 ∧ (numT s a b).1 ≤ b := by
  obtain ⟨h1, k, h2, h3, h4, h5, _, _, _⟩ := numT_good hb h
  obtain ⟨_, h6, _, _⟩ := firstN_some hb h2
  exact ⟨h1, by rw [h5, h6, List.take_append_drop], h3, h4⟩
theorem flagT_back {s : List Nat × Bool} (hb : ∀ b ∈ s.1, b < 256) (h : (flagT s).2.2 = false) : s.2 = false ∧ s.1 = flagB (flagT s).1 ++ (flagT s).2.1 := by
  obtain ⟨h1, h2, h3, h4⟩ := numT_back hb h
  refine ⟨h1, h2.trans ?_⟩
  unfold flagT flagB
  simp only
  rcases (by omega : (numT s 0 1).1 = 0 ∨ (numT s 0 1).1 = 1) with e | e
  · rw [e]; rfl
  · rw [e]; rfl
theorem at_none {rs : List (Int × Bool)} {o : Int} (h : o ∉ rs.map (·.1)) : at_ rs o = -1 := idx_none fun r hr => by
  simp only [beq_eq_false_iff_ne, ne_eq]
  rintro rfl
  exact h (List.mem_map_of_mem hr)
theorem at_not {rs : List (Int × Bool)} {o : Int} (h : at_ rs o = -1) : o ∉ rs.map (·.1) := by
  intro hm
  obtain ⟨r, hr, e⟩ := List.mem_map.1 hm
  unfold at_ idx at h
  split at h
  · omega
  · rename_i hn
    have := (List.findIdx?_eq_none_iff.1 hn) r hr
    simp [e] at this

/-- A backlog as it may be. -/
structure GoodB (rs : List (Int × Bool)) (out : Int) : Prop where
  good : Good rs
  low : ∀ r ∈ rs, 1 ≤ r.1 ∧ r.1 ≤ 9223372036854775807
  out : out = 0 ∨ (out, false) ∈ rs
theorem GoodB.o {rs : List (Int × Bool)} {out : Int} (h : GoodB rs out) : 0 ≤ out ∧ out ≤ 9223372036854775807 := by
  rcases h.out with e | e
  · omega
  · have := h.low _ e; simp only at this; omega
theorem at_mem {rs : List (Int × Bool)} (hg : Good rs) {r : Int × Bool} (hr : r ∈ rs) : ∃ k, ∃ hk : k < rs.length, rs[k] = r ∧ at_ rs r.1 = k := by
  obtain ⟨k, hk, rfl⟩ := List.getElem_of_mem hr
  refine ⟨k, hk, rfl, idx_some hk (by simp) fun j hj => ?_⟩
  simp only [beq_eq_false_iff_ne, ne_eq]
  intro e
  have := hg.inj j k (by omega) hk e
  omega
theorem outBad_not {rs : List (Int × Bool)} (hg : Good rs) {out : Int} : ¬ outBad rs out ↔ (out = 0 ∨ (out, false) ∈ rs) := by
  constructor
  · intro h
    by_cases h0 : out = 0
    · exact .inl h0
    · right
      by_cases hn : at_ rs out = -1
      · exact absurd ⟨h0, .inl hn⟩ h
      · have hm : out ∈ rs.map (·.1) := by
          rcases Classical.em (out ∈ rs.map (·.1)) with h1 | h1
          · exact h1
          · exact absurd (at_none h1) hn
        obtain ⟨r, hr, rfl⟩ := List.mem_map.1 hm
        obtain ⟨k, hk, e, hi⟩ := at_mem hg hr
        have : r.2 = false := by
          rcases Bool.eq_false_or_eq_true r.2 with h1 | h1
          · exact absurd ⟨h0, .inr (by rw [hi]; simp [hk, e, h1])⟩ h
          · exact h1
        rw [← this]
        exact hr
  · rintro (rfl | hm) ⟨h0, h1⟩
    · exact h0 rfl
    · obtain ⟨k, hk, e, hi⟩ := at_mem hg hm
      simp only at hi
      rw [hi] at h1
      rcases h1 with h1 | h1
      · omega
      · simp [hk, e] at h1

theorem unR_put : ∀ (l pre : List (Int × Bool)), (∀ r ∈ l, 1 ≤ r.1 ∧ r.1 ≤ 9223372036854775807) → ((pre ++ l).map (·.1)).Nodup → unR l.length pre (rowsB l, false) = some (pre ++ l, ([], false))
  | [], pre, _, _ => by simp [unR, rowsB]
  | r :: l, pre, h, hn => by
    have h1 := h r (by simp)
    have e : rowsB (r :: l) = numB r.1 ++ (flagB r.2 ++ rowsB l) := by simp [rowsB, rowB]
    rw [List.length_cons, unR, e, numT_put r.1 ⟨by omega, h1.2⟩ _ h1.1 h1.2]
    simp only
    rw [flagT_put, if_pos]
    · have := unR_put l (pre ++ [r]) (fun x hx => h x (by simp [hx])) (by simpa using hn)
      simpa using this
    · refine at_none fun hm => ?_
      rw [List.map_append, List.nodup_append] at hn
      exact hn.2.2 _ hm _ (by simp) rfl
theorem unB_pack {rs : List (Int × Bool)} {out : Int} (h : GoodB rs out) : unB (packB rs out) = some (rs, out) := by
  have ho := h.o
  have hl := h.good.1
  unfold unB packB
  rw [numT_put out ⟨by omega, ho.2⟩ _ ho.1 ho.2]
  simp only
  rw [numT_put _ ⟨by omega, by omega⟩ _ (by omega) (by omega)]
  simp only [Int.toNat_natCast]
  rw [unR_put rs [] h.low (by simpa using h.good.2)]
  have hd : doneT ([], false) = 0 := by simp [doneT]
  simp only [List.nil_append, okR, endB]
  rw [if_pos hd]
  simp only
  rw [if_neg ((outBad_not h.good).2 h.out)]
theorem unR_back : ∀ (n : Nat) (pre : List (Int × Bool)) (s : List Nat × Bool) (rs : List (Int × Bool)) (s' : List Nat × Bool), (∀ b ∈ s.1, b < 256) → unR n pre s = some (rs, s') → s'.2 = false → (pre.map (·.1)).Nodup → (∀ r ∈ pre, 1 ≤ r.1 ∧ r.1 ≤ 9223372036854775807) →
    s.2 = false ∧ (rs.map (·.1)).Nodup ∧ (∀ r ∈ rs, 1 ≤ r.1 ∧ r.1 ≤ 9223372036854775807) ∧ ∃ l, rs = pre ++ l ∧ l.length = n ∧ s.1 = rowsB l ++ s'.1
  | 0, pre, s, rs, s', _, h, hs, hn, hp => by
    simp only [unR, Option.some.injEq, Prod.mk.injEq] at h
    obtain ⟨rfl, rfl⟩ := h
    exact ⟨hs, hn, hp, [], by simp, rfl, by simp [rowsB]⟩
  | n + 1, pre, s, rs, s', hb, h, hs, hn, hp => by
    rw [unR] at h
    split at h
    · rename_i hi
      have hb1 := numT_lt hb 1 9223372036854775807
      obtain ⟨x, hx⟩ : ∃ x, numT s 1 9223372036854775807 = x := ⟨_, rfl⟩
      rw [hx] at h hi hb1
      have hb2 : ∀ b ∈ (flagT x.2).2.1, b < 256 := numT_lt hb1 0 1
      have key : s.2 = false ∧ s.1 = numB x.1 ++ x.2.1 ∧ 1 ≤ x.1 ∧ x.1 ≤ 9223372036854775807 ∨ x.2.2 = true := by
        rcases Bool.eq_false_or_eq_true x.2.2 with e | e
        · exact .inr e
        · left
          have := numT_back hb (a := 1) (b := 9223372036854775807) (by rw [hx]; exact e)
          rw [hx] at this
          exact this
      rcases key with ⟨k1, k2, k3, k4⟩ | key
      · obtain ⟨m1, m2, m3, l, m4, m5, m6⟩ := unR_back n _ _ rs s' hb2 h hs (by
          rw [List.map_append, List.nodup_append]
          refine ⟨hn, by simp, fun a ha b hb e => ?_⟩
          simp at hb
          subst hb
          rw [e] at ha
          exact at_not hi ha) (fun r hr => by
          rcases List.mem_append.1 hr with hr | hr
          · exact hp r hr
          · simp at hr; subst hr; exact ⟨k3, k4⟩)
        obtain ⟨f1, f2⟩ := flagT_back hb1 m1
        refine ⟨k1, m2, m3, (x.1, (flagT x.2).1) :: l, by simp [m4], by simp [m5], ?_⟩
        rw [k2, f2, m6]
        simp [rowsB, rowB]
      · rw [flagT_bad key] at h
        have bad : ∀ (n : Nat) (rs : List (Int × Bool)) (t : List Nat × Bool) (rs' : List (Int × Bool)) (t' : List Nat × Bool), t.2 = true → unR n rs t = some (rs', t') → t'.2 = true := by
          intro n
          induction n with
          | zero => intro rs t rs' t' ht h; simp only [unR, Option.some.injEq, Prod.mk.injEq] at h; rw [← h.2]; exact ht
          | succ n ih =>
            intro rs t rs' t' ht h
            rw [unR] at h
            split at h
            · rw [numT_bad ht] at h
              simp only at h
              rw [flagT_bad ht] at h
              exact ih _ _ _ _ ht h
            · cases h
        rw [bad _ _ _ _ _ key h] at hs
        cases hs
    · cases h
theorem pack_unB {c : List Nat} (hb : ∀ b ∈ c, b < 256) {rs : List (Int × Bool)} {out : Int} (h : unB c = some (rs, out)) : GoodB rs out ∧ packB rs out = c := by
  unfold unB at h
  have hb1 := numT_lt (s := (c, false)) hb 0 9223372036854775807
  have hb2 := numT_lt hb1 0 256
  obtain ⟨x, hx⟩ : ∃ x, numT (c, false) 0 9223372036854775807 = x := ⟨_, rfl⟩
  obtain ⟨y, hy⟩ : ∃ y, numT x.2 0 256 = y := ⟨_, rfl⟩
  rw [hx] at h hb1 hb2
  rw [hy] at h hb2
  cases hr : unR y.1.toNat [] y.2 with
  | none => rw [hr] at h; simp [okR, endB] at h
  | some p =>
    obtain ⟨rs', s'⟩ := p
    rw [hr] at h
    simp only [okR] at h
    split at h
    · rename_i hd
      simp only [endB] at h
      split at h
      · cases h
      · rename_i hob
        simp only [Option.some.injEq, Prod.mk.injEq] at h
        obtain ⟨rfl, rfl⟩ := h
        have hs : s'.2 = false ∧ s'.1 = [] := by
          unfold doneT at hd
          split at hd
          · omega
          · rename_i hn
            rcases Bool.eq_false_or_eq_true s'.2 with e | e
            · exact absurd (.inl e) hn
            · refine ⟨e, ?_⟩
              cases h1 : s'.1 with
              | nil => rfl
              | cons a l => exact absurd (.inr (by rw [h1]; simp)) hn
        obtain ⟨m1, m2, m3, l, m4, m5, m6⟩ := unR_back _ _ _ _ _ hb2 hr hs.1 (by simp) (by simp)
        obtain ⟨n1, n2, n3, n4⟩ := numT_back hb1 (a := 0) (b := 256) (by rw [hy]; exact m1)
        rw [hy] at n2 n3 n4
        obtain ⟨o1, o2, o3, o4⟩ := numT_back (s := (c, false)) hb (a := 0) (b := 9223372036854775807) (by rw [hx]; exact n1)
        rw [hx] at o2 o3 o4
        simp only [List.nil_append] at m4
        subst m4
        have hg : Good rs' := ⟨by omega, m2⟩
        refine ⟨⟨hg, m3, (outBad_not hg).1 hob⟩, ?_⟩
        have e : (rs'.length : Int) = y.1 := by omega
        unfold packB
        rw [e]
        simp only at o2
        rw [o2, n2, m6, hs.2, List.append_nil]
    · simp [endB] at h

theorem at_found {rs : List (Int × Bool)} {n : Int} {i : Nat} (h : rs.findIdx? (fun r => r.1 == n) = some i) : ∃ hi : i < rs.length, rs[i].1 = n := by
  obtain ⟨hi, h1, _⟩ := List.findIdx?_eq_some_iff_getElem.1 h
  exact ⟨hi, by simpa using h1⟩
theorem GoodB.push {rs : List (Int × Bool)} {out : Int} (h : GoodB rs out) {n : Int} (hn : n ≤ 9223372036854775807) : GoodB (pushS rs n) out := by
  refine ⟨h.good.push n, ?_, ?_⟩
  · unfold pushS
    repeat' split
    all_goals first
      | exact h.low
      | (intro r hr
         rcases List.mem_append.1 hr with hr | hr
         · exact h.low r hr
         · simp at hr; subst hr; simp only; omega)
  · rcases h.out with e | e
    · exact .inl e
    · right
      unfold pushS
      repeat' split
      all_goals first
        | exact e
        | exact List.mem_append_left _ e
theorem GoodB.drop {rs : List (Int × Bool)} {out : Int} (h : GoodB rs out) (n : Int) : GoodB (dropS rs n) (dropO rs out n) := by
  refine ⟨h.good.drop n, ?_, ?_⟩
  · intro r hr
    refine h.low r ?_
    unfold dropS at hr
    split at hr
    · exact List.mem_of_mem_eraseIdx hr
    · exact hr
  · unfold dropS dropO
    cases hf : rs.findIdx? (fun r => r.1 == n) with
    | none => exact h.out
    | some i =>
      simp only
      obtain ⟨hi, hn⟩ := at_found hf
      unfold backO
      split
      · rename_i hc
        rcases h.out with e | e
        · exact .inl e
        · right
          obtain ⟨k, hk, he⟩ := List.getElem_of_mem e
          have hki : k ≠ i := by
            rintro rfl
            rw [he] at hn
            simp only at hn
            have := h.low _ e
            simp only at this
            rcases hc with hc | hc
            · omega
            · exact hc hn
          rw [List.mem_eraseIdx_iff_getElem]
          exact ⟨k, hk, hki, he⟩
      · exact .inl rfl
theorem GoodB.news {rs : List (Int × Bool)} {out : Int} (h : GoodB rs out) : GoodB (rs.map (newsRow out)) out := by
  refine ⟨h.good.news out, ?_, ?_⟩
  · intro r hr
    obtain ⟨x, hx, rfl⟩ := List.mem_map.1 hr
    exact h.low x hx
  · rcases h.out with e | e
    · exact .inl e
    · right
      refine List.mem_map.2 ⟨_, e, ?_⟩
      simp [newsRow]
theorem GoodB.try {rs : List (Int × Bool)} {out : Int} (h : GoodB rs out) : GoodB (tryS rs out) (tryO rs out) := by
  have h1 := h.low
  have h2 := h.out
  refine ⟨h.good.try out, ?_, ?_⟩
  · unfold tryS
    split
    · cases hf : rs.findIdx? (fun r => r.2) with
      | none => exact h1
      | some k =>
        obtain ⟨hk, _, _⟩ := List.findIdx?_eq_some_iff_getElem.1 hf
        simp only
        intro r hr
        rcases List.mem_or_eq_of_mem_set hr with hr | hr
        · exact h1 r hr
        · subst hr
          have := h1 rs[k] (List.getElem_mem hk)
          simpa [hk] using this
    · exact h1
  · unfold tryS tryO
    split
    · rename_i h0
      cases hf : rs.findIdx? (fun r => r.2) with
      | none => exact .inl rfl
      | some k =>
        obtain ⟨hk, _, _⟩ := List.findIdx?_eq_some_iff_getElem.1 hf
        right
        exact List.mem_set hk _
    · exact h2
theorem GoodB.back {rs : List (Int × Bool)} {out : Int} (h : GoodB rs out) (n : Int) : GoodB rs (backO out n) := by
  refine ⟨h.good, h.low, ?_⟩
  unfold backO
  split
  · exact h.out
  · exact .inl rfl
theorem GoodB.nil : GoodB [] 0 := ⟨Good.nil, by simp, .inl rfl⟩
end Go.Proofs.Ytglfbihdbdcgiaa

namespace Go.Proofs.Ytglfbihdbdcgiaa
open Go.RowKit

/-- The address of a slice value: nil, without room; or a cell of a block. -/
def SlA (A : Option Addr) (c : Nat) : Prop := c = 0 ∨ ∃ g o, A = some ⟨g, o, none⟩
theorem SlA.of_own {w : World} {base : Nat} {e : TypeId} {size n m c : Nat} {A : Option Addr} {xs : List Value} (h : w.ownsRow base e size (.slice A m c) n xs) : SlA A c := by
  rcases h.2 with ⟨h, _⟩ | ⟨g, cap, cur, h, _⟩
  · injection h with h1 h2 h3; exact .inl h3
  · injection h with h1 h2 h3; exact .inr ⟨g, 0, h1⟩
end Go.Proofs.Ytglfbihdbdcgiaa

namespace Go.Proofs
open Go.Shelf
def Try.lays129_ren : Go.Shelf.Ren := ⟨fun | 129 => 59 | n => n, fun | 53 => 98 | 3 => 3 | 4 => 4 | 46 => 99 | 5 => 5 | 9 => 9 | n => n, fun | n => n⟩
theorem Try.lays129 : Go.Proofs.Lays.n129 Try.prog Try.lays129_ren := {
  mixed := by kernel_rfl
  f129 := Try.func59.trans (congrArg some (by kernel_rfl))
  t3 := Try.underlying3
  a3 := Try.isAgg3
  z3 := Try.sizeOf3
  v3 := Try.zeroValue3
  t4 := Try.underlying4
  a4 := Try.isAgg4
  z4 := Try.sizeOf4
  v4 := Try.zeroValue4
  t5 := Try.underlying5
  a5 := Try.isAgg5
  z5 := Try.sizeOf5
  v5 := Try.zeroValue5
  t9 := Try.underlying9
  a9 := Try.isAgg9
  z9 := Try.sizeOf9
  v9 := Try.zeroValue9
  t46 := Try.underlying99
  a46 := Try.isAgg99
  z46 := Try.sizeOf99
  v46 := Try.zeroValue99
  t53 := Try.underlying98
  a53 := Try.isAgg98
  z53 := Try.sizeOf98
  v53 := Try.zeroValue98 }
/-- bits.Len64: "Len64 returns the minimum number of bits required to represent x; the result is 0 for x == 0.": IT RETURNS 'Lib.bitLen x'; the world is as it was. ('h0', 'h1': x is a uint64.) (LAID: no walk: one application.) -/
theorem Try.bits_Len64 (x : Int) (w : World) (h0 : 0 ≤ x) (h1 : x ≤ 18446744073709551615) :
    Calls Try.prog 59 #[.int .u64 x] w fun e w' => e = .returned (.int .i64 (Lib.bitLen x.toNat)) ∧ w' = w := Any.bits_Len64 Try.lays129 x w h0 h1
end Go.Proofs
