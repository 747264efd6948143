/- The law BacklogFair: for every slice of calls the call returns true. -/
import Derived.Test.YtglfbihdbdcgiaaBack6
import Derived.Test.YtglfbihdbdcgiaaPairs
import Derived.Test.YtglfbihdbdcgiaaMapB
namespace Go.Proofs.Ytglfbihdbdcgiaa
open Go.RowKit

/-- What holds between two calls of the law. -/
structure FairInv (rs : List (Int × Bool)) (acc : List Int) (last : Int) : Prop where
  pos : ∀ i (h : i < rs.length), 1 ≤ rs[i].1 ∧ (Lit.int .i64 rs[i].1).wf = true
  inj : ∀ i j (hi : i < rs.length) (hj : j < rs.length), rs[i].1 = rs[j].1 → i = j
  ready : ∀ i (h : i < rs.length), rs[i].2 = true → last < i
  tried : ∀ x ∈ acc, ∃ (j : Nat) (h : j < rs.length), (j : Int) ≤ last ∧ rs[j].1 = x
  small : rs.length ≤ 256

theorem FairInv.start : FairInv [] [] (-1) := ⟨fun i h => absurd h (by simp), fun i j h => absurd h (by simp), fun i h => absurd h (by simp), fun x h => by simp at h, by simp⟩

theorem idx_neg {q : Int × Bool → Bool} {rs : List (Int × Bool)} (h : idx q rs = -1) : ∀ i (hi : i < rs.length), q rs[i] = false := by
  unfold idx at h
  cases hf : rs.findIdx? q with
  | none => exact fun i hi => List.findIdx?_eq_none_iff.1 hf _ (List.getElem_mem hi)
  | some k => rw [hf] at h; simp only at h; omega

theorem FairInv.push {rs : List (Int × Bool)} {acc : List Int} {last n : Int} (h : FairInv rs acc last) (hl : last < rs.length ∨ last = -1) (hn : (Lit.int .i64 n).wf = true) : FairInv (pushS rs n) acc last ∧ (last < (pushS rs n).length ∨ last = -1) := by
  unfold pushS
  split
  · exact ⟨h, hl⟩
  · rename_i h1
    split
    · rename_i h2
      split
      · exact ⟨h, hl⟩
      · rename_i h3
        have hne := idx_neg h2
        have hlen : (rs ++ [(n, false)]).length = rs.length + 1 := by simp
        refine ⟨⟨fun i hi => ?_, fun i j hi hj e => ?_, fun i hi hr => ?_, fun x hx => ?_, by rw [hlen]; omega⟩, ?_⟩
        · rw [hlen] at hi
          by_cases hc : i < rs.length
          · rw [List.getElem_append_left hc]; exact h.pos i hc
          · obtain rfl : i = rs.length := by omega
            simp
            exact ⟨by omega, hn⟩
        · rw [hlen] at hi hj
          by_cases hc : i < rs.length <;> by_cases hd : j < rs.length
          · rw [List.getElem_append_left hc, List.getElem_append_left hd] at e
            exact h.inj i j hc hd e
          · obtain rfl : j = rs.length := by omega
            rw [List.getElem_append_left hc] at e
            have := hne i hc
            simp at this e
            exact absurd e this
          · obtain rfl : i = rs.length := by omega
            rw [List.getElem_append_left hd] at e
            have := hne j hd
            simp at this e
            exact absurd e.symm this
          · omega
        · rw [hlen] at hi
          by_cases hc : i < rs.length
          · rw [List.getElem_append_left hc] at hr; exact h.ready i hc hr
          · obtain rfl : i = rs.length := by omega
            simp at hr
        · obtain ⟨j, hj, h1, h2⟩ := h.tried x hx
          exact ⟨j, by rw [hlen]; omega, h1, by rw [List.getElem_append_left hj]; exact h2⟩
        · rw [hlen]; omega
    · exact ⟨h, hl⟩

theorem FairInv.news {rs : List (Int × Bool)} {acc : List Int} {last : Int} (h : FairInv rs acc last) : FairInv (rs.map (newsRow 0)) [] (-1) := by
  refine ⟨fun i hi => ?_, fun i j hi hj e => ?_, fun i hi hr => by omega, fun x hx => by simp at hx, by simpa using h.small⟩
  · have hi' : i < rs.length := by simpa using hi
    simpa [newsRow] using h.pos i hi'
  · exact h.inj i j (by simpa using hi) (by simpa using hj) (by simpa [newsRow] using e)

theorem FairInv.try {rs : List (Int × Bool)} {acc : List Int} {last : Int} (h : FairInv rs acc last) {k : Nat} (hf : rs.findIdx? (fun r => r.2) = some k) :
    ∃ x, 1 ≤ x ∧ (Lit.int .i64 x).wf = true ∧ tryX rs 0 = x ∧ tryB rs 0 = true ∧ tryO rs 0 = x ∧ x ∉ acc ∧ idx (fun r => r.1 == x) (tryS rs 0) = k ∧ last < k ∧ k < (tryS rs 0).length ∧ (tryS rs 0).length = rs.length ∧ FairInv (tryS rs 0) (x :: acc) k := by
  obtain ⟨hk, hr, hb⟩ := List.findIdx?_eq_some_iff_getElem.1 hf
  have hlast := h.ready k hk hr
  have hX : tryX rs 0 = rs[k].1 := by simp [tryX, hf, hk]
  have hO : tryO rs 0 = rs[k].1 := by simp [tryO, hf, hk]
  have hB : tryB rs 0 = true := by simp [tryB, hf]
  have hS : tryS rs 0 = rs.set k (rs[k].1, false) := by simp [tryS, hf, hk]
  have hfst : ∀ i (hi : i < rs.length), ((rs.set k (rs[k].1, false))[i]'(by simpa using hi)).1 = rs[i].1 := by
    intro i hi
    rw [List.getElem_set]
    split
    · subst_vars; rfl
    · rfl
  rw [hS]
  refine ⟨rs[k].1, (h.pos k hk).1, (h.pos k hk).2, hX, hB, hO, ?_, ?_, hlast, by simpa using hk, by simp, ?_⟩
  · intro hx
    obtain ⟨j, hj, h1, h2⟩ := h.tried _ hx
    have := h.inj j k hj hk h2
    omega
  · refine idx_some (by simpa using hk) ?_ (fun j hj => ?_)
    · simp
    · have hj' : j < rs.length := by omega
      rw [hfst j hj']
      have := h.inj j k hj' hk
      simp
      intro e
      have := this e
      omega
  · refine ⟨fun i hi => ?_, fun i j hi hj e => ?_, fun i hi hr' => ?_, fun x hx => ?_, by simpa using h.small⟩
    · have hi' : i < rs.length := by simpa using hi
      rw [hfst i hi']
      exact h.pos i hi'
    · have hi' : i < rs.length := by simpa using hi
      have hj' : j < rs.length := by simpa using hj
      rw [hfst i hi', hfst j hj'] at e
      exact h.inj i j hi' hj' e
    · have hi' : i < rs.length := by simpa using hi
      rw [List.getElem_set] at hr'
      split at hr'
      · simp at hr'
      · rename_i hne
        rcases Nat.lt_or_ge i k with hc | hc
        · have := hb i hc
          rw [hr'] at this
          simp at this
        · omega
    · rcases List.mem_cons.1 hx with rfl | hx
      · exact ⟨k, by simpa using hk, Int.le_refl _, hfst k hk⟩
      · obtain ⟨j, hj, h1, h2⟩ := h.tried x hx
        exact ⟨j, by simpa using hj, by omega, by rw [hfst j hj]; exact h2⟩

theorem try_no {rs : List (Int × Bool)} (hf : rs.findIdx? (fun r => r.2) = none) : tryX rs 0 = 0 ∧ tryB rs 0 = false ∧ tryS rs 0 = rs ∧ tryO rs 0 = 0 := by
  simp [tryX, tryB, tryS, tryO, hf]

end Go.Proofs.Ytglfbihdbdcgiaa
