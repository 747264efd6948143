/- The reference's Share: how it chooses, plain; what it refuses. -/
import Derived.Test.YtochhjdjfgiaeaaNShAny
namespace Go.Proofs.Ytochhjdjfgiaeaa
open Go.RowKit
namespace SymP
/-- The best of those below i that are not yet given one more. -/
def Bst (n S : Nat) (us : List Nat) (k i : Nat) (v : Int) : Prop := (v = -1 ∧ ∀ j, j < i → isIn n S us k j = true) ∨ ∃ b, b < i ∧ v = (b : Int) ∧ isIn n S us k b = false ∧ ∀ j, j < i → isIn n S us k j = false → j = b ∨ R (b, rs n S us b) (j, rs n S us j)
theorem Bst.start (n S : Nat) (us : List Nat) (k : Nat) : Bst n S us k 0 (-1) := .inl ⟨rfl, fun j h => absurd h (by omega)⟩
theorem Bst.skip {n S : Nat} {us : List Nat} {k i : Nat} {v : Int} (h : Bst n S us k i v) (hi : isIn n S us k i = true) : Bst n S us k (i + 1) v := by
  rcases h with ⟨h1, h2⟩ | ⟨b, h1, h2, h3, h4⟩
  · refine .inl ⟨h1, fun j hj => ?_⟩
    by_cases e : j = i
    · rw [e]; exact hi
    · exact h2 j (by omega)
  · refine .inr ⟨b, by omega, h2, h3, fun j hj hf => ?_⟩
    by_cases e : j = i
    · rw [e, hi] at hf; exact absurd hf (by decide)
    · exact h4 j (by omega) hf
theorem Bst.first {n S : Nat} {us : List Nat} {k i : Nat} {v : Int} (h : Bst n S us k i v) (hv : v < 0) (hi : isIn n S us k i = false) : Bst n S us k (i + 1) (i : Int) := by
  rcases h with ⟨h1, h2⟩ | ⟨b, h1, h2, h3, h4⟩
  · refine .inr ⟨i, by omega, rfl, hi, fun j hj hf => ?_⟩
    by_cases e : j = i
    · exact .inl e
    · rw [h2 j (by omega)] at hf; exact absurd hf (by decide)
  · omega
theorem Bst.some {n S : Nat} {us : List Nat} {k i : Nat} {v : Int} (h : Bst n S us k i v) (hv : 0 ≤ v) : ∃ b, b < i ∧ v = (b : Int) ∧ isIn n S us k b = false ∧ ∀ j, j < i → isIn n S us k j = false → j = b ∨ R (b, rs n S us b) (j, rs n S us j) := by
  rcases h with ⟨h1, _⟩ | h
  · omega
  · exact h
theorem Bst.better {n S : Nat} {us : List Nat} {k i b : Nat} (h : Bst n S us k i (b : Int)) (hr : rs n S us b < rs n S us i) (hi : isIn n S us k i = false) : Bst n S us k (i + 1) (i : Int) := by
  obtain ⟨b', h1, h2, h3, h4⟩ := h.some (by omega)
  obtain rfl : b = b' := by omega
  refine .inr ⟨i, by omega, rfl, hi, fun j hj hf => ?_⟩
  by_cases e : j = i
  · exact .inl e
  · have hib : R (i, rs n S us i) (b, rs n S us b) := .inl hr
    rcases h4 j (by omega) hf with e | e
    · rw [e]; exact .inr hib
    · exact .inr (hib.trans e)
theorem Bst.stay {n S : Nat} {us : List Nat} {k i b : Nat} (h : Bst n S us k i (b : Int)) (hr : ¬ rs n S us b < rs n S us i) : Bst n S us k (i + 1) (b : Int) := by
  obtain ⟨b', h1, h2, h3, h4⟩ := h.some (by omega)
  obtain rfl : b = b' := by omega
  refine .inr ⟨b, by omega, rfl, h3, fun j hj hf => ?_⟩
  by_cases e : j = i
  · subst e
    refine .inr ?_
    unfold R
    simp only
    omega
  · exact h4 j (by omega) hf
theorem isIn_not {n S : Nat} {us : List Nat} {k : Nat} (hk : k < us.length) : isIn n S us k ((sP n S us).getD k z).1 = false := by
  have h : 0 < us.length := by omega
  rw [← Bool.not_eq_true, isIn_iff h (by omega)]
  rintro ⟨j, hj, e⟩
  have := sP_inj (n := n) (S := S) h (i := j) (j := k) (by omega) hk e
  omega
theorem Bst.last {n S : Nat} {us : List Nat} {k : Nat} {v : Int} (h : Bst n S us k us.length v) (hk : k < us.length) : ∃ b, b < us.length ∧ v = (b : Int) ∧ ((sP n S us).getD k z).1 = b ∧ isIn n S us k b = false := by
  have h0 : 0 < us.length := by omega
  rcases h with ⟨h1, h2⟩ | ⟨b, h1, h2, h3, h4⟩
  · have := h2 _ (sP_val (n := n) (S := S) h0 hk).1
    rw [isIn_not hk] at this
    exact absurd this (by decide)
  · exact ⟨b, h1, h2, sP_next hk h1 h3 h4, h3⟩
theorem isIn_succ {n S : Nat} {us : List Nat} {k : Nat} (hk : k < us.length) (i : Nat) : isIn n S us (k + 1) i = (isIn n S us k i || ((sP n S us).getD k z).1 == i) := by
  have h0 : 0 < us.length := by omega
  have hl : k < (sP n S us).length := by rw [sP_len h0]; exact hk
  unfold isIn
  rw [List.take_succ_eq_append_getElem hl, List.any_append]
  simp [List.getD_eq_getElem?_getD, hl]
/-- Who was given one more. -/
def gL (n S : Nat) (us : List Nat) (k : Nat) : List Value := (List.range us.length).map fun i => .bool (isIn n S us k i)
theorem gL_len (n S : Nat) (us : List Nat) (k : Nat) : (gL n S us k).length = us.length := by simp [gL]
theorem gL_zero (n S : Nat) (us : List Nat) : gL n S us 0 = List.replicate us.length (.bool false) := by
  apply List.ext_getElem
  · simp [gL]
  · intro i h1 h2; simp [gL, isIn]
theorem gL_get {n S : Nat} {us : List Nat} {k i : Nat} (hi : i < us.length) : (gL n S us k)[i]? = .some (.bool (isIn n S us k i)) := by simp [gL, hi]
theorem gL_succ {n S : Nat} {us : List Nat} {k : Nat} (hk : k < us.length) : gL n S us (k + 1) = (gL n S us k).set ((sP n S us).getD k z).1 (.bool true) := by
  apply List.ext_getElem
  · simp [gL]
  · intro i h1 h2
    have hi : i < us.length := by simpa [gL] using h1
    have hs := isIn_succ (n := n) (S := S) hk i
    obtain ⟨c, hc⟩ : ∃ c, ((sP n S us).getD k z).1 = c := ⟨_, rfl⟩
    simp only [hc] at hs h2 ⊢
    by_cases h : c = i
    · subst h
      rw [List.getElem_set_self]
      simp [gL, hs]
    · rw [List.getElem_set_ne h]
      have h' : (c == i) = false := by simpa using h
      simp [gL, hs, h']
/-- The rests. -/
def rL (n S : Nat) (us : List Nat) (k : Nat) : List Value := (List.range us.length).map fun i => .int .u64 (if i < k then ((rs n S us i : Nat) : Int) else 0)
theorem rL_len (n S : Nat) (us : List Nat) (k : Nat) : (rL n S us k).length = us.length := by simp [rL]
theorem rL_zero (n S : Nat) (us : List Nat) : rL n S us 0 = List.replicate us.length (.int .u64 0) := by
  apply List.ext_getElem
  · simp [rL]
  · intro i h1 h2; simp [rL]
theorem rL_get {n S : Nat} {us : List Nat} {i : Nat} (hi : i < us.length) : (rL n S us us.length)[i]? = .some (.int .u64 ((rs n S us i : Nat) : Int)) := by simp [rL, hi]
theorem rL_succ (n S : Nat) (us : List Nat) (k : Nat) (hk : k < us.length) : rL n S us (k + 1) = (rL n S us k).set k (.int .u64 ((n * us.getD k 0 % S : Nat) : Int)) := by
  apply List.ext_getElem
  · simp [rL]
  · intro i h1 h2
    have hi : i < us.length := by simpa [rL] using h1
    by_cases h : i = k
    · subst h; simp [rL, rs]
    · rw [List.getElem_set_ne (by omega)]
      simp only [rL, List.getElem_map, List.getElem_range]
      by_cases h' : i < k
      · rw [if_pos (by omega), if_pos h']
      · rw [if_neg (by omega), if_neg h']
theorem bump_next {n S : Nat} {us : List Nat} {k : Nat} (hk : k < us.length) (o : List Int) : bump o ((sP n S us).take (k + 1)) = (bump o ((sP n S us).take k)).set ((sP n S us).getD k z).1 ((bump o ((sP n S us).take k)).getD ((sP n S us).getD k z).1 0 + 1) := by
  have hl : k < (sP n S us).length := by rw [sP_len (by omega)]; exact hk
  rw [List.take_succ_eq_append_getElem hl, bump_succ]
  simp [List.getD_eq_getElem?_getD, hl]
end SymP

/-- Sums of counts. -/
theorem sum_may : ∀ {ws : List Int}, (∀ x ∈ ws, mayN x = true) → 0 ≤ ws.sum ∧ ws.sum ≤ ws.length * 1099511627776
  | [], _ => by simp
  | a :: l, h => by
    have h1 := sum_may (ws := l) fun x hx => h x (List.mem_cons_of_mem _ hx)
    have h2 := mayN_iff.1 (h a (List.mem_cons_self ..))
    simp only [List.sum_cons, List.length_cons]
    omega
theorem sumI_take_succ (ws : List Int) (k : Nat) (h : k < ws.length) : (ws.take (k + 1)).sum = (ws.take k).sum + ws[k] := by
  rw [List.take_succ_eq_append_getElem h, List.sum_append]; simp

set_option maxRecDepth 100000 in
set_option maxHeartbeats 2000000 in
theorem xshare_no {n : Int} {ws : List Int} (h : ¬ ∃ N us, MaySh n ws N us) (A : Option Addr) (c : Nat) (w : World) (hr : Rd w 1 A ws.length (ws.map i64v)) :
    Calls Try.prog 17 #[.int .i64 n, .slice A ws.length c] w fun e w' => e = .returned (.tuple #[.slice none 0 0, .int .i64 1]) ∧ Below w.heap.size w w' := by
  have HH := Lib.hid h
  have HR := Lib.hid hr
  clear hr h
  go_enter Try.func17, Try.ntmps17
  go_wp2_with fail
  refine (xmay_any n _).mono ?_
  rintro e w1 ⟨rfl, rfl⟩
  cases hn : mayN n
  case false =>
    go_wp2
    go_ret2
    exact ⟨rfl, Below.refl _ _⟩
  case true =>
  have HMN := Lib.hid hn
  clear hn
  by_cases h0 : ws.length = 0
  · have q0 : ((ws.length : Int) == 0) = true := by simp [h0]
    have HL0 := Lib.hid h0
    clear h0
    go_wp2
    go_ret2
    exact ⟨rfl, Below.refl _ _⟩
  · have q0 : ((ws.length : Int) == 0) = false := by rw [beq_eq_false_iff_ne]; omega
    by_cases h64 : 64 < ws.length
    · have q1 : (64 : Int) < (ws.length : Int) := by omega
      go_wp2
      go_ret2
      exact ⟨rfl, Below.refl _ _⟩
    · have q1 : ¬ (64 : Int) < (ws.length : Int) := by omega
      go_wp2_with fail
      go_loopw [6, 7] (fun m i wr => ∃ k : Nat, k ≤ ws.length ∧ i = .int .i64 k ∧ m = .int .i64 (ws.take k).sum ∧ (∀ x ∈ ws.take k, mayN x = true) ∧ w = wr) (fun _ i _ => ws.length - (intOf i).toNat)
      case atStart => exact ⟨0, Nat.zero_le _, rfl, rfl, by simp, rfl⟩
      case round =>
        obtain ⟨k, hk, rfl, rfl, hall, rfl⟩ := hrel
        by_cases hlt : k < ws.length
        · obtain ⟨g, o, rfl, hg, hcell⟩ := HR.out.2 (by omega)
          have c0 : w.cell? ⟨g, o + k, none⟩ = some (.int .i64 ws[k]) := hcell k _ (by simp [hlt, i64v])
          have hts := sumI_take_succ ws k hlt
          have htm : ∀ x, x ∈ ws.take (k + 1) → x ∈ ws.take k ∨ x = ws[k] := fun x hx => by
            rw [List.take_succ_eq_append_getElem hlt, List.mem_append, List.mem_singleton] at hx
            exact hx
          have hsm := sum_may hall
          have hlk : (ws.take k).length ≤ 64 := by rw [List.length_take]; omega
          obtain ⟨x, hx⟩ : ∃ x, ws[k] = x := ⟨_, rfl⟩
          obtain ⟨s, hs⟩ : ∃ s, (ws.take k).sum = s := ⟨_, rfl⟩
          rw [hx] at c0 hts htm
          rw [hs] at hts hsm ⊢
          have hsb : 0 ≤ s ∧ s ≤ 70368744177664 := by omega
          have HALL := Lib.hid hall
          have HTS := Lib.hid hts
          have HTM := Lib.hid htm
          clear hcell hts htm hsm hlk hx hs hall
          cases hv : mayN x
          · have HV := Lib.hid hv
            clear hv
            go_wp2_with fail
            refine (xmay_any _ _).mono ?_
            rintro e w1 ⟨rfl, rfl⟩
            rw [HV.out]
            go_wp2
            go_ret2
            exact ⟨rfl, Below.refl _ _⟩
          · have HV := Lib.hid hv
            have hxm := mayN_iff.1 hv
            have hwr : IntKind.i64.wrap (s + x) = s + x := IntWalk.i64_in _ (by omega)
            clear hv
            go_wp2_with fail
            refine (xmay_any _ _).mono ?_
            rintro e w1 ⟨rfl, rfl⟩
            rw [HV.out]
            go_wp2
            go_roundw
            case rel => exact ⟨k + 1, hlt, by go_num, by rw [HTS.out], fun y hy => by
              rcases HTM.out y hy with e | e
              · exact HALL.out y e
              · rw [e]; exact HV.out, trivial⟩
            case measure => simp [intOf]; omega
        · obtain rfl : k = ws.length := by omega
          have hs0 : (ws.take ws.length).sum = 0 := by
            rw [List.take_length] at hall ⊢
            have hno : noneN ws = false := by
              unfold noneN
              rw [List.any_eq_false]
              intro x hx
              simp [hall x hx]
            obtain ⟨N, us, _, hwu, hmy, hl⟩ := may_sh HMN.out (by omega) (by omega) hno
            have hus : ws.sum = (us.sum : Nat) := by rw [hwu, SymP.map_sum_cast]
            rcases Nat.eq_zero_or_pos us.sum with e | e
            · rw [hus, e]; rfl
            · exact absurd ⟨N, us, hmy e⟩ HH.out
          rw [hs0]
          clear hs0 hall
          go_wp2
          go_ret2
          exact ⟨rfl, Below.refl _ _⟩
end Go.Proofs.Ytochhjdjfgiaeaa
