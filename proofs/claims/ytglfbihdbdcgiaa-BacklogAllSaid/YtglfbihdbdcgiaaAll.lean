/- The law BacklogAll: for every slice of integers the call returns true, and each argument reads afterwards as before. -/
import Derived.Test.YtglfbihdbdcgiaaBack6
import Derived.Test.YtglfbihdbdcgiaaRow
namespace Go.Proofs.Ytglfbihdbdcgiaa
open Go.RowKit

theorem Try.infoInt : (Try.prog.info? 3).map (fun i => (i.zero, i.size, i.bytes)) = some (some (.int .i64 0), 1, 8) := by kernel_rfl

theorem own_cells1 {w : World} {base : Nat} {e : TypeId} {A : Option Addr} {c : Nat} {k : IntKind} {zs : List Int} (h : w.ownsRow base e 1 (.slice A zs.length c) zs.length (zs.map (Value.int k))) (j : Nat) (hj : j < zs.length) (g : Nat) (hg : A = some ⟨g, 0, none⟩) :
    w.cell? ⟨g, j, none⟩ = some (.int k zs[j]) := by
  subst hg
  have := h.cells (g := g) rfl j (.int k zs[j]) (by simp [hj])
  simpa [Addr.add_lit] using this
theorem own_succ' {w : World} {base : Nat} {e : TypeId} {size n : Nat} {v : Value} {xs : List Value} (h : w.ownsRow base e size v n xs) (hn : 0 < n) : ∃ g c, v = .slice (some ⟨g, 0, none⟩) n c := by
  rcases h.2 with ⟨_, h0⟩ | ⟨g, cap, cur, rfl, _⟩
  · omega
  · exact ⟨g, cap, rfl⟩

/-- Rows of orders, all of one readiness. -/
def rowsOf (b : Bool) (ws : List Int) : List (Int × Bool) := ws.map fun x => (x, b)
theorem rowsOf_length (b : Bool) (ws : List Int) : (rowsOf b ws).length = ws.length := by simp [rowsOf]
theorem rowsOf_snoc (b : Bool) (ws : List Int) (x : Int) : rowsOf b (ws ++ [x]) = rowsOf b ws ++ [(x, b)] := by simp [rowsOf]
theorem news_rowsOf (ws : List Int) (h : ∀ x ∈ ws, 1 ≤ x) : (rowsOf false ws).map (newsRow 0) = rowsOf true ws := by
  simp only [rowsOf, List.map_map]
  apply List.map_congr_left
  intro x hx
  have := h x hx
  simp [newsRow]
  omega
theorem push_zero {rs : List (Int × Bool)} {n : Int} (h : pushR rs n = 0) : 1 ≤ n ∧ pushS rs n = rs ++ [(n, false)] := by
  unfold pushR at h
  unfold pushS
  split at h
  · omega
  · split at h
    · split at h
      · omega
      · rename_i h1 h2 h3
        rw [if_neg h1, if_pos h2, if_neg h3]
        exact ⟨by omega, rfl⟩
    · omega
theorem push_nz {rs : List (Int × Bool)} {n : Int} (h : ¬ pushR rs n = 0) : pushS rs n = rs := by
  unfold pushR at h
  unfold pushS
  split at h
  · rename_i h1; rw [if_pos h1]
  · rename_i h1
    rw [if_neg h1]
    split at h
    · rename_i h2
      rw [if_pos h2]
      split at h
      · rename_i h3; rw [if_pos h3]
      · omega
    · rename_i h2; rw [if_neg h2]
/-- The rows when k have been tried. -/
def tried (ws : List Int) (k : Nat) : List (Int × Bool) := rowsOf false (ws.take k) ++ rowsOf true (ws.drop k)
theorem tried_length (ws : List Int) (k : Nat) : (tried ws k).length = ws.length := by simp [tried, rowsOf]; omega
theorem tried_at (ws : List Int) (k i : Nat) (h : i < ws.length) : (tried ws k)[i]'(by rw [tried_length]; exact h) = (ws[i], decide (k ≤ i)) := by
  simp only [tried, rowsOf, List.getElem_append, List.length_map, List.length_take, List.getElem_map, List.getElem_take, List.getElem_drop]
  by_cases hk : k ≤ i
  · rw [dif_neg (by omega)]
    simp only [hk, decide_true]
    congr 2
    omega
  · rw [dif_pos (by omega)]
    simp [hk]
theorem tried_find (ws : List Int) (k : Nat) (h : k < ws.length) : (tried ws k).findIdx? (fun r => r.2) = some k := by
  rw [List.findIdx?_eq_some_iff_getElem]
  refine ⟨by rw [tried_length]; exact h, ?_, fun j hj => ?_⟩
  · rw [tried_at ws k k h]; simp
  · rw [tried_at ws k j (by omega)]; simpa using hj
theorem tried_none (ws : List Int) : (tried ws ws.length).findIdx? (fun r => r.2) = none := by
  rw [List.findIdx?_eq_none_iff]
  intro r hr
  simp [tried, rowsOf] at hr
  obtain ⟨x, _, rfl⟩ := hr
  rfl
theorem tried_get (ws : List Int) (k : Nat) (h : k < ws.length) : (tried ws k)[k]? = some (ws[k], true) := by
  have hl : k < (tried ws k).length := by rw [tried_length]; exact h
  rw [List.getElem?_eq_getElem hl, tried_at ws k k h]
  simp
theorem tried_succ (ws : List Int) (k : Nat) (h : k < ws.length) : (tried ws k).set k (ws[k], false) = tried ws (k + 1) := by
  apply List.ext_getElem
  · simp [tried_length]
  · intro i h1 h2
    have hi : i < ws.length := by rw [tried_length] at h2; exact h2
    rw [List.getElem_set, tried_at ws (k + 1) i hi, tried_at ws k i hi]
    by_cases hk : k = i
    · subst hk
      rw [if_pos rfl]
      simp
    · rw [if_neg hk]
      congr 1
      simp
      omega
theorem tried_try (ws : List Int) (k : Nat) (h : k < ws.length) : tryX (tried ws k) 0 = ws[k] ∧ tryB (tried ws k) 0 = true ∧ tryS (tried ws k) 0 = tried ws (k + 1) ∧ tryO (tried ws k) 0 = ws[k] := by
  simp [tryX, tryB, tryS, tryO, tried_find ws k h, tried_get ws k h, tried_succ ws k h]
theorem tried_end (ws : List Int) : tryX (tried ws ws.length) 0 = 0 ∧ tryB (tried ws ws.length) 0 = false ∧ tryS (tried ws ws.length) 0 = tried ws ws.length ∧ tryO (tried ws ws.length) 0 = 0 := by
  simp [tryX, tryB, tryS, tryO, tried_none]

set_option maxRecDepth 100000 in
set_option maxHeartbeats 1000000 in
theorem all_long (A : Option Addr) (len cap : Nat) (w : World) (h : 200 < len) :
    Calls Try.prog 4 #[.slice A len cap] w fun e w' => e = .returned (.bool true) ∧ Below w.heap.size w w' := by
  go_enter Try.func4, Try.ntmps4
  go_wp2_with fail
  refine (new_any _ w.heap.size (Nat.le_refl _)).mono ?_
  rintro e w1 ⟨rfl, i1, b1⟩
  go_wp2_with fail
  refine (lives_any _).mono ?_
  rintro e w2 ⟨rfl, b2⟩
  have b3 := b1.trans (b2.mono b1.size)
  clear i1 b1 b2
  go_wp2_with fail
  refine (lives_any _).mono ?_
  rintro e w4 ⟨rfl, b4⟩
  have b5 := b3.trans (b4.mono b3.size)
  go_wp2
  go_ret
  exact ⟨rfl, b5⟩

set_option maxRecDepth 100000 in
set_option maxHeartbeats 4000000 in
theorem all_short (A : Option Addr) (len cap : Nat) (zs : List Int) (w : World) (hr : IsRow .i64 w A len cap zs) (h : ¬ 200 < len) :
    Calls Try.prog 4 #[.slice A len cap] w fun e w' => e = .returned (.bool true) ∧ Below w.heap.size w w' := by
  obtain ⟨i0, hi0, hz0, hz1, hz2⟩ := info_parts Try.infoInt
  have hz := hr.length
  have HZ := Lib.hid hz
  have HR := Lib.hid hr
  clear hz hr
  go_enter Try.func4, Try.ntmps4
  go_wp2_with fail
  refine (new_any _ w.heap.size (Nat.le_refl _)).mono ?_
  rintro e w1 ⟨rfl, i1, b1⟩
  go_wp2_with fail
  refine (lives_any _).mono ?_
  rintro e w2 ⟨rfl, b2⟩
  have i2 := i1.below b2
  have b3 := b1.trans (b2.mono b1.size)
  clear i1 b1 b2
  go_wp2_with fail
  go_loopw [4, 5] (fun v i wr => ∃ (k : Nat) (ws : List Int), k ≤ len ∧ i = .int .i64 k ∧ ws.length ≤ k ∧ (∀ x ∈ ws, 1 ≤ x) ∧ IsB wr w.heap.size w.heap.size (rowsOf false ws) 0 ∧ wr.ownsRow w.heap.size 3 1 v ws.length (ws.map (Value.int .i64)) ∧ Below w.heap.size w wr) (fun _ i _ => len - (intOf i).toNat)
  case atStart => exact ⟨0, [], Nat.zero_le _, rfl, Nat.le_refl _, by simp, i2, World.ownsRow_nil _ _ _ _, b3⟩
  case round =>
    obtain ⟨k, ws, hk, rfl, hwk, hpos, hi, hown, hb⟩ := hrel
    obtain ⟨Av, cv, rfl, hnc, hcm, _, _⟩ := own_slice hown
    clear hcm
    have HPos := Lib.hid hpos
    clear hpos
    by_cases hlt : k < len
    · obtain ⟨g, o, rfl, hg, hc⟩ := HR.out.at_ (by omega)
      have hzl : k < zs.length := by rw [HZ.out]; exact hlt
      have hc0 := hc k hzl
      obtain ⟨z, hz⟩ : ∃ z, zs[k] = z := ⟨_, rfl⟩
      rw [hz] at hc0
      have c0 : wr.cell? ⟨g, o + k, none⟩ = some (.int .i64 z) := (hb.cell (p := ⟨g, o + k, none⟩) hg).trans hc0
      clear hz hc hc0
      go_wp2_with fail
      refine (push_any z _ _ _ _ _ hi (by rw [rowsOf_length]; omega)).mono ?_
      rintro e w4 ⟨rfl, i4, f4⟩
      have hown4 := f4.own hown (by simp) (by simp)
      have b4 := hb.trans (f4.below hb.size)
      have c1 : w4.cell? ⟨g, o + k, none⟩ = some (.int .i64 z) := (b4.cell (p := ⟨g, o + k, none⟩) hg).trans ((hb.cell (p := ⟨g, o + k, none⟩) hg).symm.trans c0)
      by_cases hp : pushR (rowsOf false ws) z = 0
      · rw [hp]
        obtain ⟨hz1', hps⟩ := push_zero hp
        rw [hps] at i4
        have I4 := Lib.hid i4
        have HO4 := Lib.hid hown4
        clear hp hps i4 hown hown4 hi f4 hb c0
        go_wp2_with (at_builtin
                     refine wpList_append_own _ rfl (.tmp 37) (.tmp 42) 36 rfl w.heap.size 3 i0 (.int .i64 0) 1 8 Try.underlying36 hi0 hz0 hz1 hz2 rfl (by decide) _ ws.length (ws.map (Value.int .i64)) rfl (HO4.out.alloc _) ⟨w4.heap.size, 0, none⟩ 1 1 [.int .i64 z] rfl rfl (cell_one_new _ _ _) (by simp [Value.oneCell']) (by unfold maxLen; omega) (by omega) (by have := b4.size; simp; omega) ?_
                     intro v5 w5 hown5 hgrow5 _
                     have HO5 := Lib.hid hown5
                     have HG5 := Lib.hid hgrow5
                     clear hown5 hgrow5)
        go_roundw
        case rel =>
          have f5 : Fr w.heap.size [3] [] w4 w5 := ((Fr.refl w4).alloc _).grown HG5.out (fun j hj => by
            obtain ⟨hb, cs, hc⟩ := own_block (HO4.out.alloc _) hj
            exact ⟨hb, .inr ⟨cs, _, _, hc, by simp⟩⟩)
          refine ⟨k + 1, ws ++ [z], by omega, by go_num, by simp; omega, ?_, ?_, by simpa using HO5.out, b4.trans (f5.below b4.size)⟩
          · intro x hx
            rcases List.mem_append.1 hx with hx | hx
            · exact HPos.out x hx
            · simp at hx; omega
          · rw [rowsOf_snoc]
            exact I4.out.fr f5 (by decide) (by decide)
        case measure => simp [intOf]; omega
      · have hps := push_nz hp
        rw [hps] at i4
        obtain ⟨r, hr⟩ : ∃ r, pushR (rowsOf false ws) z = r := ⟨_, rfl⟩
        rw [hr] at hp ⊢
        have hp' : (r == 0) = false := by simpa using hp
        have I4 := Lib.hid i4
        have HO4 := Lib.hid hown4
        clear hp hps i4 hown hown4 hi f4 hr
        go_wp2
        go_roundw
        case rel => exact ⟨k + 1, ws, by omega, by go_num, by omega, HPos.out, I4.out, HO4.out, b4⟩
        case measure => simp [intOf]; omega
    · have HO := Lib.hid hown
      clear hown
      go_wp2_with fail
      refine (news_any _ _ _ _ _ hi).mono ?_
      rintro e w4 ⟨rfl, i4, f4⟩
      rw [news_rowsOf ws HPos.out] at i4
      have HO4 := Lib.hid (f4.own HO.out (by simp) (by simp))
      have b4 := hb.trans (f4.below hb.size)
      clear hi f4 hb
      go_wp2_with fail
      go_loopw [6] (fun i wr => ∃ j : Nat, j ≤ ws.length ∧ i = .int .i64 j ∧ IsB wr w.heap.size w.heap.size (tried ws j) 0 ∧ wr.ownsRow w.heap.size 3 1 (.slice Av ws.length cv) ws.length (ws.map (Value.int .i64)) ∧ Below w.heap.size w wr) (fun i _ => ws.length - (intOf i).toNat)
      case atStart => exact ⟨0, Nat.zero_le _, rfl, by simpa [tried, rowsOf] using i4, HO4.out, b4⟩
      case round =>
        obtain ⟨j, hj, rfl, hi, hown, hb⟩ := hrel
        clear i4 b4
        have HO5 := Lib.hid hown
        clear hown
        by_cases hlt : j < ws.length
        · have htr := tried_try ws j hlt
          have hpos := HPos.out ws[j] (List.getElem_mem hlt)
          obtain ⟨x, hx⟩ : ∃ x, ws[j] = x := ⟨_, rfl⟩
          rw [hx] at htr hpos
          go_wp2_with fail
          refine (try_any _ _ _ _ _ hi).mono ?_
          rintro e w5 ⟨rfl, i5, f5⟩
          rw [htr.1, htr.2.1]
          rw [htr.2.2.1, htr.2.2.2] at i5
          have ho5 := f5.own HO5.out (by simp) (by simp)
          have b5 := hb.trans (f5.below hb.size)
          obtain ⟨g, cg, hgv⟩ := own_succ' ho5 (by omega)
          obtain ⟨rfl, rfl⟩ : Av = some ⟨g, 0, none⟩ ∧ cv = cg := by injection hgv with a b c; exact ⟨a, c⟩
          have c0 : w5.cell? ⟨g, j, none⟩ = some (.int .i64 x) := by rw [← hx]; exact own_cells1 ho5 j hlt g rfl
          have HO6 := Lib.hid ho5
          have hxx : (x != x) = false := by simp
          clear hi f5 hb htr hx ho5 hgv
          go_wp2_with fail
          refine (back_any x _ _ _ _ _ i5).mono ?_
          rintro e w6 ⟨rfl, i6, f6⟩
          have hbb : backB x x = true ∧ backO x x = 0 := by
            unfold backB backO
            have : x ≠ 0 := by omega
            simp [this]
          rw [hbb.1]
          rw [hbb.2] at i6
          have HO7 := Lib.hid (f6.own HO6.out (by simp) (by simp))
          have b6 := b5.trans (f6.below b5.size)
          clear i5 f6 b5 hbb
          go_wp2
          go_roundw
          case rel => exact ⟨j + 1, by omega, by go_num, i6, HO7.out, b6⟩
          case measure => simp [intOf]; omega
        · obtain rfl : j = ws.length := by omega
          have htr := tried_end ws
          go_wp2_with fail
          refine (try_any _ _ _ _ _ hi).mono ?_
          rintro e w5 ⟨rfl, i5, f5⟩
          rw [htr.1, htr.2.1]
          rw [htr.2.2.1, htr.2.2.2] at i5
          have b5 := hb.trans (f5.below hb.size)
          clear hi f5 hb htr
          go_wp2_with fail
          refine (len_any _ _ _ _ _ i5).mono ?_
          rintro e w6 ⟨rfl, rfl⟩
          rw [tried_length]
          go_wp2
          go_ret
          exact ⟨ret_bool (by simp), b5⟩

end Go.Proofs.Ytglfbihdbdcgiaa
