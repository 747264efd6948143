/- slices.SortStableFunc on fewer than twenty parts; Share of so many small weights. -/
import Derived.Test.YtochhjdjfgiaeaaNSort
namespace Go.Proofs.Ytochhjdjfgiaeaa
open Go.RowKit

theorem swapL_all {P : Nat × Nat → Prop} {l : List (Nat × Nat)} {j : Nat} (h : ∀ p ∈ l, P p) (hj : j < l.length) : ∀ p ∈ swapL l j, P p := by
  intro p hp
  unfold swapL at hp
  have h1 : l.getD j (0, 0) = l[j] := by simp [hj]
  have hj' : j - 1 < l.length := by omega
  have h2 : l.getD (j - 1) (0, 0) = l[j - 1] := by simp [hj']
  rw [h1, h2] at hp
  rcases List.mem_or_eq_of_mem_set hp with e | e
  · rcases List.mem_or_eq_of_mem_set e with e | e
    · exact h p e
    · rw [e]; exact h _ (List.getElem_mem hj')
  · rw [e]; exact h _ (List.getElem_mem hj)
theorem insD_all {P : Nat × Nat → Prop} (a : Nat) : ∀ (j : Nat) (l : List (Nat × Nat)), (∀ p ∈ l, P p) → j < l.length → ∀ p ∈ insD a j l, P p
  | 0, l, h, _ => h
  | j + 1, l, h, hj => by
    rw [insD]
    split
    · exact insD_all a j _ (swapL_all h hj) (by rw [swapL_len]; omega)
    · exact h
theorem insN_all {P : Nat × Nat → Prop} (a : Nat) : ∀ (k : Nat) (l : List (Nat × Nat)), (∀ p ∈ l, P p) → a + k < l.length ∨ k = 0 → ∀ p ∈ insN a k l, P p
  | 0, l, h, _ => h
  | k + 1, l, h, hk => by
    rw [insN]
    refine insD_all a _ _ (insN_all a k l h (by omega)) ?_
    rw [insN_len]
    omega

set_option maxRecDepth 100000 in
set_option maxHeartbeats 1000000 in
theorem stab_small (base g c : Nat) (rs : List (Nat × Nat)) (w : World) (hm : rs.length < 20)
    (hown : w.ownsRow base 56 2 (.slice (some ⟨g, 0, none⟩) rs.length c) rs.length (rs.flatMap encQ)) :
    Calls Try.prog 44 #[.slice (some ⟨g, 0, none⟩) rs.length c, .int .i64 (rs.length : Int), .func (.func 31) #[] #[]] w fun e w' => e = .returned (.tuple #[]) ∧ w'.ownsRow base 56 2 (.slice (some ⟨g, 0, none⟩) rs.length c) rs.length ((insN 0 (rs.length - 1) rs).flatMap encQ) ∧ Fr base [56] [] w w' := by
  have HOWN := Lib.hid hown
  have hn : (rs.length : Int) < 20 := by omega
  clear hown
  go_enter Try.func44, Try.ntmps44
  go_wp2_with fail
  go_loopw [7, 8] (fun x y wr => x = .int .i64 0 ∧ y = .int .i64 20 ∧ w = wr) (fun _ _ _ => 0)
  case atStart => exact ⟨rfl, rfl, rfl⟩
  case round =>
    obtain ⟨rfl, rfl, rfl⟩ := hrel
    go_wp2_with fail
    refine (ins_any 0 rs.length base g c rs w (Nat.le_refl _) (by omega) (by omega) HOWN.out).mono ?_
    rintro e w1 ⟨rfl, hown1, hf1⟩
    have HO1 := Lib.hid hown1
    have HF1 := Lib.hid hf1
    clear hown1 hf1
    go_wp2_with fail
    go_loopw [6] (fun x wr => x = .int .i64 20 ∧ w1 = wr) (fun _ _ => 0)
    case atStart => exact ⟨rfl, rfl⟩
    case round =>
      obtain ⟨rfl, rfl⟩ := hrel
      go_wp2_with fail
      go_end0
      exact ⟨rfl, HO1.out, HF1.out⟩
theorem sort_small (base g c : Nat) (rs : List (Nat × Nat)) (w : World) (hm : rs.length < 20)
    (hown : w.ownsRow base 56 2 (.slice (some ⟨g, 0, none⟩) rs.length c) rs.length (rs.flatMap encQ)) :
    Calls Try.prog 30 #[.slice (some ⟨g, 0, none⟩) rs.length c, .func (.func 31) #[] #[]] w fun e w' => e = .returned (.tuple #[]) ∧ w'.ownsRow base 56 2 (.slice (some ⟨g, 0, none⟩) rs.length c) rs.length ((insN 0 (rs.length - 1) rs).flatMap encQ) ∧ Fr base [56] [] w w' := by
  have HS := Lib.hid (stab_small base g c rs w hm hown)
  clear hown
  go_enter Try.func30, Try.ntmps30
  go_wp2_with fail
  refine HS.out.mono ?_
  rintro e w1 ⟨rfl, hown1, hf1⟩
  have HO1 := Lib.hid hown1
  have HF1 := Lib.hid hf1
  clear hown1 hf1
  go_wp2_with fail
  go_end0
  exact ⟨rfl, HO1.out, HF1.out⟩

theorem share_small (n S left : Nat) (ws : List Nat) (A : Option Addr) (c : Nat) (w : World) (hn : n ≤ 1099511627776) (hws : ∀ x ∈ ws, x ≤ 1099511627776) (hS : ws.sum = S) (hS0 : 0 < S) (hl : 0 < ws.length ∧ ws.length < 20)
    (hr : Rd w 1 A ws.length (ws.map fun x : Nat => i64v (x : Int))) (hq : n = qS n S ws ws.length + left) (hlf : left ≤ ws.length) (h64 : ∀ x ∈ ws, n * x < 18446744073709551616) :
    Calls Try.prog 16 #[.int .i64 (n : Int), .slice A ws.length c] w fun e w' => ∃ g, e = .returned (.tuple #[.slice (some ⟨g, 0, none⟩) ws.length ws.length, .int .i64 0]) ∧ w'.heap[g]? = some (.cells ((bump (oL n S ws ws.length) ((insN 0 (ws.length - 1) (pL n S ws ws.length)).take left)).map i64v).toArray 3 (0, 0)) ∧ w.heap.size ≤ g ∧ Below w.heap.size w w' := by
  have hpl := pL_len n S ws ws.length
  refine share_core n S left ws _ A c w hn hws hS hS0 ⟨hl.1, by omega⟩ hr hq hlf (fun x hx W => ?_) (by rw [insN_len, hpl]) (insN_all 0 _ _ (fun p hp => ?_) (by rw [hpl]; omega)) (fun W v _ hown => ?_)
  · have h := h64 x hx
    rw [Nat.div_eq_of_lt h, Nat.mod_eq_of_lt h]
    exact div_small (n * x) S h hS0 W
  · obtain ⟨i, hi, rfl⟩ := List.mem_map.1 hp
    simpa using hi
  · obtain ⟨Av, cv, rfl, _, _, hrd, hoff⟩ := own_slice hown
    obtain ⟨g, hg⟩ : ∃ g, Av = some ⟨g, 0, none⟩ := by
      obtain ⟨g, o, e, _⟩ := hrd.2 hl.1
      have := (hoff _ e).2.1
      simp only at this
      subst this
      exact ⟨g, e⟩
    subst hg
    have := sort_small w.heap.size g cv (pL n S ws ws.length) W (by rw [hpl]; exact hl.2) (by rw [hpl]; exact hown)
    rw [hpl] at this
    exact this
end Go.Proofs.Ytochhjdjfgiaeaa
