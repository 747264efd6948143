/- count.Share of any number and any weights. -/
import Derived.Test.YtochhjdjfgiaeaaNShare
import Derived.Test.YtochhjdjfgiaeaaNSh
import Derived.Test.YtochhjdjfgiaeaaNStab2
import Derived.Test.YtochhjdjfgiaeaaNDiv
namespace Go.Proofs.Ytochhjdjfgiaeaa
open Go.RowKit

/-- What may be shared: a count, by 1 to 64 counts that are not all 0. -/
structure MaySh (n : Int) (ws : List Int) (N : Nat) (us : List Nat) : Prop where
  num : n = (N : Int)
  wts : ws = us.map fun x : Nat => (x : Int)
  nle : N ≤ 1099511627776
  wle : ∀ x ∈ us, x ≤ 1099511627776
  len0 : 0 < us.length
  len : us.length ≤ 64
  sum : 0 < us.sum
/-- What each gets. -/
def shO (n : Nat) (us : List Nat) : List Int := bump (oL n us.sum us us.length) ((SymP.sP n us.sum us).take (n - qS n us.sum us us.length))
theorem nats_of : ∀ {ws : List Int}, (∀ x ∈ ws, mayN x = true) → ∃ us : List Nat, ws = (us.map fun x : Nat => (x : Int)) ∧ ∀ x ∈ us, x ≤ 1099511627776
  | [], _ => ⟨[], rfl, by simp⟩
  | a :: l, h => by
    obtain ⟨us, h1, h2⟩ := nats_of (ws := l) fun x hx => h x (List.mem_cons_of_mem _ hx)
    have ha := mayN_iff.1 (h a (by simp))
    refine ⟨a.toNat :: us, by rw [List.map_cons, ← h1, Int.toNat_of_nonneg ha.1], fun x hx => ?_⟩
    rcases List.mem_cons.1 hx with e | e
    · omega
    · exact h2 x e
theorem noneN_false {ws : List Int} (h : noneN ws = false) : ∀ x ∈ ws, mayN x = true := fun x hx => by
  unfold noneN at h
  rw [List.any_eq_false] at h
  simpa using h x hx
theorem may_sh {n : Int} {ws : List Int} (h1 : mayN n = true) (h2 : 0 < ws.length) (h3 : ws.length ≤ 64) (h4 : noneN ws = false) : ∃ N us, n = ((N : Nat) : Int) ∧ ws = (us.map fun x : Nat => (x : Int)) ∧ (0 < us.sum → MaySh n ws N us) ∧ ws.length = us.length := by
  obtain ⟨us, h5, h6⟩ := nats_of (noneN_false h4)
  have hn := mayN_iff.1 h1
  have hl : ws.length = us.length := by rw [h5, List.length_map]
  refine ⟨n.toNat, us, by omega, h5, fun hs => ⟨by omega, h5, by omega, h6, by omega, by omega, hs⟩, hl⟩
/-- What Div64 answers in it. -/
theorem div_sh {N x S : Nat} (hN : N ≤ 1099511627776) (hx : x ≤ S) (hS : S < 18446744073709551616) (hS0 : 0 < S) (W : World) : Calls Try.prog 29 #[.int .u64 ((N * x / 18446744073709551616 : Nat) : Int), .int .u64 ((N * x % 18446744073709551616 : Nat) : Int), .int .u64 (S : Int)] W fun e W' => e = .returned (.tuple #[.int .u64 ((N * x / S : Nat) : Int), .int .u64 ((N * x % S : Nat) : Int)]) ∧ Below W.heap.size W W' := by
  by_cases h : N * x < 18446744073709551616
  · rw [Nat.div_eq_of_lt h, Nat.mod_eq_of_lt h]
    exact div_small (N * x) S h hS0 W
  · have h1 : N * x ≤ N * S := Nat.mul_le_mul_left N hx
    have h2 : N * S ≤ 1099511627776 * S := Nat.mul_le_mul_right S hN
    have h3 := div_any (N * x / 18446744073709551616) (N * x % 18446744073709551616) S (by omega) (by omega) (by omega) hS W
    have e : N * x / 18446744073709551616 * 18446744073709551616 + N * x % 18446744073709551616 = N * x := by omega
    rw [e] at h3
    exact h3
theorem sum_le64 {us : List Nat} (h : ∀ x ∈ us, x ≤ 1099511627776) (hl : us.length ≤ 64) : us.sum ≤ 70368744177664 := by
  have := sum_bound us h
  omega
theorem share_ok {n : Int} {ws : List Int} {N : Nat} {us : List Nat} (h : MaySh n ws N us) (A : Option Addr) (c : Nat) (w : World) (hr : Rd w 1 A ws.length (ws.map i64v)) :
    Calls Try.prog 16 #[.int .i64 n, .slice A ws.length c] w fun e w' => ∃ g, e = .returned (.tuple #[.slice (some ⟨g, 0, none⟩) ws.length ws.length, .int .i64 0]) ∧ w'.heap[g]? = some (.cells ((shO N us).map i64v).toArray 3 (0, 0)) ∧ w.heap.size ≤ g ∧ Below w.heap.size w w' := by
  obtain ⟨left, hq, _, hl⟩ := SymP.left_of (n := N) (S := us.sum) rfl h.sum
  have hlen : ws.length = us.length := by rw [h.wts, List.length_map]
  have hsl := sum_le64 h.wle h.len
  have hpl := pL_len N us.sum us us.length
  have hleft : N - qS N us.sum us us.length = left := by omega
  rw [hlen] at hr ⊢
  rw [h.num]
  unfold shO
  rw [hleft]
  refine share_core N us.sum left us (SymP.sP N us.sum us) A c w h.nle h.wle rfl h.sum ⟨h.len0, h.len⟩ ?_ hq (by omega) (fun x hx W => ?_) (SymP.sP_len h.len0) (fun p hp => ((SymP.sP_mem h.len0).1 hp).1) (fun W v _ hown => ?_)
  · rw [h.wts, List.map_map] at hr
    exact hr
  · exact div_sh h.nle (mem_le_sum _ _ hx) (by omega) h.sum W
  · obtain ⟨Av, cv, rfl, _, _, hrd, hoff⟩ := own_slice hown
    obtain ⟨g, hg⟩ : ∃ g, Av = some ⟨g, 0, none⟩ := by
      obtain ⟨g, o, e, _⟩ := hrd.2 h.len0
      have := (hoff _ e).2.1
      simp only at this
      subst this
      exact ⟨g, e⟩
    subst hg
    have := sort_any w.heap.size g cv (pL N us.sum us us.length) W (by rw [hpl]; exact h.len0) (by rw [hpl]; exact h.len) (by have := SymP.pL_inc N us.sum us; rwa [hpl]) (by rw [hpl]; exact hown)
    rw [hpl] at this
    exact this

set_option maxRecDepth 100000 in
set_option maxHeartbeats 2000000 in
theorem share_no {n : Int} {ws : List Int} (h : ¬ ∃ N us, MaySh n ws N us) (A : Option Addr) (c : Nat) (w : World) (hm : ws.length ≤ 9223372036854775807) (hr : Rd w 1 A ws.length (ws.map i64v)) :
    Calls Try.prog 16 #[.int .i64 n, .slice A ws.length c] w fun e w' => e = .returned (.tuple #[.slice none 0 0, .int .i64 1]) ∧ Below w.heap.size w w' := by
  have HN : Hid (Rd (w.alloc (.cells #[.int .i64 n] 3)) 1 (some ⟨w.heap.size, 0, none⟩) 1 ([n].map i64v)) := Lib.hid (rd_fresh w 3 [.int .i64 n])
  have hb1 : Below w.heap.size w (w.alloc (.cells #[.int .i64 n] 3)) := (Below.refl _ w).alloc (Nat.le_refl _) _
  have HB1 := Lib.hid hb1
  have HH := Lib.hid h
  have HR := Lib.hid (hr.below hb1)
  have HE : Hid (noneN [n] = !mayN n) := Lib.hid (by simp [noneN])
  clear hb1 hr h
  go_enter Try.func16, Try.ntmps16
  go_wp2_with fail
  refine (none_any _ 1 [n] _ (by simp) HN.out).mono ?_
  rintro e w1 ⟨rfl, rfl⟩
  rw [HE.out]
  obtain ⟨w1, hw1⟩ : ∃ w1, w.alloc (.cells #[.int .i64 n] 3) = w1 := ⟨_, rfl⟩
  rw [hw1] at HB1 HR ⊢
  clear hw1 HN
  cases hn : mayN n
  case false =>
    go_wp2
    go_ret2
    exact ⟨rfl, HB1.out⟩
  case true =>
  have HMN := Lib.hid hn
  clear hn
  by_cases h0 : ws.length = 0
  · have q0 : ((ws.length : Int) == 0) = true := by simp [h0]
    have HL0 := Lib.hid h0
    clear h0
    go_wp2
    go_ret2
    exact ⟨rfl, HB1.out⟩
  · have q0 : ((ws.length : Int) == 0) = false := by rw [beq_eq_false_iff_ne]; omega
    by_cases h64 : 64 < ws.length
    · have q1 : (64 : Int) < (ws.length : Int) := by omega
      go_wp2
      go_ret2
      exact ⟨rfl, HB1.out⟩
    · have q1 : ¬ (64 : Int) < (ws.length : Int) := by omega
      go_wp2_with fail
      refine (none_any A c ws w1 hm HR.out).mono ?_
      rintro e w2 ⟨rfl, rfl⟩
      cases hno : noneN ws
      case true =>
        go_wp2
        go_ret2
        exact ⟨rfl, HB1.out⟩
      case false =>
      obtain ⟨N, us, _, hwu, hmy, hl⟩ := may_sh HMN.out (by omega) (by omega) hno
      have hs0 : us.sum = 0 := by
        rcases Nat.eq_zero_or_pos us.sum with e | e
        · exact e
        · exact absurd ⟨N, us, hmy e⟩ HH.out
      have hz : ∀ (k : Nat) (hk : k < ws.length), ws[k] = 0 := fun k hk => by
        have hku : k < us.length := by omega
        have := mem_le_sum us us[k] (List.getElem_mem hku)
        have e : ws[k] = ((us[k] : Nat) : Int) := by simp [hwu]
        omega
      have HZ := Lib.hid hz
      clear hz hs0 hmy hwu hl hno HH
      go_wp2_with fail
      go_loopw [6, 39] (fun m i wr => ∃ k : Nat, k ≤ ws.length ∧ i = .int .i64 k ∧ m = .int .u64 0 ∧ w1 = wr) (fun _ i _ => ws.length - (intOf i).toNat)
      case atStart => exact ⟨0, Nat.zero_le _, rfl, rfl, rfl⟩
      case round =>
        obtain ⟨k, hk, rfl, rfl, rfl⟩ := hrel
        by_cases hlt : k < ws.length
        · obtain ⟨g, o, rfl, hg, hcell⟩ := HR.out.2 (by omega)
          have c0 : w1.cell? ⟨g, o + k, none⟩ = some (.int .i64 0) := hcell k _ (by simp [hlt, i64v, HZ.out k hlt])
          clear hcell
          go_wp2
          go_roundw
          case rel => exact ⟨k + 1, hlt, by go_num, rfl, trivial⟩
          case measure => simp [intOf]; omega
        · go_wp2
          go_ret2
          exact ⟨rfl, HB1.out⟩
end Go.Proofs.Ytochhjdjfgiaeaa
