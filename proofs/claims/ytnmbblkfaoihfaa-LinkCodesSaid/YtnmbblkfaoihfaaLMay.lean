/- Package link: May, On. -/
import Derived.Test.YtnmbblkfaoihfaaLDel2
namespace Go.Proofs.Ytnmbblkfaoihfaa
open Go.RowKit

set_option maxRecDepth 100000 in
set_option maxHeartbeats 2000000 in
theorem lmay_any (k : LPk) (A : Option Addr) (c : Nat) (w : World) (hm : k.body.length ≤ 9223372036854775807) :
    Calls Try.prog 31 #[.agg #[.int .i64 k.seq, .int .i64 k.ack, .slice A k.body.length c]] w fun e w' => e = .returned (.bool (mayL k)) ∧ Below w.heap.size w w' := by
  obtain ⟨seq, ack, body⟩ := k
  simp only at hm ⊢
  obtain ⟨n, hn⟩ : ∃ n, body.length = n := ⟨_, rfl⟩
  have hv : mayL ⟨seq, ack, body⟩ = (decide (0 ≤ seq) && decide (seq ≤ 1099511627776) && decide (0 ≤ ack) && decide (ack ≤ 1099511627776) && decide (n ≤ 2048) && (decide (0 < seq) || decide (n = 0))) := by simp only [mayL, hn]
  rw [hv]
  rw [hn] at hm ⊢
  clear hv hn
  go_enter Try.func31, Try.ntmps31
  obtain ⟨r, hr⟩ : ∃ r, (decide (0 ≤ seq) && decide (seq ≤ 1099511627776) && decide (0 ≤ ack) && decide (ack ≤ 1099511627776) && decide (n ≤ 2048) && (decide (0 < seq) || decide (n = 0))) = r := ⟨_, rfl⟩
  rw [hr]
  by_cases a1 : 0 ≤ seq
  rotate_left 1
  · have hv : r = false := by rw [← hr]; simp; omega
    subst hv
    clear hr
    go_wp2
    go_ret
    exact ⟨rfl, (Below.refl _ _).alloc (Nat.le_refl _) _⟩
  by_cases a2 : seq ≤ 1099511627776
  rotate_left 1
  · have hv : r = false := by rw [← hr]; simp; omega
    subst hv
    clear hr
    go_wp2
    go_ret
    exact ⟨rfl, (Below.refl _ _).alloc (Nat.le_refl _) _⟩
  by_cases a3 : 0 ≤ ack
  rotate_left 1
  · have hv : r = false := by rw [← hr]; simp; omega
    subst hv
    clear hr
    go_wp2
    go_ret
    exact ⟨rfl, (Below.refl _ _).alloc (Nat.le_refl _) _⟩
  by_cases a4 : ack ≤ 1099511627776
  rotate_left 1
  · have hv : r = false := by rw [← hr]; simp; omega
    subst hv
    clear hr
    go_wp2
    go_ret
    exact ⟨rfl, (Below.refl _ _).alloc (Nat.le_refl _) _⟩
  by_cases a5 : n ≤ 2048
  rotate_left 1
  · have hv : r = false := by rw [← hr]; simp; omega
    subst hv
    clear hr
    go_wp2
    go_ret
    exact ⟨rfl, (Below.refl _ _).alloc (Nat.le_refl _) _⟩
  by_cases a6 : 0 < seq
  · have hv : r = true := by rw [← hr]; simp; omega
    subst hv
    clear hr
    go_wp2
    go_ret
    exact ⟨rfl, (Below.refl _ _).alloc (Nat.le_refl _) _⟩
  · by_cases a7 : n = 0
    · subst a7
      have hv : r = true := by rw [← hr]; simp; omega
      subst hv
      clear hr
      go_wp2
      go_ret
      exact ⟨rfl, (Below.refl _ _).alloc (Nat.le_refl _) _⟩
    · have a8 : ((n : Int) == 0) = false := by simp; omega
      have hv : r = false := by rw [← hr]; simp; omega
      subst hv
      clear hr
      go_wp2
      go_ret
      exact ⟨rfl, (Below.refl _ _).alloc (Nat.le_refl _) _⟩

set_option maxRecDepth 100000 in
set_option maxHeartbeats 2000000 in
theorem rmay_any (k : LPk) (A : Option Addr) (c : Nat) (w : World) (hm : k.body.length ≤ 9223372036854775807) :
    Calls Try.prog 32 #[.agg #[.int .i64 k.seq, .int .i64 k.ack, .slice A k.body.length c]] w fun e w' => e = .returned (.bool (mayL k)) ∧ Below w.heap.size w w' := by
  obtain ⟨seq, ack, body⟩ := k
  simp only at hm ⊢
  obtain ⟨n, hn⟩ : ∃ n, body.length = n := ⟨_, rfl⟩
  have hv : mayL ⟨seq, ack, body⟩ = (decide (0 ≤ seq) && decide (seq ≤ 1099511627776) && decide (0 ≤ ack) && decide (ack ≤ 1099511627776) && decide (n ≤ 2048) && (decide (0 < seq) || decide (n = 0))) := by simp only [mayL, hn]
  rw [hv]
  rw [hn] at hm ⊢
  clear hv hn
  go_enter Try.func32, Try.ntmps32
  obtain ⟨r, hr⟩ : ∃ r, (decide (0 ≤ seq) && decide (seq ≤ 1099511627776) && decide (0 ≤ ack) && decide (ack ≤ 1099511627776) && decide (n ≤ 2048) && (decide (0 < seq) || decide (n = 0))) = r := ⟨_, rfl⟩
  rw [hr]
  by_cases a1 : 0 ≤ seq
  rotate_left 1
  · have hv : r = false := by rw [← hr]; simp; omega
    subst hv
    clear hr
    go_wp2
    go_ret
    exact ⟨rfl, (Below.refl _ _).alloc (Nat.le_refl _) _⟩
  by_cases a2 : seq ≤ 1099511627776
  rotate_left 1
  · have hv : r = false := by rw [← hr]; simp; omega
    subst hv
    clear hr
    go_wp2
    go_ret
    exact ⟨rfl, (Below.refl _ _).alloc (Nat.le_refl _) _⟩
  by_cases a3 : 0 ≤ ack
  rotate_left 1
  · have hv : r = false := by rw [← hr]; simp; omega
    subst hv
    clear hr
    go_wp2
    go_ret
    exact ⟨rfl, (Below.refl _ _).alloc (Nat.le_refl _) _⟩
  by_cases a4 : ack ≤ 1099511627776
  rotate_left 1
  · have hv : r = false := by rw [← hr]; simp; omega
    subst hv
    clear hr
    go_wp2
    go_ret
    exact ⟨rfl, (Below.refl _ _).alloc (Nat.le_refl _) _⟩
  by_cases a5 : n ≤ 2048
  rotate_left 1
  · have hv : r = false := by rw [← hr]; simp; omega
    subst hv
    clear hr
    go_wp2
    go_ret
    exact ⟨rfl, (Below.refl _ _).alloc (Nat.le_refl _) _⟩
  by_cases a6 : 0 < seq
  · have hv : r = true := by rw [← hr]; simp; omega
    subst hv
    clear hr
    go_wp2
    go_ret
    exact ⟨rfl, (Below.refl _ _).alloc (Nat.le_refl _) _⟩
  · by_cases a7 : n = 0
    · subst a7
      have hv : r = true := by rw [← hr]; simp; omega
      subst hv
      clear hr
      go_wp2
      go_ret
      exact ⟨rfl, (Below.refl _ _).alloc (Nat.le_refl _) _⟩
    · have a8 : ((n : Int) == 0) = false := by simp; omega
      have hv : r = false := by rw [← hr]; simp; omega
      subst hv
      clear hr
      go_wp2
      go_ret
      exact ⟨rfl, (Below.refl _ _).alloc (Nat.le_refl _) _⟩

end Go.Proofs.Ytnmbblkfaoihfaa
