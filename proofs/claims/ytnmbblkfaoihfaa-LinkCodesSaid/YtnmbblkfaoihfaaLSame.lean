/- Package link: Send, whatever comes; whether packets are the same. -/
import Derived.Test.YtnmbblkfaoihfaaLOn
namespace Go.Proofs.Ytnmbblkfaoihfaa
open Go.RowKit

set_option maxRecDepth 100000 in
theorem lsend_long (p : Nat) (G : Option Nat) (s : LSt) (A : Option Addr) (c : Nat) (bs : List Nat) (now : Int) (w : World) (h : IsE w 84 80 p G s) (hl : 2048 < bs.length) :
    Calls Try.prog 19 #[.pointer (some ⟨p, 0, none⟩), .slice A bs.length c, .int .i64 now] w
      (RetE 84 80 p G (fun e w' => ∃ v, e = .returned (.tuple #[v, .int .i64 3]) ∧ IsP w' v ⟨0, 0, []⟩) s w) := by
  have H := Lib.hid h
  have c0 : ∃ A c, w.cell? ⟨p, 0, none⟩ = some (.slice A s.l.length c) := by
    obtain ⟨v, h1, zs, _, h2, _⟩ := h
    obtain ⟨A, c, rfl, _, _, _, _⟩ := own_slice h2
    exact ⟨A, c, cell_at h1 0⟩
  obtain ⟨Av, cv, c0⟩ := c0
  have hp := h.lt
  clear h
  go_enter Try.func19, Try.ntmps19
  go_wp2
  refine bodyPost_ret (v := .tuple #[.agg #[.int .i64 0, .int .i64 0, .slice none 0 0], .int .i64 3]) (by simp [results, Try.f19, go_sem]) rfl ?_
  have hb := (Below.refl _ w).alloc (Nat.le_refl _) (.cells #[.int .i64 0, .int .i64 0, .slice none 0 0] 43)
  exact ⟨G, ⟨_, rfl, isp_zero _⟩, H.out.below hb, Fr.of_below hb, .inl rfl⟩

set_option maxRecDepth 100000 in
theorem lsend_full (p : Nat) (G : Option Nat) (s : LSt) (A : Option Addr) (c : Nat) (bs : List Nat) (now : Int) (w : World) (h : IsE w 84 80 p G s) (hl : bs.length ≤ 2048) (hn : 64 ≤ s.l.length) :
    Calls Try.prog 19 #[.pointer (some ⟨p, 0, none⟩), .slice A bs.length c, .int .i64 now] w
      (RetE 84 80 p G (fun e w' => ∃ v, e = .returned (.tuple #[v, .int .i64 2]) ∧ IsP w' v ⟨0, 0, []⟩) s w) := by
  have H := Lib.hid h
  have c0 : ∃ A c, w.cell? ⟨p, 0, none⟩ = some (.slice A s.l.length c) := by
    obtain ⟨v, h1, zs, _, h2, _⟩ := h
    obtain ⟨A, c, rfl, _, _, _, _⟩ := own_slice h2
    exact ⟨A, c, cell_at h1 0⟩
  obtain ⟨Av, cv, c0⟩ := c0
  have hp := h.lt
  clear h
  go_enter Try.func19, Try.ntmps19
  go_wp2
  refine bodyPost_ret (v := .tuple #[.agg #[.int .i64 0, .int .i64 0, .slice none 0 0], .int .i64 2]) (by simp [results, Try.f19, go_sem]) rfl ?_
  have hb := (Below.refl _ w).alloc (Nat.le_refl _) (.cells #[.int .i64 0, .int .i64 0, .slice none 0 0] 43)
  exact ⟨G, ⟨_, rfl, isp_zero _⟩, H.out.below hb, Fr.of_below hb, .inl rfl⟩

theorem lsend_any (p : Nat) (G : Option Nat) (s : LSt) (A : Option Addr) (c : Nat) (bs : List Nat) (now : Int) (w : World) (h : IsE w 84 80 p G s) (hb : ∀ W', Fr 0 [] (p :: G.toList) w W' → Bs W' (.slice A bs.length c) bs) (h256 : ∀ b ∈ bs, b < 256)
    (hs : 0 ≤ s.sent ∧ s.sent < 9223372036854775807) (hnow : -9223372036854775808 ≤ now ∧ now ≤ 9223372036854775807) :
    Calls Try.prog 19 #[.pointer (some ⟨p, 0, none⟩), .slice A bs.length c, .int .i64 now] w
      (RetE 84 80 p G (fun e w' => ∃ v, e = .returned (.tuple #[v, .int .i64 (sendE s bs)]) ∧ IsP w' v (sendP s bs)) (sendS s bs now) w) := by
  by_cases h1 : 2048 < bs.length
  · have e1 : sendE s bs = 3 := by unfold sendE; rw [if_pos h1]
    have e2 : sendP s bs = ⟨0, 0, []⟩ := by unfold sendP; rw [e1]; rfl
    have e3 : sendS s bs now = s := by unfold sendS; rw [e1]; rfl
    rw [e1, e2, e3]
    exact lsend_long p G s A c bs now w h h1
  · by_cases h2 : 64 ≤ s.l.length
    · have e1 : sendE s bs = 2 := by unfold sendE; rw [if_neg h1, if_pos h2]
      have e2 : sendP s bs = ⟨0, 0, []⟩ := by unfold sendP; rw [e1]; rfl
      have e3 : sendS s bs now = s := by unfold sendS; rw [e1]; rfl
      rw [e1, e2, e3]
      exact lsend_full p G s A c bs now w h (by omega) h2
    · have e1 : sendE s bs = 0 := by unfold sendE; rw [if_neg h1, if_neg h2]
      have e2 : sendP s bs = ⟨s.sent + 1, s.mark, bs⟩ := by unfold sendP; rw [e1]; rfl
      have e3 : sendS s bs now = ⟨s.l ++ [⟨s.sent + 1, bs, 1, nextL now 0⟩], s.sent + 1, s.mark⟩ := by unfold sendS; rw [e1]; rfl
      rw [e1, e2, e3]
      exact lsend_ok p G s A c bs now w h hb h256 (by omega) (by omega) hs hnow

theorem bs_rd {w : World} {A : Option Addr} {n c : Nat} {bs : List Nat} (h : Bs w (.slice A n c) bs) : Rd w 1 A n (bs.map u8v) := by
  obtain ⟨A', c', e, _, _, h3⟩ := h
  injection e with e1 e2 e3
  subst e1; subst e2; subst e3
  exact h3
set_option maxRecDepth 100000 in
set_option maxHeartbeats 400000 in
theorem same_eq (a : LPk) (A1 A2 : Option Addr) (c1 c2 : Nat) (w : World) (h1 : Bs w (.slice A1 a.body.length c1) a.body) (h2 : Bs w (.slice A2 a.body.length c2) a.body) (h3 : ∀ x ∈ a.body, x < 256) :
    Calls Try.prog 23 #[.agg #[.int .i64 a.seq, .int .i64 a.ack, .slice A1 a.body.length c1], .agg #[.int .i64 a.seq, .int .i64 a.ack, .slice A2 a.body.length c2]] w fun e w' => e = .returned (.bool true) ∧ Below w.heap.size w w' := by
  have hbA : Below w.heap.size w ((w.alloc (.cells #[.int .i64 a.seq, .int .i64 a.ack, .slice A1 a.body.length c1] 43)).alloc (.cells #[.int .i64 a.seq, .int .i64 a.ack, .slice A2 a.body.length c2] 43)) := ((Below.refl _ w).alloc (Nat.le_refl _) _).alloc (by simp) _
  have HBA := Lib.hid hbA
  have r1 := run_str _ A1 a.body.length c1 a.body (bs_rd (h1.below hbA)) h3
  have r2 := run_str _ A2 a.body.length c2 a.body (bs_rd (h2.below hbA)) h3
  obtain ⟨S, hS⟩ : ∃ S, strOf a.body = S := ⟨_, rfl⟩
  rw [hS] at r1 r2
  clear h1 h2 h3 hS hbA
  go_enter Try.func23, Try.ntmps23
  go_wp2
  go_ret
  exact ⟨rfl, HBA.out⟩
end Go.Proofs.Ytnmbblkfaoihfaa
