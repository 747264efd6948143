/- Joined: The contracts of package backlog's methods, second part. The contracts of package backlog's methods, third part: Push, Back, Len, Out. -/
import Derived.Test.YtglfbihdbdcgiaaZBP1
import Derived.BigRegion
namespace Go.Proofs.Ytglfbihdbdcgiaa
open Go.RowKit

/-- A backlog in memory: rows, and the one that is out. -/
def IsB (w : World) (B p : Nat) (rs : List (Int × Bool)) (out : Int) : Prop :=
  B ≤ p ∧ ∃ v, w.heap[p]? = some (.cells #[v, .int .i64 out] 58 (0, 0)) ∧ w.ownsRow B 60 2 v rs.length (flat rs)

/-- What a call may turn of a backlog. -/
abbrev FrB (B : Nat) (w w' : World) : Prop := Fr B [58, 60] [] w w'

theorem IsB.below {w w' : World} {B p : Nat} {rs : List (Int × Bool)} {out : Int} (h : IsB w B p rs out) (hb : Below w.heap.size w w') : IsB w' B p rs out := by
  obtain ⟨hB, v, hp, ho⟩ := h
  have hf : Fr B [] [] w w' := Fr.of_below hb
  exact ⟨hB, v, hf.keep hp (by simp) (by simp), hf.own ho (by simp) (by simp)⟩
theorem IsB.fr {w w' : World} {B B' p : Nat} {T : List TypeId} {rs : List (Int × Bool)} {out : Int} (h : IsB w B p rs out) (hf : Fr B' T [] w w') (h1 : 58 ∉ T) (h2 : 60 ∉ T) : IsB w' B p rs out := by
  obtain ⟨hB, v, hp, ho⟩ := h
  exact ⟨hB, v, hf.keep hp h1 (by simp), hf.own ho h2 (by simp)⟩
theorem IsB.lt {w : World} {B p : Nat} {rs : List (Int × Bool)} {out : Int} (h : IsB w B p rs out) : p < w.heap.size := by
  obtain ⟨hB, v, hp, ho⟩ := h
  exact lt_of_block hp

set_option maxHeartbeats 400000 in
theorem bnew_any (w : World) (B : Nat) (hB : B ≤ w.heap.size) :
    Calls Try.prog 10 #[] w fun e w' => e = .returned (.pointer (some ⟨w.heap.size, 0, none⟩)) ∧ IsB w' B w.heap.size [] 0 ∧ Below w.heap.size w w' := by
  go_enter Try.func10, Try.ntmps10
  go_wp2
  go_ret
  exact ⟨rfl, ⟨hB, .slice none 0 0, block_new _ _, World.ownsRow_nil _ _ _ _⟩, (Below.refl _ _).alloc (Nat.le_refl _) _⟩

set_option maxHeartbeats 400000 in
theorem place_nil (n : Int) (w : World) :
    Calls Try.prog 15 #[.pointer none, .int .i64 n] w fun e w' => e = .returned (.int .i64 (-1)) ∧ Below w.heap.size w w' := by
  go_enter Try.func15, Try.ntmps15
  go_wp2
  go_ret
  exact ⟨rfl, (Below.refl _ _).alloc (Nat.le_refl _) _⟩

set_option maxHeartbeats 400000 in
theorem place_any (n : Int) (B p : Nat) (rs : List (Int × Bool)) (out : Int) (w : World) (h : IsB w B p rs out) (hm : rs.length ≤ 256) :
    Calls Try.prog 15 #[.pointer (some ⟨p, 0, none⟩), .int .i64 n] w fun e w' => e = .returned (.int .i64 (idx (fun r => r.1 == n) rs)) ∧ Below w.heap.size w w' := by
  obtain ⟨hB, v, hp, ho⟩ := h
  obtain ⟨A, c, rfl, hnc, hcm, hrd, hA⟩ := own_slice ho
  have hp' : (w.alloc (.cells #[.int .i64 n] 3)).cell? ⟨p, 0, none⟩ = some (.slice A rs.length c) := cell_at (block_alloc hp _) 0
  have hmf : ∀ (fn : Fn) (first cap : Array Value) (w : World), (Instr.makeFunc fn first cap).run Try.prog w = .ok (.func fn first cap) w := fun _ _ _ _ => rfl
  have hrd' : Rd (w.alloc (.cells #[.int .i64 n] 3)) 2 A rs.length (flat rs) := hrd.below ((Below.refl _ _).alloc (Nat.le_refl _) _)
  have HRD := Lib.hid hrd'
  clear hrd hrd' hA ho hp
  go_enter Try.func15, Try.ntmps15
  go_wp2_with (go_at_call 32; refine (indexPlace n _ rs _ _ _ (by unfold maxLen; omega) HRD.out ?_).mono ?_; (exact cell_at (block_new _ _) 0); rintro e w1 ⟨rfl, hb1⟩)
  go_ret
  exact ⟨rfl, ((Below.refl _ _).alloc (Nat.le_refl _) _).trans (hb1.mono (by simp))⟩

end Go.Proofs.Ytglfbihdbdcgiaa

namespace Go.Proofs.Ytglfbihdbdcgiaa
open Go.RowKit

theorem Try.infoRow : (Try.prog.info? 60).map (fun i => (i.zero, i.size, i.bytes)) = some (some (.agg #[.int .i64 0, .bool false]), 2, 16) := by kernel_rfl

/-- What Push answers. -/
def pushR (rs : List (Int × Bool)) (n : Int) : Int := if n < 1 then 1 else if idx (fun r => r.1 == n) rs = -1 then (if 256 ≤ rs.length then 2 else 0) else 5
/-- The rows behind Push. -/
def pushS (rs : List (Int × Bool)) (n : Int) : List (Int × Bool) := if n < 1 then rs else if idx (fun r => r.1 == n) rs = -1 then (if 256 ≤ rs.length then rs else rs ++ [(n, false)]) else rs

set_option maxHeartbeats 400000 in
theorem push_nil (n : Int) (w : World) :
    Calls Try.prog 12 #[.pointer none, .int .i64 n] w fun e w' => e = .returned (.int .i64 6) ∧ w = w' := by
  go_enter Try.func12, Try.ntmps12
  go_wp2
  go_ret
  exact ⟨rfl, rfl⟩

set_option maxHeartbeats 400000 in
theorem push_arg (n : Int) (p : Nat) (w : World) (h : n < 1) :
    Calls Try.prog 12 #[.pointer (some ⟨p, 0, none⟩), .int .i64 n] w fun e w' => e = .returned (.int .i64 1) ∧ w = w' := by
  go_enter Try.func12, Try.ntmps12
  go_wp2
  go_ret
  exact ⟨rfl, rfl⟩

theorem idx_ge (q : Int × Bool → Bool) (rs : List (Int × Bool)) : -1 ≤ idx q rs ∧ idx q rs < rs.length := by
  unfold idx
  cases h : rs.findIdx? q with
  | none => simp; omega
  | some i =>
    have := (List.findIdx?_eq_some_iff_getElem.1 h).1
    simp; omega

set_option maxRecDepth 100000 in
set_option maxHeartbeats 1000000 in
theorem push_twice (n : Int) (B p : Nat) (rs : List (Int × Bool)) (out : Int) (w : World) (hi : IsB w B p rs out) (hm : rs.length ≤ 256) (h : ¬ n < 1) (hx : ¬ idx (fun r => r.1 == n) rs = -1) :
    Calls Try.prog 12 #[.pointer (some ⟨p, 0, none⟩), .int .i64 n] w fun e w' => e = .returned (.int .i64 5) ∧ Below w.heap.size w w' := by
  have hc := fun w' hw => place_any n B p rs out w' hw hm
  obtain ⟨x, hxe⟩ : ∃ x, idx (fun r => r.1 == n) rs = x := ⟨_, rfl⟩
  rw [hxe] at hc hx
  have hxb : (x == -1) = false := by simpa using hx
  have hxn : (x != -1) = true := by simpa using hx
  clear hxe
  have HC := Lib.hid hc
  clear hc
  go_enter Try.func12, Try.ntmps12
  go_wp2_with (go_at_call 15; refine (HC.out _ hi).mono ?_; rintro e w1 ⟨rfl, hb1⟩)
  go_ret
  exact ⟨rfl, hb1⟩

set_option maxRecDepth 100000 in
set_option maxHeartbeats 1000000 in
theorem push_full (n : Int) (B p : Nat) (rs : List (Int × Bool)) (out : Int) (w : World) (hi : IsB w B p rs out) (hm : rs.length = 256) (h : ¬ n < 1) (hx : idx (fun r => r.1 == n) rs = -1) :
    Calls Try.prog 12 #[.pointer (some ⟨p, 0, none⟩), .int .i64 n] w fun e w' => e = .returned (.int .i64 2) ∧ Below w.heap.size w w' := by
  have hc := fun w' hw => place_any n B p rs out w' hw (by omega)
  rw [hx] at hc
  clear hx
  have HC := Lib.hid hc
  have HM := Lib.hid hm
  have hge : 256 ≤ rs.length := by omega
  clear hc hm
  obtain ⟨hB, v, hp, ho⟩ := id hi
  obtain ⟨A, c, rfl, hnc, hcm, hrd, hA⟩ := own_slice ho
  have hpl := lt_of_block hp
  have hp0 := cell_at hp 0
  clear hrd hA ho hp hcm
  go_enter Try.func12, Try.ntmps12
  go_wp2_with (go_at_call 15; refine (HC.out _ hi).mono ?_; rintro e w1 ⟨rfl, hb1⟩; have hp1 : w1.cell? ⟨p, 0, none⟩ = some (.slice A rs.length c) := (hb1.cell (p := ⟨p, 0, none⟩) hpl).trans hp0)
  go_ret
  exact ⟨rfl, hb1⟩

theorem two_one (n : Int) (b : Bool) : ∀ u ∈ [Value.int .i64 n, .bool b], u.oneCell' = true := by
  intro u hu; simp at hu; rcases hu with rfl | rfl <;> rfl

theorem push_kept {w1 w2 : World} {B p : Nat} {v : Value} {o : Obj} {cs : Array Value} {n : Nat} {xs : List Value} (hg : (w1.alloc o).grownBy w2 v.ownBlock) (hp : (w1.alloc o).heap[p]? = some (.cells cs 58 (0, 0)))
    (ho : w1.ownsRow B 60 2 v n xs) : w2.heap[p]? = some (.cells cs 58 (0, 0)) :=
  (hg.block p (lt_of_block hp) (fun e => own_ne (ho.alloc o) hp (by decide) e.symm)).trans hp

theorem push_end {w w1 w2 : World} {B p : Nat} {n out : Int} {v v2 : Value} {o : Obj} {rs : List (Int × Bool)} (hb1 : Below w.heap.size w w1) (hp : w.heap[p]? = some (.cells #[v, .int .i64 out] 58 (0, 0)))
    (ho1 : w1.ownsRow B 60 2 v rs.length (flat rs)) (hown2 : w2.ownsRow B 60 2 v2 (rs.length + 1) (flat rs ++ [.int .i64 n, .bool false])) (hg : (w1.alloc o).grownBy w2 v.ownBlock)
    (hp2 : w2.heap[p]? = some (.cells #[v, .int .i64 out] 58 (0, 0))) (hB : B ≤ p) :
    Ending.returned (.int .i64 0) = .returned (.int .i64 0) ∧ IsB (w2.setCell ⟨p, 0, none⟩ v2) B p (rs ++ [(n, false)]) out ∧ FrB B w (w2.setCell ⟨p, 0, none⟩ v2) := by
  have h1 : FrB B w w2 := ((Fr.of_below hb1).alloc o).grown hg (fun k hk => by
    obtain ⟨hb, cs, hc⟩ := own_block (ho1.alloc o) hk
    exact ⟨hb, .inr ⟨cs, _, _, hc, by simp⟩⟩)
  refine ⟨rfl, ⟨hB, v2, block_set hp2 0 v2, ?_⟩, h1.setCell v2 hB (.inr ⟨_, _, _, hp2, by simp⟩)⟩
  have h2 : Fr B [] [p] w2 (w2.setCell ⟨p, 0, none⟩ v2) := (Fr.refl w2).setCell v2 hB (.inl (by simp))
  have h3 := h2.own hown2 (by simp) (fun k hk => by
    have := own_ne hown2 hp2 (by decide)
    intro hm
    simp at hm
    subst hm
    exact this hk)
  simpa [flat_append, flat] using h3

set_option maxRecDepth 100000 in
set_option maxHeartbeats 1000000 in
theorem push_ok (n : Int) (B p : Nat) (rs : List (Int × Bool)) (out : Int) (w : World) (hi : IsB w B p rs out) (hm : rs.length < 256) (h : ¬ n < 1) (hx : idx (fun r => r.1 == n) rs = -1) :
    Calls Try.prog 12 #[.pointer (some ⟨p, 0, none⟩), .int .i64 n] w fun e w' => e = .returned (.int .i64 0) ∧ IsB w' B p (rs ++ [(n, false)]) out ∧ FrB B w w' := by
  have hc := fun w' hw => place_any n B p rs out w' hw (by omega)
  rw [hx] at hc
  clear hx
  have HC := Lib.hid hc
  clear hc
  obtain ⟨i0, hi0, hz0, hz1, hz2⟩ := info_parts Try.infoRow
  obtain ⟨hB, v, hp, ho⟩ := id hi
  obtain ⟨A, c, rfl, hnc, hcm, hrd, hA⟩ := own_slice ho
  have hpl := lt_of_block hp
  have hp0 := cell_at hp 0
  clear hrd hA hcm
  have HO := Lib.hid ho
  have HP := Lib.hid hp
  clear ho hp
  go_enter Try.func12, Try.ntmps12
  go_wp2_with (first
    | (at_builtin
       refine wpList_append_own _ rfl (.tmp 27) (.tmp 30) 56 rfl B 60 i0 (.agg #[.int .i64 0, .bool false]) 2 16 Try.underlying56 hi0 hz0 hz1 hz2 rfl (by decide) (.slice A rs.length c) rs.length (flat rs) rfl (HO1.out.alloc _) ⟨w1.heap.size, 0, none⟩ 1 1 [.int .i64 n, .bool false] rfl rfl (cell_two_new _ _ _ _) (two_one _ _) (by unfold maxLen; omega) (by omega) (by have := hb1.size; simp; omega) ?_
       intro v2 w2 hown2 hgrow2 _
       obtain ⟨g2, cap2, rfl⟩ := own_succ hown2
       have hp2 := push_kept hgrow2 (block_alloc HP1.out _) HO1.out
       have hp20 := cell_at hp2 0
       have hp2f := frozen_at hp2 0
       have HOwn2 := Lib.hid hown2
       have HGrow2 := Lib.hid hgrow2
       have HP2 := Lib.hid hp2
       clear hown2 hgrow2 hp2)
    | (go_at_call 15; refine (HC.out _ hi).mono ?_; rintro e w1 ⟨rfl, hb1⟩
       have hp1 : w1.cell? ⟨p, 0, none⟩ = some (.slice A rs.length c) := (hb1.cell (p := ⟨p, 0, none⟩) hpl).trans hp0
       have HP1 := Lib.hid ((hb1.block p hpl).trans HP.out)
       have HO1 := Lib.hid ((Fr.of_below (B := B) (T := []) (S := []) hb1).own HO.out (by simp) (by simp))))
  go_ret
  exact push_end hb1 HP.out HO1.out HOwn2.out HGrow2.out HP2.out hB

end Go.Proofs.Ytglfbihdbdcgiaa
