/- Joined: The contracts of the reference's functions, second part: News, Try, Back. The contracts of the reference's functions, third part: Try, Drop. -/
import Derived.Test.YtglfbihdbdcgiaaZBP6
namespace Go.Proofs.Ytglfbihdbdcgiaa
open Go.RowKit

set_option maxHeartbeats 400000 in
theorem xback_no (n : Int) (B q : Nat) (rs : List (Int × Bool)) (out : Int) (w : World) (h : IsX w B q rs out) (hn : out = 0 ∨ out ≠ n) :
    Calls Try.prog 23 #[.pointer (some ⟨q, 0, none⟩), .int .i64 n] w fun e w' => e = .returned (.bool false) ∧ Below w.heap.size w w' := by
  obtain ⟨hB, v, hp, ho⟩ := h
  have hp1 := cell_at hp 1
  clear ho hp
  by_cases h0 : out = 0
  · subst h0
    clear hn
    go_enter Try.func23, Try.ntmps23
    go_wp2
    go_ret
    exact ⟨rfl, Below.refl _ _⟩
  · have h1 : out ≠ n := by omega
    have e0 : (out == 0) = false := by simpa using h0
    have e1 : (out != n) = true := by simpa using h1
    clear hn h0 h1
    go_enter Try.func23, Try.ntmps23
    go_wp2
    go_ret
    exact ⟨rfl, Below.refl _ _⟩
set_option maxHeartbeats 400000 in
theorem xback_yes (n : Int) (B q : Nat) (rs : List (Int × Bool)) (w : World) (h : IsX w B q rs n) (hn : n ≠ 0) :
    Calls Try.prog 23 #[.pointer (some ⟨q, 0, none⟩), .int .i64 n] w fun e w' => e = .returned (.bool true) ∧ IsX w' B q rs 0 ∧ FrX B w w' := by
  obtain ⟨hB, v, hp, ho⟩ := h
  have hp1 := cell_at hp 1
  have hpf := frozen_at hp 1
  have e0 : (n == 0) = false := by simpa using hn
  have e1 : (n != n) = false := by simp
  have HO := Lib.hid ho
  have HP := Lib.hid hp
  clear ho hp hn
  go_enter Try.func23, Try.ntmps23
  go_wp2
  go_ret
  have hf : Fr B [43] [] w (w.setCell ⟨q, 1, none⟩ (.int .i64 0)) := (Fr.refl w).setCell _ hB (.inr ⟨_, _, _, HP.out, by simp⟩)
  exact ⟨rfl, ⟨hB, v, block_set HP.out 1 _, hf.own HO.out (by simp) (by simp)⟩, hf.mono (Nat.le_refl _) (by simp) (by simp)⟩
theorem xback_any (n : Int) (B q : Nat) (rs : List (Int × Bool)) (out : Int) (w : World) (h : IsX w B q rs out) :
    Calls Try.prog 23 #[.pointer (some ⟨q, 0, none⟩), .int .i64 n] w fun e w' => e = .returned (.bool (backB out n)) ∧ IsX w' B q rs (backO out n) ∧ FrX B w w' := by
  unfold backB backO
  by_cases hn : out = 0 ∨ out ≠ n
  · rw [if_pos hn]
    refine (xback_no n B q rs out w h hn).mono ?_
    rintro e w' ⟨rfl, hb⟩
    exact ⟨ret_bool (by rcases hn with h | h <;> simp [h]), h.below hb, Fr.of_below hb⟩
  · rw [if_neg hn]
    obtain ⟨h0, rfl⟩ : out ≠ 0 ∧ out = n := by omega
    refine (xback_yes out B q rs w h h0).mono ?_
    rintro e w' ⟨rfl, hb⟩
    exact ⟨ret_bool (by simp [h0]), hb⟩

/-- A store of a readiness into a row of the call's own: what stands behind it. -/
theorem xrow_set {w wr : World} {B q g n c : Nat} {cs : Array Value} {rs : List (Int × Bool)} {k : Nat} (hk : k < rs.length) (hn : rs.length = n) (u : Bool) (hp : wr.heap[q]? = some (.cells cs 43 (0, 0)))
    (ho : wr.ownsRow B 66 2 (.slice (some ⟨g, 0, none⟩) n c) n (flat rs)) (hf : FrX B w wr) :
    (wr.setCell ⟨g, k * 2 + 1, none⟩ (.bool u)).heap[q]? = some (.cells cs 43 (0, 0)) ∧ (wr.setCell ⟨g, k * 2 + 1, none⟩ (.bool u)).ownsRow B 66 2 (.slice (some ⟨g, 0, none⟩) n c) n (flat (rs.set k (rs[k].1, u))) ∧ FrX B w (wr.setCell ⟨g, k * 2 + 1, none⟩ (.bool u)) := by
  obtain ⟨hBg, cur, hg⟩ := own_block ho (k := g) rfl
  refine ⟨block_far hp (p := ⟨g, k * 2 + 1, none⟩) (fun e => own_ne ho hp (by decide) (by rw [e]; rfl)) _, ?_, hf.setCell _ hBg (.inr ⟨_, _, _, hg, by simp⟩)⟩
  have h2 := own_set ho (i := k * 2 + 1) (by omega) (.bool u)
  rwa [flat_set _ _ hk] at h2
/-- A row of the call's own, read: the two cells of row k. -/
theorem xrow_cells {wr : World} {B n c g e : Nat} {rs : List (Int × Bool)} (ho : wr.ownsRow B e 2 (.slice (some ⟨g, 0, none⟩) n c) n (flat rs)) {k : Nat} (hk : k < rs.length) : wr.cell? ⟨g, k * 2, none⟩ = some (.int .i64 rs[k].1) ∧ wr.cell? ⟨g, k * 2 + 1, none⟩ = some (.bool rs[k].2) := by
  have hcs := ho.cells (g := g) rfl
  exact ⟨by simpa [Addr.add_lit] using hcs _ _ (flat_fst hk), by simpa [Addr.add_lit] using hcs _ _ (flat_snd hk)⟩
/-- The list goes into the field. -/
theorem xput_end {w wr : World} {B q : Nat} {v v2 : Value} {out : Int} {rs : List (Int × Bool)} (hB : B ≤ q) (hp : wr.heap[q]? = some (.cells #[v, .int .i64 out] 43 (0, 0))) (ho : wr.ownsRow B 66 2 v2 rs.length (flat rs)) (hf : FrX B w wr) :
    IsX (wr.setCell ⟨q, 0, none⟩ v2) B q rs out ∧ FrX B w (wr.setCell ⟨q, 0, none⟩ v2) := by
  refine ⟨⟨hB, v2, block_set hp 0 v2, ?_⟩, hf.setCell v2 hB (.inr ⟨_, _, _, hp, by simp⟩)⟩
  have h2 : Fr B [] [q] wr (wr.setCell ⟨q, 0, none⟩ v2) := (Fr.refl wr).setCell v2 hB (.inl (by simp))
  exact h2.own ho (by simp) (fun k hk => by
    have := own_ne ho hp (by decide)
    intro hm
    simp at hm
    subst hm
    exact this hk)

theorem newsTo_stay (out : Int) (rs : List (Int × Bool)) (k : Nat) (h : k < rs.length) (hr : rs[k].1 = out) : newsTo out rs (k + 1) = newsTo out rs k := by
  rw [newsTo_succ out rs k h]
  have e : newsRow out rs[k] = (newsTo out rs k)[k]'(by rw [newsTo_length]; exact h) := by
    rw [newsTo_at out rs k h]
    exact Prod.ext rfl (by simp [newsRow, hr])
  rw [e]
  exact List.set_getElem_self _

set_option maxRecDepth 100000 in
set_option maxHeartbeats 2000000 in
theorem xnews (B q : Nat) (rs : List (Int × Bool)) (out : Int) (w : World) (hi : IsX w B q rs out) (hm : rs.length ≤ 256) :
    Calls Try.prog 21 #[.pointer (some ⟨q, 0, none⟩)] w fun e w' => e = .returned (.tuple #[]) ∧ IsX w' B q (rs.map (newsRow out)) out ∧ FrX B w w' := by
  obtain ⟨i0, hi0, hz0, hz1, hz2⟩ := info_parts Try.infoX
  obtain ⟨hB, v, hp, ho⟩ := hi
  obtain ⟨A, c, rfl, hnc, hcm, hrd, hA⟩ := own_slice ho
  have hql := lt_of_block hp
  have hBw : B ≤ w.heap.size := by omega
  have hp1 : (w.alloc (.cells #[] 66)).cell? ⟨q, 0, none⟩ = some (.slice A rs.length c) := cell_at (block_alloc hp _) 0
  have HP := Lib.hid hp
  have HR := Lib.hid hrd
  clear hA hcm hp ho hrd
  go_enter Try.func21, Try.ntmps21
  go_wp2_with (at_builtin
               refine wpList_append_rd _ rfl (.tmp 4) (.tmp 8) 41 rfl B 66 i0 (.agg #[.int .i64 0, .bool false]) 2 16 Try.underlying41 hi0 hz0 hz1 hz2 rfl (by decide) (.slice (some ⟨w.heap.size, 0, none⟩) 0 0) 0 [] rfl (World.ownsRow_made w #[] 0 hBw (by unfold maxLen; omega) (by simp)) A rs.length c (flat rs) rfl (HR.out.below ((Below.refl _ _).alloc (Nat.le_refl _) _)) (flat_one rs) (by unfold maxLen; omega) (by omega) (by simp; omega) ?_
               intro v2 w2 hown2 hgrow2 _
               simp only [Nat.zero_add, List.nil_append] at hown2
               have HO2 := Lib.hid hown2
               have HG2 := Lib.hid hgrow2
               obtain ⟨A2, c2, rfl, _, _, _, _⟩ := own_slice hown2
               clear hown2 hgrow2)
  have hp2 : Hid (w2.heap[q]? = some (.cells #[.slice A rs.length c, .int .i64 out] 43 (0, 0))) := (HG2.out.block q (lt_of_block (block_alloc HP.out _)) (fun e => by injection e with e; dsimp only at e; omega)).trans (block_alloc HP.out _)
  have F2 := Lib.hid (xcopy_fr (Below.refl _ w) hBw HG2.out)
  go_loopw [3] (fun i wr => ∃ k : Nat, k ≤ rs.length ∧ i = .int .i64 k ∧ wr.heap[q]? = some (.cells #[.slice A rs.length c, .int .i64 out] 43 (0, 0)) ∧ wr.ownsRow B 66 2 (.slice A2 rs.length c2) rs.length (flat (newsTo out rs k)) ∧ FrX B w wr) (fun i _ => rs.length - (intOf i).toNat)
  case atStart => exact ⟨0, Nat.zero_le _, rfl, hp2.out, by simpa [newsTo] using HO2.out, F2.out⟩
  case round =>
    obtain ⟨k, hk, rfl, hp, ho, hf⟩ := hrel
    have hp0 := cell_at hp 0
    have hp1 := cell_at hp 1
    have hpf := frozen_at hp 0
    have HOk := Lib.hid ho
    have HPk := Lib.hid hp
    have HF := Lib.hid hf
    clear hf hp
    by_cases hlt : k < rs.length
    · obtain ⟨g, c', hv⟩ := own_pos ho (by omega)
      obtain ⟨rfl, rfl⟩ : A2 = some ⟨g, 0, none⟩ ∧ c2 = c' := by injection hv with a b c; exact ⟨a, c⟩
      have hlk : k < (newsTo out rs k).length := by rw [newsTo_length]; exact hlt
      obtain ⟨c0, c1⟩ := xrow_cells ho hlk
      rw [newsTo_at out rs k hlt] at c0 c1
      obtain ⟨_, cur, hgb⟩ := own_block ho (k := g) rfl
      have f1 := frozen_at hgb (k * 2 + 1)
      clear ho hgb hv
      by_cases hr : rs[k].1 = out
      · have hrow := newsTo_stay out rs k hlt hr
        have HR' := Lib.hid hrow
        have e1 : (rs[k].1 != out) = false := by simpa using hr
        clear hrow hr
        go_wp2
        go_region
        all_goals (go_wp2; go_roundw)
        case rel => exact ⟨k + 1, by omega, by go_num, HPk.out, by rw [HR'.out]; exact HOk.out, HF.out.drew⟩
        case measure => simp [intOf]; omega
      · have hrow : newsTo out rs (k + 1) = (newsTo out rs k).set k ((newsTo out rs k)[k].1, true) := by
          have e1 : (rs[k].1 != out) = true := by simpa using hr
          rw [newsTo_succ out rs k hlt, newsTo_at _ rs k hlt, newsRow, e1, Bool.or_true]
        have HR' := Lib.hid hrow
        have e1 : (rs[k].1 != out) = true := by simpa using hr
        have hset := xrow_set (w := w) (wr := wr.drew) hlk (newsTo_length out rs k) true HPk.out HOk.out HF.out.drew
        have HS := Lib.hid hset
        clear hrow hr hset
        go_wp2
        go_region
        all_goals (go_wp2; go_roundw)
        case rel => exact ⟨k + 1, by omega, by go_num, HS.out.1, by rw [HR'.out]; exact HS.out.2.1, HS.out.2.2⟩
        case measure => simp [intOf]; omega
    · obtain rfl : k = rs.length := by omega
      clear ho
      go_wp2
      go_end0
      have h1 := HOk.out
      rw [newsTo_all] at h1
      have h2 := xput_end (rs := rs.map (newsRow out)) hB HPk.out (by simpa using h1) HF.out
      exact ⟨rfl, h2⟩

end Go.Proofs.Ytglfbihdbdcgiaa

namespace Go.Proofs.Ytglfbihdbdcgiaa
open Go.RowKit

set_option maxHeartbeats 400000 in
theorem xtry_out (B q : Nat) (rs : List (Int × Bool)) (out : Int) (w : World) (h : IsX w B q rs out) (h0 : out ≠ 0) :
    Calls Try.prog 22 #[.pointer (some ⟨q, 0, none⟩)] w fun e w' => e = .returned (.tuple #[.int .i64 0, .bool false]) ∧ Below w.heap.size w w' := by
  obtain ⟨hB, v, hp, ho⟩ := h
  have hp1 := cell_at hp 1
  have e0 : (out != 0) = true := by simpa using h0
  clear ho hp h0
  go_enter Try.func22, Try.ntmps22
  go_wp2
  go_ret2
  exact ⟨rfl, Below.refl _ _⟩

/-- How Try of the reference ends, behind a name. -/
def XTryPost (w : World) (B q : Nat) (rs : List (Int × Bool)) (e : Ending) (w' : World) : Prop := e = .returned (.tuple #[.int .i64 (tryX rs 0), .bool (tryB rs 0)]) ∧ IsX w' B q (tryS rs 0) (tryO rs 0) ∧ FrX B w w'

theorem xtry_hit {w wr : World} {B q g c k : Nat} {rs : List (Int × Bool)} {v : Value} (hB : B ≤ q) (hk : k < rs.length) (hr : rs[k].2 = true) (hq : ∀ j (hj : j < rs.length), j < k → rs[j].2 = false)
    (hp : wr.heap[q]? = some (.cells #[v, .int .i64 0] 43 (0, 0))) (ho : wr.ownsRow B 66 2 (.slice (some ⟨g, 0, none⟩) rs.length c) rs.length (flat rs)) (hf : FrX B w wr) :
    XTryPost w B q rs (.returned (.tuple #[.int .i64 rs[k].1, .bool true])) (((wr.setCell ⟨g, k * 2 + 1, none⟩ (.bool false)).setCell ⟨q, 0, none⟩ (.slice (some ⟨g, 0, none⟩) rs.length c)).setCell ⟨q, 1, none⟩ (.int .i64 rs[k].1)) := by
  have hfi : rs.findIdx? (fun r => r.2) = some k := by
    rw [List.findIdx?_eq_some_iff_getElem]
    exact ⟨hk, hr, fun j hj => by simp [hq j (by omega) hj]⟩
  have hX : tryX rs 0 = rs[k].1 := by simp [tryX, hfi, hk]
  have hO : tryO rs 0 = rs[k].1 := by simp [tryO, hfi, hk]
  have hBo : tryB rs 0 = true := by simp [tryB, hfi]
  have hS : tryS rs 0 = rs.set k (rs[k].1, false) := by simp [tryS, hfi, hk]
  obtain ⟨h1, h2, h3⟩ := xrow_set hk rfl false hp ho hf
  have hl : (rs.set k (rs[k].1, false)).length = rs.length := by simp
  obtain ⟨⟨_, v', h4, h5⟩, h6⟩ := xput_end (rs := rs.set k (rs[k].1, false)) hB h1 (by rw [hl]; exact h2) h3
  unfold XTryPost
  rw [hX, hO, hBo, hS]
  have h7 := block_set h4 1 (.int .i64 rs[k].1)
  refine ⟨rfl, ⟨hB, v', h7, ?_⟩, h6.setCell _ hB (.inr ⟨_, _, _, h4, by simp⟩)⟩
  have h8 : Fr B [] [q] _ (((wr.setCell ⟨g, k * 2 + 1, none⟩ (.bool false)).setCell ⟨q, 0, none⟩ (.slice (some ⟨g, 0, none⟩) rs.length c)).setCell ⟨q, 1, none⟩ (.int .i64 rs[k].1)) := (Fr.refl _).setCell _ hB (.inl (by simp))
  exact h8.own h5 (by simp) (fun j hj => by
    have := own_ne h5 h4 (by decide)
    intro hm
    simp at hm
    subst hm
    exact this hj)
theorem xtry_miss {w wr : World} {B q : Nat} {rs : List (Int × Bool)} (hi : IsX wr B q rs 0) (hf : FrX B w wr) (hq : ∀ j (hj : j < rs.length), rs[j].2 = false) : XTryPost w B q rs (.returned (.tuple #[.int .i64 0, .bool false])) wr := by
  have hfi : rs.findIdx? (fun r => r.2) = none := by
    rw [List.findIdx?_eq_none_iff]
    intro r hr
    obtain ⟨j, hj, rfl⟩ := List.getElem_of_mem hr
    exact hq j hj
  obtain ⟨h1, h2, h3, h4⟩ : tryX rs 0 = 0 ∧ tryB rs 0 = false ∧ tryS rs 0 = rs ∧ tryO rs 0 = 0 := by simp [tryX, tryB, tryS, tryO, hfi]
  unfold XTryPost
  rw [h1, h2, h3, h4]
  exact ⟨rfl, hi, hf⟩

set_option maxRecDepth 100000 in
set_option maxHeartbeats 2000000 in
theorem xtry_in (B q : Nat) (rs : List (Int × Bool)) (w : World) (hi : IsX w B q rs 0) (hm : rs.length ≤ 256) :
    Calls Try.prog 22 #[.pointer (some ⟨q, 0, none⟩)] w (XTryPost w B q rs) := by
  obtain ⟨i0, hi0, hz0, hz1, hz2⟩ := info_parts Try.infoX
  have HI := Lib.hid hi
  obtain ⟨hB, v, hp, ho⟩ := hi
  obtain ⟨A, c, rfl, hnc, hcm, hrd, hA⟩ := own_slice ho
  have hql := lt_of_block hp
  have hBw : B ≤ w.heap.size := by omega
  have hp11 := cell_at hp 1
  have hp1 : (w.alloc (.cells #[] 66)).cell? ⟨q, 0, none⟩ = some (.slice A rs.length c) := cell_at (block_alloc hp _) 0
  have HP := Lib.hid hp
  have HR := Lib.hid hrd
  clear hA hcm hp ho hrd
  go_enter Try.func22, Try.ntmps22
  go_wp2_with (at_builtin
               refine wpList_append_rd _ rfl (.tmp 11) (.tmp 15) 41 rfl B 66 i0 (.agg #[.int .i64 0, .bool false]) 2 16 Try.underlying41 hi0 hz0 hz1 hz2 rfl (by decide) (.slice (some ⟨w.heap.size, 0, none⟩) 0 0) 0 [] rfl (World.ownsRow_made w #[] 0 hBw (by unfold maxLen; omega) (by simp)) A rs.length c (flat rs) rfl (HR.out.below ((Below.refl _ _).alloc (Nat.le_refl _) _)) (flat_one rs) (by unfold maxLen; omega) (by omega) (by simp; omega) ?_
               intro v2 w2 hown2 hgrow2 _
               simp only [Nat.zero_add, List.nil_append] at hown2
               have HO2 := Lib.hid hown2
               have HG2 := Lib.hid hgrow2
               obtain ⟨A2, c2, rfl, _, _, _, _⟩ := own_slice hown2
               clear hown2 hgrow2)
  have hb2 : ∀ j, j < w.heap.size → w2.heap[j]? = w.heap[j]? := fun j hj => (HG2.out.block j (by simp; omega) (fun e => by injection e with e; dsimp only at e; omega)).trans (Below.heap_alloc w _ j hj)
  have hB2 : Below w.heap.size w w2 := ⟨HG2.out.os, HG2.out.tape, HG2.out.output, by have := HG2.out.size; simp at this; omega, hb2⟩
  have hp2 := (hb2 q hql).trans HP.out
  have hp20 := cell_at hp2 0
  have hp21 := cell_at hp2 1
  have hpf0 := frozen_at hp2 0
  have hpf1 := frozen_at hp2 1
  have HP2 := Lib.hid hp2
  have I2 := Lib.hid (HI.out.below hB2)
  have F2 := Lib.hid (xcopy_fr (Below.refl _ w) hBw HG2.out)
  clear hb2 hp2 hB2
  go_loopw [5] (fun i wr => ∃ k : Nat, k ≤ rs.length ∧ i = .int .i64 k ∧ w2 = wr ∧ ∀ j (hj : j < rs.length), j < k → rs[j].2 = false) (fun i _ => rs.length - (intOf i).toNat)
  case atStart => exact ⟨0, Nat.zero_le _, rfl, rfl, fun j hj hk => absurd hk (by omega)⟩
  case round =>
    obtain ⟨k, hk, rfl, rfl, hq⟩ := hrel
    have HQ := Lib.hid hq
    clear hq
    by_cases hlt : k < rs.length
    · obtain ⟨g, c', hv⟩ := own_pos HO2.out (by omega)
      obtain ⟨rfl, rfl⟩ : A2 = some ⟨g, 0, none⟩ ∧ c2 = c' := by injection hv with a b c; exact ⟨a, c⟩
      obtain ⟨c0, c1⟩ := xrow_cells HO2.out hlt
      obtain ⟨hBg, cur, hgb⟩ := own_block HO2.out (k := g) rfl
      have f1 := frozen_at hgb (k * 2 + 1)
      have hqg : q ≠ g := block_ne HP2.out hgb (by decide)
      clear hgb hv
      by_cases hr : rs[k].2 = true
      · have HX := Lib.hid (xtry_hit hB hlt hr (fun j hj hjk => HQ.out j hj hjk) HP2.out HO2.out F2.out)
        have hr' : rs[k].2 = true := hr
        clear hr
        go_wp2
        go_ret2
        exact HX.out
      · have hr' : rs[k].2 = false := by simpa using hr
        have HR' := Lib.hid hr'
        clear hr
        go_wp2
        go_roundw
        case rel =>
          refine ⟨k + 1, by omega, by go_num, (by first | rfl | trivial), fun j hj hk => ?_⟩
          rcases Nat.lt_or_ge j k with h | h
          · exact HQ.out j hj h
          · obtain rfl : j = k := by omega
            exact HR'.out
        case measure => simp [intOf]; omega
    · go_wp2
      go_ret2
      exact xtry_miss I2.out F2.out (fun j hj => HQ.out j hj (by omega))

theorem xtry_any (B q : Nat) (rs : List (Int × Bool)) (out : Int) (w : World) (h : IsX w B q rs out) (hm : rs.length ≤ 256) :
    Calls Try.prog 22 #[.pointer (some ⟨q, 0, none⟩)] w fun e w' => e = .returned (.tuple #[.int .i64 (tryX rs out), .bool (tryB rs out)]) ∧ IsX w' B q (tryS rs out) (tryO rs out) ∧ FrX B w w' := by
  by_cases h0 : out = 0
  · subst h0
    exact (xtry_in B q rs w h hm).mono fun _ _ hh => hh
  · unfold tryX tryB tryS tryO
    simp only [if_neg h0]
    refine (xtry_out B q rs out w h h0).mono ?_
    rintro e w' ⟨rfl, hb⟩
    exact ⟨rfl, h.below hb, Fr.of_below hb⟩

end Go.Proofs.Ytglfbihdbdcgiaa
