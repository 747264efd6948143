/- The contracts of the reference's functions, third part: Try, Drop. -/
import Derived.Test.YtglfbihdbdcgiaaRef2
namespace Go.Proofs.Ytglfbihdbdcgiaa
open Go.RowKit

set_option maxHeartbeats 400000 in
theorem xtry_out (B q : Nat) (rs : List (Int × Bool)) (out : Int) (w : World) (h : IsX w B q rs out) (h0 : out ≠ 0) :
    Calls Try.prog 22 #[.pointer (some ⟨q, 0, none⟩)] w fun e w' => e = .returned (.tuple #[.int .i64 0, .bool false]) ∧ Below w.heap.size w w' := by
  obtain ⟨hB, v, hp, ho⟩ := h
  have hp1 := cell_at hp 1
  have e0 : (out != 0) = true := by simpa using h0
  clear ho hp h0
  go_enter Try.func22, Try.ntmps22
  go_wp2
  go_ret2
  exact ⟨rfl, Below.refl _ _⟩

/-- How Try of the reference ends, behind a name. -/
def XTryPost (w : World) (B q : Nat) (rs : List (Int × Bool)) (e : Ending) (w' : World) : Prop := e = .returned (.tuple #[.int .i64 (tryX rs 0), .bool (tryB rs 0)]) ∧ IsX w' B q (tryS rs 0) (tryO rs 0) ∧ FrX B w w'

theorem xtry_hit {w wr : World} {B q g c k : Nat} {rs : List (Int × Bool)} {v : Value} (hB : B ≤ q) (hk : k < rs.length) (hr : rs[k].2 = true) (hq : ∀ j (hj : j < rs.length), j < k → rs[j].2 = false)
    (hp : wr.heap[q]? = some (.cells #[v, .int .i64 0] 43 (0, 0))) (ho : wr.ownsRow B 66 2 (.slice (some ⟨g, 0, none⟩) rs.length c) rs.length (flat rs)) (hf : FrX B w wr) :
    XTryPost w B q rs (.returned (.tuple #[.int .i64 rs[k].1, .bool true])) (((wr.setCell ⟨g, k * 2 + 1, none⟩ (.bool false)).setCell ⟨q, 0, none⟩ (.slice (some ⟨g, 0, none⟩) rs.length c)).setCell ⟨q, 1, none⟩ (.int .i64 rs[k].1)) := by
  have hfi : rs.findIdx? (fun r => r.2) = some k := by
    rw [List.findIdx?_eq_some_iff_getElem]
    exact ⟨hk, hr, fun j hj => by simp [hq j (by omega) hj]⟩
  have hX : tryX rs 0 = rs[k].1 := by simp [tryX, hfi, hk]
  have hO : tryO rs 0 = rs[k].1 := by simp [tryO, hfi, hk]
  have hBo : tryB rs 0 = true := by simp [tryB, hfi]
  have hS : tryS rs 0 = rs.set k (rs[k].1, false) := by simp [tryS, hfi, hk]
  obtain ⟨h1, h2, h3⟩ := xrow_set hk rfl false hp ho hf
  have hl : (rs.set k (rs[k].1, false)).length = rs.length := by simp
  obtain ⟨⟨_, v', h4, h5⟩, h6⟩ := xput_end (rs := rs.set k (rs[k].1, false)) hB h1 (by rw [hl]; exact h2) h3
  unfold XTryPost
  rw [hX, hO, hBo, hS]
  have h7 := block_set h4 1 (.int .i64 rs[k].1)
  refine ⟨rfl, ⟨hB, v', h7, ?_⟩, h6.setCell _ hB (.inr ⟨_, _, _, h4, by simp⟩)⟩
  have h8 : Fr B [] [q] _ (((wr.setCell ⟨g, k * 2 + 1, none⟩ (.bool false)).setCell ⟨q, 0, none⟩ (.slice (some ⟨g, 0, none⟩) rs.length c)).setCell ⟨q, 1, none⟩ (.int .i64 rs[k].1)) := (Fr.refl _).setCell _ hB (.inl (by simp))
  exact h8.own h5 (by simp) (fun j hj => by
    have := own_ne h5 h4 (by decide)
    intro hm
    simp at hm
    subst hm
    exact this hj)
theorem xtry_miss {w wr : World} {B q : Nat} {rs : List (Int × Bool)} (hi : IsX wr B q rs 0) (hf : FrX B w wr) (hq : ∀ j (hj : j < rs.length), rs[j].2 = false) : XTryPost w B q rs (.returned (.tuple #[.int .i64 0, .bool false])) wr := by
  have hfi : rs.findIdx? (fun r => r.2) = none := by
    rw [List.findIdx?_eq_none_iff]
    intro r hr
    obtain ⟨j, hj, rfl⟩ := List.getElem_of_mem hr
    exact hq j hj
  obtain ⟨h1, h2, h3, h4⟩ : tryX rs 0 = 0 ∧ tryB rs 0 = false ∧ tryS rs 0 = rs ∧ tryO rs 0 = 0 := by simp [tryX, tryB, tryS, tryO, hfi]
  unfold XTryPost
  rw [h1, h2, h3, h4]
  exact ⟨rfl, hi, hf⟩

set_option maxRecDepth 100000 in
set_option maxHeartbeats 2000000 in
theorem xtry_in (B q : Nat) (rs : List (Int × Bool)) (w : World) (hi : IsX w B q rs 0) (hm : rs.length ≤ 256) :
    Calls Try.prog 22 #[.pointer (some ⟨q, 0, none⟩)] w (XTryPost w B q rs) := by
  obtain ⟨i0, hi0, hz0, hz1, hz2⟩ := info_parts Try.infoX
  have HI := Lib.hid hi
  obtain ⟨hB, v, hp, ho⟩ := hi
  obtain ⟨A, c, rfl, hnc, hcm, hrd, hA⟩ := own_slice ho
  have hql := lt_of_block hp
  have hBw : B ≤ w.heap.size := by omega
  have hp11 := cell_at hp 1
  have hp1 : (w.alloc (.cells #[] 66)).cell? ⟨q, 0, none⟩ = some (.slice A rs.length c) := cell_at (block_alloc hp _) 0
  have HP := Lib.hid hp
  have HR := Lib.hid hrd
  clear hA hcm hp ho hrd
  go_enter Try.func22, Try.ntmps22
  go_wp2_with (at_builtin
               refine wpList_append_rd _ rfl (.tmp 11) (.tmp 15) 41 rfl B 66 i0 (.agg #[.int .i64 0, .bool false]) 2 16 Try.underlying41 hi0 hz0 hz1 hz2 rfl (by decide) (.slice (some ⟨w.heap.size, 0, none⟩) 0 0) 0 [] rfl (World.ownsRow_made w #[] 0 hBw (by unfold maxLen; omega) (by simp)) A rs.length c (flat rs) rfl (HR.out.below ((Below.refl _ _).alloc (Nat.le_refl _) _)) (flat_one rs) (by unfold maxLen; omega) (by omega) (by simp; omega) ?_
               intro v2 w2 hown2 hgrow2 _
               simp only [Nat.zero_add, List.nil_append] at hown2
               have HO2 := Lib.hid hown2
               have HG2 := Lib.hid hgrow2
               obtain ⟨A2, c2, rfl, _, _, _, _⟩ := own_slice hown2
               clear hown2 hgrow2)
  have hb2 : ∀ j, j < w.heap.size → w2.heap[j]? = w.heap[j]? := fun j hj => (HG2.out.block j (by simp; omega) (fun e => by injection e with e; dsimp only at e; omega)).trans (Below.heap_alloc w _ j hj)
  have hB2 : Below w.heap.size w w2 := ⟨HG2.out.os, HG2.out.tape, HG2.out.output, by have := HG2.out.size; simp at this; omega, hb2⟩
  have hp2 := (hb2 q hql).trans HP.out
  have hp20 := cell_at hp2 0
  have hp21 := cell_at hp2 1
  have hpf0 := frozen_at hp2 0
  have hpf1 := frozen_at hp2 1
  have HP2 := Lib.hid hp2
  have I2 := Lib.hid (HI.out.below hB2)
  have F2 := Lib.hid (xcopy_fr (Below.refl _ w) hBw HG2.out)
  clear hb2 hp2 hB2
  go_loopw [5] (fun i wr => ∃ k : Nat, k ≤ rs.length ∧ i = .int .i64 k ∧ w2 = wr ∧ ∀ j (hj : j < rs.length), j < k → rs[j].2 = false) (fun i _ => rs.length - (intOf i).toNat)
  case atStart => exact ⟨0, Nat.zero_le _, rfl, rfl, fun j hj hk => absurd hk (by omega)⟩
  case round =>
    obtain ⟨k, hk, rfl, rfl, hq⟩ := hrel
    have HQ := Lib.hid hq
    clear hq
    by_cases hlt : k < rs.length
    · obtain ⟨g, c', hv⟩ := own_pos HO2.out (by omega)
      obtain ⟨rfl, rfl⟩ : A2 = some ⟨g, 0, none⟩ ∧ c2 = c' := by injection hv with a b c; exact ⟨a, c⟩
      obtain ⟨c0, c1⟩ := xrow_cells HO2.out hlt
      obtain ⟨hBg, cur, hgb⟩ := own_block HO2.out (k := g) rfl
      have f1 := frozen_at hgb (k * 2 + 1)
      have hqg : q ≠ g := block_ne HP2.out hgb (by decide)
      clear hgb hv
      by_cases hr : rs[k].2 = true
      · have HX := Lib.hid (xtry_hit hB hlt hr (fun j hj hjk => HQ.out j hj hjk) HP2.out HO2.out F2.out)
        have hr' : rs[k].2 = true := hr
        clear hr
        go_wp2
        go_ret2
        exact HX.out
      · have hr' : rs[k].2 = false := by simpa using hr
        have HR' := Lib.hid hr'
        clear hr
        go_wp2
        go_roundw
        case rel =>
          refine ⟨k + 1, by omega, by go_num, (by first | rfl | trivial), fun j hj hk => ?_⟩
          rcases Nat.lt_or_ge j k with h | h
          · exact HQ.out j hj h
          · obtain rfl : j = k := by omega
            exact HR'.out
        case measure => simp [intOf]; omega
    · go_wp2
      go_ret2
      exact xtry_miss I2.out F2.out (fun j hj => HQ.out j hj (by omega))

theorem xtry_any (B q : Nat) (rs : List (Int × Bool)) (out : Int) (w : World) (h : IsX w B q rs out) (hm : rs.length ≤ 256) :
    Calls Try.prog 22 #[.pointer (some ⟨q, 0, none⟩)] w fun e w' => e = .returned (.tuple #[.int .i64 (tryX rs out), .bool (tryB rs out)]) ∧ IsX w' B q (tryS rs out) (tryO rs out) ∧ FrX B w w' := by
  by_cases h0 : out = 0
  · subst h0
    exact (xtry_in B q rs w h hm).mono fun _ _ hh => hh
  · unfold tryX tryB tryS tryO
    simp only [if_neg h0]
    refine (xtry_out B q rs out w h h0).mono ?_
    rintro e w' ⟨rfl, hb⟩
    exact ⟨rfl, h.below hb, Fr.of_below hb⟩

end Go.Proofs.Ytglfbihdbdcgiaa
