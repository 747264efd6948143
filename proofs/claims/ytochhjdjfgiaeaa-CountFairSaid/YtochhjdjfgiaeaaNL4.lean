/- The law CountSums: sums of any numbers. The walk. -/
import Derived.Test.YtochhjdjfgiaeaaNSum
namespace Go.Proofs.Ytochhjdjfgiaeaa
open Go.RowKit

theorem own_empty (w : World) (T : TypeId) : (w.alloc (.cells #[] T)).ownsRow w.heap.size T 1 (.slice (some ⟨w.heap.size, 0, none⟩) 0 0) 0 [] :=
  ⟨rfl, .inr ⟨w.heap.size, 0, #[], rfl, Nat.le_refl _, block_new _ _, Nat.le_refl _, by unfold maxLen; omega, rfl, rfl⟩⟩
theorem Try.infoI : (Try.prog.info? 3).map (fun i => (i.zero, i.size, i.bytes)) = some (some (.int .i64 0), 1, 8) := by kernel_rfl
set_option maxRecDepth 100000 in
set_option maxHeartbeats 2000000 in
theorem sums_any (A : Option Addr) (c : Nat) (xs : List Int) (w : World) (hr : Rd w 1 A xs.length (xs.map i64v)) :
    Calls Try.prog 7 #[.slice A xs.length c] w fun e w' => e = .returned (.bool true) ∧ Below w.heap.size w w' := by
  obtain ⟨i0, hi0, hz0, hz1, hz2⟩ := info_parts' Try.infoI
  have HR := Lib.hid hr
  clear hr
  go_enter Try.func7, Try.ntmps7
  by_cases hl : 2000 < xs.length
  · clear hi0 hz0 hz1 hz2
    go_wp2_with fail
    refine (lives_any w).mono ?_
    rintro e w1 ⟨rfl, h1⟩
    have H1 := Lib.hid h1
    clear h1
    go_wp2
    go_ret
    exact ⟨rfl, H1.out⟩
  · have hl' : xs.length ≤ 2000 := by omega
    have h1' : ∀ u ∈ xs.map i64v, u.oneCell' = true := by
      intro u hu
      obtain ⟨x, _, rfl⟩ := List.mem_map.1 hu
      rfl
    go_wp2_with (first
      | (at_builtin
         refine wpList_append_rd _ rfl (.tmp 12) (.tmp 13) 31 rfl w.heap.size 3 i0 (.int .i64 0) 1 8 Try.underlying31 hi0 hz0 hz1 hz2 rfl (by decide) (.slice (some ⟨w.heap.size, 0, none⟩) 0 0) 0 [] rfl (own_empty w _) A xs.length c (xs.map i64v) rfl (HR.out.below ((Below.refl _ _).alloc (Nat.le_refl _) _)) h1' (by unfold maxLen; omega) (by omega) (by simp) ?_
         intro v2 w2 hown2 hgrow2 _
         have HO2 := Lib.hid hown2
         have hG2 := Fr.grown (B := w.heap.size) (T := [3]) (S := []) ((Fr.refl w).alloc (.cells #[] 3)) hgrow2 (fun j hj => by
           simp [Value.ownBlock] at hj
           subst hj
           exact ⟨Nat.le_refl _, .inr ⟨_, _, _, block_new _ _, by simp⟩⟩)
         have HB2 := Lib.hid (hG2.below (Nat.le_refl _))
         clear hown2 hgrow2 hG2)
      | fail)
    obtain ⟨A2, c2, rfl, _, km2, hr2, _⟩ := own_slice HO2.out
    simp only [Nat.zero_add, List.nil_append] at hr2 ⊢
    have hc2 : c2 ≤ 9223372036854775807 := by unfold maxLen at km2; omega
    have HR2 := Lib.hid hr2
    clear hi0 hz0 hz1 hz2 km2 HO2 hr2 h1'
    refine (sum_any A2 c2 xs w2 (by omega) HR2.out).mono ?_
    rintro e w3 ⟨rfl, h3⟩
    have H3 := Lib.hid (HB2.out.trans (h3.mono HB2.out.size))
    clear h3
    obtain ⟨V, hV⟩ : ∃ V, sumV xs = V := ⟨_, rfl⟩
    obtain ⟨E, hE⟩ : ∃ E, sumE xs = E := ⟨_, rfl⟩
    rw [hV, hE]
    have HV := Lib.hid hV
    have HE := Lib.hid hE
    clear hV hE
    go_wp2_with fail
    refine (xsum_any A c xs w3 (by omega) (HR.out.below H3.out)).mono ?_
    rintro e w4 ⟨rfl, h4⟩
    rw [HV.out, HE.out]
    have H4 := Lib.hid (H3.out.trans (h4.mono H3.out.size))
    clear h4
    go_wp2_with fail
    refine (lives_any w4).mono ?_
    rintro e w5 ⟨rfl, h5⟩
    have H5 := Lib.hid (H4.out.trans (h5.mono H4.out.size))
    clear h5
    go_wp2
    go_ret
    exact ⟨rfl, H5.out⟩
end Go.Proofs.Ytochhjdjfgiaeaa
