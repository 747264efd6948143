/- The reference's Split. -/
import Derived.Test.YtlljeghlfijdnaaCSplit
import Derived.Test.YtlljeghlfijdnaaCRFst2
namespace Go.Proofs.Ytlljeghlfijdnaa
open Go.RowKit

/-- What holds between two rounds of Split. -/
def RSplRel (w : World) (bs : List Nat) (b o : Value) (wr : World) : Prop := ∃ xs r hs, joinB xs ++ r = bs ∧ xs.length + r.length ≤ bs.length ∧ (∀ x ∈ xs, x.length ≤ bs.length) ∧ Bs w b r ∧ wr.ownsRow w.heap.size 22 1 o xs.length hs ∧
  (∀ k (h : k < xs.length) u, hs[k]? = some u → Bs w u xs[k]) ∧ Below w.heap.size w wr

set_option maxRecDepth 100000 in
set_option maxHeartbeats 2000000 in
theorem rsplit_any (A : Option Addr) (c : Nat) (bs : List Nat) (w : World) (hr : Rd w 1 A bs.length (bs.map u8v)) (hb : ∀ b ∈ bs, b < 256) (hnc : bs.length ≤ c) (hcm : c ≤ maxLen) (ht : bs.length ≤ 4294967296) :
    Calls Try.prog 39 #[.slice A bs.length c] w (SplR (.bool false) (.bool true) bs w) := by
  obtain ⟨i0, hi0, hz0, hz1, hz2⟩ := info_parts Try.infoBytes
  have HB := Lib.hid hb
  have h0 : RSplRel w bs (.slice A bs.length c) (.slice none 0 0) w := ⟨[], bs, [], by simp [joinB_nil], by simp, by simp, ⟨A, c, rfl, hnc, hcm, hr⟩, World.ownsRow_nil _ _ _ _, fun k h => absurd h (by simp), Below.refl _ _⟩
  have H0 := Lib.hid h0
  clear h0 hr hb hnc hcm
  go_enter Try.func39, Try.ntmps39
  go_wp2_with fail
  go_loopw [0, 4] (fun b o wr => RSplRel w bs b o wr) (fun b _ _ => lenV b)
  case atStart => exact H0.out
  case round =>
    obtain ⟨xs, r, hs, hj, hlen, hxl, ⟨A', c', rfl, hrc, hcm, hrd⟩, ho, hcl, hb⟩ := hrel
    have HJ := Lib.hid hj
    have HX := Lib.hid hxl
    have HR := Lib.hid hrd
    have HO := Lib.hid ho
    have HC := Lib.hid hcl
    have HM := Lib.hid hcm
    have hcm' : c' ≤ 9223372036854775807 := by unfold maxLen at hcm; omega
    clear hj hxl hrd ho hcl hcm H0
    by_cases hr0 : r = []
    · subst hr0
      go_wp2
      go_ret2
      obtain ⟨A2, c2, rfl, k1, k2, k3, _⟩ := own_slice HO.out
      exact ⟨hb, .inl ⟨_, xs, rfl, ⟨A2, c2, hs, rfl, k1, k2, k3, fun k hk u hu => (HC.out k hk u hu).below hb⟩, by simpa using HJ.out, HX.out⟩⟩
    · have hpos : 0 < r.length := List.length_pos_iff.2 hr0
      have h256 : ∀ b ∈ r, b < 256 := fun b hb => HB.out b (by rw [← HJ.out]; simp [hb])
      have H256 := Lib.hid h256
      obtain ⟨g, o', rfl, hg, _⟩ := HR.out.2 hpos
      clear h256
      go_wp2_with fail
      refine (rfirst_any (some ⟨g, o', none⟩) c' r _ (HR.out.below hb) H256.out hrc HM.out).mono ?_
      rintro e w1 ⟨rfl, hb1⟩
      cases hf : firstN r with
      | none =>
        rw [rfstV_none hf]
        have HF := Lib.hid hf
        have HB1 := Lib.hid (hb.trans (hb1.mono hb.size))
        clear hf hb1
        go_wp2
        go_ret2
        exact ⟨HB1.out, .inr ⟨xs, r, rfl, HJ.out, ⟨hr0, .inl HF.out⟩, HX.out⟩⟩
      | some nk =>
        obtain ⟨n, k⟩ := nk
        rw [rfstV_some hf]
        have HF := Lib.hid hf
        have HB1 := Lib.hid (hb.trans (hb1.mono hb.size))
        have HB0 := Lib.hid hb1
        obtain ⟨hI, _, hk1, hk2⟩ := firstN_some H256.out hf
        unfold I64 at hI
        have hk0 : ((k : Int) == 0) = false := by rw [beq_eq_false_iff_ne]; omega
        clear hf hb1
        by_cases h1 : n < 0
        · go_wp2
          go_ret2
          exact ⟨HB1.out, .inr ⟨xs, r, rfl, HJ.out, ⟨hr0, .inr ⟨n, k, HF.out, .inl h1⟩⟩, HX.out⟩⟩
        · by_cases h2 : (r.length : Int) - k < n
          · go_wp2
            go_ret2
            exact ⟨HB1.out, .inr ⟨xs, r, rfl, HJ.out, ⟨hr0, .inr ⟨n, k, HF.out, .inr h2⟩⟩, HX.out⟩⟩
          · obtain ⟨m, rfl⟩ : ∃ m : Nat, n = m := ⟨n.toNat, by omega⟩
            have HS := Lib.hid (split_step H256.out HF.out (by omega) (by omega))
            have hkm : k + m ≤ r.length := by omega
            clear h1 h2 hI
            by_cases hc1 : k = c'
            · have hm0 : m = 0 := by omega
              have hrl : ((r.length : Int) - k < m) = False := eq_false (by omega)
              have hrl2 : ¬ ((r.length : Int) - (c' : Nat) < 0) := by omega
              obtain ⟨X, hX⟩ : ∃ X, (r.drop k).take m = X := ⟨_, rfl⟩
              have hS := HS.out
              simp only [Int.toNat_natCast, hX] at hS
              obtain ⟨hS3, _, hS1, hS2⟩ := hS
              have hrX : Rd w 1 (some ⟨g, o', none⟩) m (X.map u8v) := by rw [← hX]; exact HR.out.mid hkm (fun h => absurd h (by omega))
              have HX1 := Lib.hid (⟨some ⟨g, o', none⟩, c' - k, by rw [hS1]; congr 1 <;> omega, by omega, by have := HM.out; omega, hS1 ▸ hrX⟩ : Bs w (.slice (some ⟨g, o', none⟩) 0 0) X)
              have HS0 := Lib.hid hS1
              have HB2 := HB0
              have HS2 := Lib.hid hS2
              have hbw2 : wr.heap.size ≤ w1.heap.size := HB2.out.size
              have hwb : w.heap.size ≤ wr.heap.size := hb.size
              clear hS1 hS2 hrX
              have HO3 := Lib.hid ((Fr.of_below (B := 0) (T := []) (S := []) (HB2.out.alloc hbw2 (.cells #[(.slice (some ⟨g, o', none⟩) 0 0)] 22))).own HO.out (by simp) (by simp))
              go_wp2_with (at_builtin
                           go_loud (refine wpList_append_rd_at _ rfl (.tmp 29) (.tmp 36) 61 rfl w.heap.size 22 i0 (.slice none 0 0) 1 24 Try.underlying61 hi0 hz0 hz1 hz2 rfl (by decide) u4 _ _ rfl HO3.out (some ⟨w1.heap.size, 0, none⟩) 1 1 [.slice (some ⟨g, o', none⟩) 0 0] rfl ⟨rfl, fun _ => ⟨_, _, rfl, by simp, fun j u hu => by
                             have hj : j = 0 := by
                               have := (List.getElem?_eq_some_iff.1 hu).1
                               simp at this; omega
                             subst hj
                             simp at hu
                             subst hu
                             rw [cell_at (block_new _ _)]; rfl⟩⟩ (by simp [Value.oneCell']) (by unfold maxLen; omega) (by omega) (by simp; omega) ?_)
                           intro v5 w5 hown5 hgrow5 _
                           have HO5 := Lib.hid hown5
                           have HG5 := Lib.hid hgrow5
                           clear hown5 hgrow5)
              · rename_i hbad; exfalso; simp at hbad; omega
              go_roundw
              case rel =>
                have f5 := (Fr.refl (w1.alloc (.cells #[.slice (some ⟨g, o', none⟩) 0 0] 22))).grown (B := w.heap.size) (T := [22]) (S := []) HG5.out (fun j hj => by
                  obtain ⟨hb, cs, hc⟩ := own_block HO3.out hj
                  exact ⟨hb, .inr ⟨cs, _, _, hc, by simp⟩⟩)
                have hb3 : Below wr.heap.size wr (w1.alloc (.cells #[.slice (some ⟨g, o', none⟩) 0 0] 22)) := HB2.out.alloc hbw2 _
                have hw3 : w.heap.size ≤ (w1.alloc (.cells #[.slice (some ⟨g, o', none⟩) 0 0] 22)).heap.size := Nat.le_trans hwb hb3.size
                have hsl : hs.length = xs.length := by simpa using HO.out.1
                have hj1 := HJ.out
                have hs2 := HS2.out
                have hl0 := HS0.out
                have hne := (numB_length (m : Int)).1
                refine ⟨xs ++ [X], r.drop (k + m), hs ++ [.slice (some ⟨g, o', none⟩) 0 0], ?_, ?_, ?_, ⟨some ⟨g, o', none⟩, c' - (k + m), by rw [List.length_drop]; congr 1 <;> omega, by rw [List.length_drop]; omega, by have := HM.out; omega, ?_⟩, ?_, ?_, (hb.trans (hb3.mono hwb)).trans (f5.below hw3)⟩
                · rw [joinB_one, hl0, List.append_assoc, hs2, hj1]
                · rw [List.length_append, List.length_drop]; simp only [List.length_cons, List.length_nil]; omega
                · intro x hx
                  rcases List.mem_append.1 hx with hx | hx
                  · exact HX.out x hx
                  · rw [List.mem_singleton.1 hx, hl0]; omega
                · have := HR.out.drop (k := k + m) (by omega) (A := some ⟨g, o', none⟩) (fun h => absurd h (by omega))
                  simpa using this
                · simpa using HO5.out
                · intro j hj u hu
                  by_cases hjx : j < xs.length
                  · rw [List.getElem?_append_left (by omega)] at hu
                    have h1 := HC.out j hjx u hu
                    simpa [List.getElem_append_left hjx] using h1
                  · have hjj : j = xs.length := by simp at hj; omega
                    subst hjj
                    rw [← hsl, List.getElem?_append_right (Nat.le_refl _)] at hu
                    simp at hu
                    subst hu
                    have e0 : (xs ++ [X])[xs.length]'(by simp) = X := by simp
                    rw [e0]; exact HX1.out
              case measure => simp [lenV]; omega
            · have hkc : k < c' := by omega
              by_cases hc2 : k + m = c'
              · have hfu : r.length = k + m := by omega
                obtain ⟨X, hX⟩ : ∃ X, (r.drop k).take m = X := ⟨_, rfl⟩
                have hS := HS.out
                simp only [Int.toNat_natCast, hX] at hS
                obtain ⟨hS3, _, hS1, hS2⟩ := hS
                have hrX : Rd w 1 (some ⟨g, o' + k, none⟩) m (X.map u8v) := by rw [← hX]; exact HR.out.mid hkm (fun _ => rfl)
                have HX1 := Lib.hid (⟨some ⟨g, o' + k, none⟩, c' - k, by rw [hS1]; congr 1 <;> omega, by omega, by have := HM.out; omega, hS1 ▸ hrX⟩ : Bs w (.slice (some ⟨g, o' + k, none⟩) (c' - k) (c' - k)) X)
                have HS0 := Lib.hid hS1
                have HB2 := HB0
                have HS2 := Lib.hid hS2
                have hbw2 : wr.heap.size ≤ w1.heap.size := HB2.out.size
                have hwb : w.heap.size ≤ wr.heap.size := hb.size
                clear hS1 hS2 hrX
                have HO3 := Lib.hid ((Fr.of_below (B := 0) (T := []) (S := []) (HB2.out.alloc hbw2 (.cells #[(.slice (some ⟨g, o' + k, none⟩) (c' - k) (c' - k))] 22))).own HO.out (by simp) (by simp))
                go_wp2_with (at_builtin
                             go_loud (refine wpList_append_rd_at _ rfl (.tmp 29) (.tmp 36) 61 rfl w.heap.size 22 i0 (.slice none 0 0) 1 24 Try.underlying61 hi0 hz0 hz1 hz2 rfl (by decide) u4 _ _ rfl HO3.out (some ⟨w1.heap.size, 0, none⟩) 1 1 [.slice (some ⟨g, o' + k, none⟩) (c' - k) (c' - k)] rfl ⟨rfl, fun _ => ⟨_, _, rfl, by simp, fun j u hu => by
                               have hj : j = 0 := by
                                 have := (List.getElem?_eq_some_iff.1 hu).1
                                 simp at this; omega
                               subst hj
                               simp at hu
                               subst hu
                               rw [cell_at (block_new _ _)]; rfl⟩⟩ (by simp [Value.oneCell']) (by unfold maxLen; omega) (by omega) (by simp; omega) ?_)
                             intro v5 w5 hown5 hgrow5 _
                             have HO5 := Lib.hid hown5
                             have HG5 := Lib.hid hgrow5
                             clear hown5 hgrow5)
                go_roundw
                case rel =>
                  have f5 := (Fr.refl (w1.alloc (.cells #[.slice (some ⟨g, o' + k, none⟩) (c' - k) (c' - k)] 22))).grown (B := w.heap.size) (T := [22]) (S := []) HG5.out (fun j hj => by
                    obtain ⟨hb, cs, hc⟩ := own_block HO3.out hj
                    exact ⟨hb, .inr ⟨cs, _, _, hc, by simp⟩⟩)
                  have hb3 : Below wr.heap.size wr (w1.alloc (.cells #[.slice (some ⟨g, o' + k, none⟩) (c' - k) (c' - k)] 22)) := HB2.out.alloc hbw2 _
                  have hw3 : w.heap.size ≤ (w1.alloc (.cells #[.slice (some ⟨g, o' + k, none⟩) (c' - k) (c' - k)] 22)).heap.size := Nat.le_trans hwb hb3.size
                  have hsl : hs.length = xs.length := by simpa using HO.out.1
                  have hj1 := HJ.out
                  have hs2 := HS2.out
                  have hl0 := HS0.out
                  have hne := (numB_length (m : Int)).1
                  refine ⟨xs ++ [X], r.drop (k + m), hs ++ [.slice (some ⟨g, o' + k, none⟩) (c' - k) (c' - k)], ?_, ?_, ?_, ⟨some ⟨g, o', none⟩, c' - (k + m), by rw [List.length_drop]; congr 1 <;> omega, by rw [List.length_drop]; omega, by have := HM.out; omega, ?_⟩, ?_, ?_, (hb.trans (hb3.mono hwb)).trans (f5.below hw3)⟩
                  · rw [joinB_one, hl0, List.append_assoc, hs2, hj1]
                  · rw [List.length_append, List.length_drop]; simp only [List.length_cons, List.length_nil]; omega
                  · intro x hx
                    rcases List.mem_append.1 hx with hx | hx
                    · exact HX.out x hx
                    · rw [List.mem_singleton.1 hx, hl0]; omega
                  · have := HR.out.drop (k := k + m) (by omega) (A := some ⟨g, o', none⟩) (fun h => absurd h (by omega))
                    simpa using this
                  · simpa using HO5.out
                  · intro j hj u hu
                    by_cases hjx : j < xs.length
                    · rw [List.getElem?_append_left (by omega)] at hu
                      have h1 := HC.out j hjx u hu
                      simpa [List.getElem_append_left hjx] using h1
                    · have hjj : j = xs.length := by simp at hj; omega
                      subst hjj
                      rw [← hsl, List.getElem?_append_right (Nat.le_refl _)] at hu
                      simp at hu
                      subst hu
                      have e0 : (xs ++ [X])[xs.length]'(by simp) = X := by simp
                      rw [e0]; exact HX1.out
                case measure => simp [lenV]; omega
              · have hkmc : k + m < c' := by omega
                obtain ⟨X, hX⟩ : ∃ X, (r.drop k).take m = X := ⟨_, rfl⟩
                have hS := HS.out
                simp only [Int.toNat_natCast, hX] at hS
                obtain ⟨hS3, _, hS1, hS2⟩ := hS
                have hrX : Rd w 1 (some ⟨g, o' + k, none⟩) m (X.map u8v) := by rw [← hX]; exact HR.out.mid hkm (fun _ => rfl)
                have HX1 := Lib.hid (⟨some ⟨g, o' + k, none⟩, c' - k, by rw [hS1], by omega, by have := HM.out; omega, hS1 ▸ hrX⟩ : Bs w (.slice (some ⟨g, o' + k, none⟩) m (c' - k)) X)
                have HS0 := Lib.hid hS1
                have HB2 := HB0
                have HS2 := Lib.hid hS2
                have hbw2 : wr.heap.size ≤ w1.heap.size := HB2.out.size
                have hwb : w.heap.size ≤ wr.heap.size := hb.size
                clear hS1 hS2 hrX
                have HO3 := Lib.hid ((Fr.of_below (B := 0) (T := []) (S := []) (HB2.out.alloc hbw2 (.cells #[(.slice (some ⟨g, o' + k, none⟩) m (c' - k))] 22))).own HO.out (by simp) (by simp))
                go_wp2_with (at_builtin
                             go_loud (refine wpList_append_rd_at _ rfl (.tmp 29) (.tmp 36) 61 rfl w.heap.size 22 i0 (.slice none 0 0) 1 24 Try.underlying61 hi0 hz0 hz1 hz2 rfl (by decide) u4 _ _ rfl HO3.out (some ⟨w1.heap.size, 0, none⟩) 1 1 [.slice (some ⟨g, o' + k, none⟩) m (c' - k)] rfl ⟨rfl, fun _ => ⟨_, _, rfl, by simp, fun j u hu => by
                               have hj : j = 0 := by
                                 have := (List.getElem?_eq_some_iff.1 hu).1
                                 simp at this; omega
                               subst hj
                               simp at hu
                               subst hu
                               rw [cell_at (block_new _ _)]; rfl⟩⟩ (by simp [Value.oneCell']) (by unfold maxLen; omega) (by omega) (by simp; omega) ?_)
                             intro v5 w5 hown5 hgrow5 _
                             have HO5 := Lib.hid hown5
                             have HG5 := Lib.hid hgrow5
                             clear hown5 hgrow5)
                go_roundw
                case rel =>
                  have f5 := (Fr.refl (w1.alloc (.cells #[.slice (some ⟨g, o' + k, none⟩) m (c' - k)] 22))).grown (B := w.heap.size) (T := [22]) (S := []) HG5.out (fun j hj => by
                    obtain ⟨hb, cs, hc⟩ := own_block HO3.out hj
                    exact ⟨hb, .inr ⟨cs, _, _, hc, by simp⟩⟩)
                  have hb3 : Below wr.heap.size wr (w1.alloc (.cells #[.slice (some ⟨g, o' + k, none⟩) m (c' - k)] 22)) := HB2.out.alloc hbw2 _
                  have hw3 : w.heap.size ≤ (w1.alloc (.cells #[.slice (some ⟨g, o' + k, none⟩) m (c' - k)] 22)).heap.size := Nat.le_trans hwb hb3.size
                  have hsl : hs.length = xs.length := by simpa using HO.out.1
                  have hj1 := HJ.out
                  have hs2 := HS2.out
                  have hl0 := HS0.out
                  have hne := (numB_length (m : Int)).1
                  refine ⟨xs ++ [X], r.drop (k + m), hs ++ [.slice (some ⟨g, o' + k, none⟩) m (c' - k)], ?_, ?_, ?_, ⟨some ⟨g, o' + (k + m), none⟩, c' - (k + m), by rw [List.length_drop], by rw [List.length_drop]; omega, by have := HM.out; omega, ?_⟩, ?_, ?_, (hb.trans (hb3.mono hwb)).trans (f5.below hw3)⟩
                  · rw [joinB_one, hl0, List.append_assoc, hs2, hj1]
                  · rw [List.length_append, List.length_drop]; simp only [List.length_cons, List.length_nil]; omega
                  · intro x hx
                    rcases List.mem_append.1 hx with hx | hx
                    · exact HX.out x hx
                    · rw [List.mem_singleton.1 hx, hl0]; omega
                  · have := HR.out.drop (k := k + m) (by omega) (A := some ⟨g, o' + (k + m), none⟩) (fun _ => by simp)
                    simpa using this
                  · simpa using HO5.out
                  · intro j hj u hu
                    by_cases hjx : j < xs.length
                    · rw [List.getElem?_append_left (by omega)] at hu
                      have h1 := HC.out j hjx u hu
                      simpa [List.getElem_append_left hjx] using h1
                    · have hjj : j = xs.length := by simp at hj; omega
                      subst hjj
                      rw [← hsl, List.getElem?_append_right (Nat.le_refl _)] at hu
                      simp at hu
                      subst hu
                      have e0 : (xs ++ [X])[xs.length]'(by simp) = X := by simp
                      rw [e0]; exact HX1.out
                case measure => simp [lenV]; omega
end Go.Proofs.Ytlljeghlfijdnaa
