/- Package crc: a sum, gone on by a table that is reckoned or is not yet. -/
import Derived.Test.YtchdfdimaopdeaaQTab
namespace Go.Proofs.Ytchdfdimaopdeaa
open Go.RowKit

theorem tabC_kind {d m : Int} {k i : Nat} {b : Int} : (tabC d m k)[i]? ≠ some (.int .u8 b) := by
  intro h
  have hm : Value.int .u8 b ∈ (tabC d m k).toList := by
    rw [Array.mem_toList_iff]
    exact Array.mem_of_getElem? h
  simp [tabC, u32v] at hm
/-- Bytes do not lie in a table. -/
theorem Bs.tab {w w' : World} {v : Value} {bs : List Nat} {p : Nat} (h : Bs w v bs) (ht : IsTab w p) (f : Fr 0 [] [p] w w') : Bs w' v bs := by
  obtain ⟨A, c, h1, h2, h3, h4⟩ := h
  refine ⟨A, c, h1, h2, h3, h4.frame f fun hn a ha hm => ?_⟩
  obtain ⟨g, o, ha', hg, hc⟩ := h4.2 hn
  rw [ha'] at ha
  cases ha
  simp at hm
  subst hm
  have h0 := hc 0 (u8v bs[0]) (by simp [hn])
  rcases ht with ht | ht
  · rw [cell_at ht] at h0
    exact tabC_kind h0
  · rw [cell_at ht] at h0
    exact tabC_kind h0

theorem once_any (p : Nat) (w : World) (h : IsTab w p) : Calls Try.prog 26 #[.pointer (some ⟨p, 0, none⟩), .func (.func 27) #[.pointer (some ⟨p, 0, none⟩)] #[]] w fun e w' => e = .returned (.tuple #[]) ∧ TabB w' p 1 0 256 ∧ Fr 0 [] [p] w w' := by
  rcases h with h | h
  · have h1 := h.set1 1
    refine (do_first p 0 w (fun w2 => TabB w2 p 0 1 256 ∧ Fr 0 [] [p] (w.setCell ⟨p, 1, none⟩ (.int .i32 1)) w2) (reckon_any p 1 _ h1) h.cell0 h.cell1 (h.frozen 1) fun w2 h2 => ⟨h2.1.cell0, h2.1.cell1, h2.1.frozen 0, h2.1.frozen 1⟩).mono ?_
    rintro e w' ⟨rfl, w2, ⟨h2, h3⟩, rfl⟩
    have h4 : TabB w2.drew p 0 1 256 := h2.keep rfl
    refine ⟨rfl, (h4.set0 1).set1 0, ?_⟩
    refine Fr.setCell (Fr.setCell (Fr.drew (Fr.trans (Fr.setCell (Fr.refl w) (p := ⟨p, 1, none⟩) _ (Nat.zero_le _) (.inl (by simp))) h3)) _ (Nat.zero_le _) (.inl (by simp))) _ (Nat.zero_le _) (.inl (by simp))
  · refine (do_done ⟨p, 0, none⟩ 1 (by decide) _ w h.cell0).mono ?_
    rintro e w' ⟨rfl, rfl⟩
    exact ⟨rfl, h, Fr.refl _⟩

set_option maxRecDepth 100000 in
set_option maxHeartbeats 400000 in
theorem on_tab (p : Nat) (s : Nat) (v : Value) (bs : List Nat) (hs : s < 4294967296) (hb : ∀ b ∈ bs, b < 256) (w : World) (ht : IsTab w p) (hv : Bs w v bs) : Calls Try.prog 15 #[.pointer (some ⟨p, 0, none⟩), .int .u32 s, v] w fun e w' => e = .returned (.int .u32 (onN s bs : Nat)) ∧ IsTab w' p ∧ Fr 0 [] [p] w w' := by
  obtain ⟨A, c, rfl, hl, _⟩ := hv.slice
  have HV := Lib.hid hv
  have HB := Lib.hid hb
  have HT := Lib.hid ht
  have hn := not32 hs
  obtain ⟨z, hz⟩ : ∃ z, flipN s = z := ⟨_, rfl⟩
  have hzl : z < 4294967296 := by rw [← hz]; exact flipN_lt s
  rw [hz] at hn
  have HR : Hid (onN s bs = flipN (runN z bs)) := Lib.hid (by unfold onN; rw [hz])
  have HZ := Lib.hid hzl
  have HN := Lib.hid hn
  clear hz hzl hb hv hn ht
  go_enter Try.func15, Try.ntmps15
  go_wp2_with fail
  refine (once_any p w HT.out).mono ?_
  rintro e w1 ⟨rfl, ht1, hf1⟩
  have HT1 := Lib.hid ht1
  have HF1 := Lib.hid hf1
  have HV1 := Lib.hid (HV.out.tab HT.out hf1)
  clear ht1 hf1
  go_wp2_with fail
  go_loop [1, 35] (fun x i => ∃ k : Nat, k ≤ bs.length ∧ i = .int .i64 k ∧ x = .int .u32 (runN z (bs.take k) : Nat)) (fun _ i => bs.length - (intOf i).toNat)
  case atStart => exact ⟨0, Nat.zero_le _, rfl, by first | rfl | (rw [HN.out]; rfl)⟩
  case round =>
    obtain ⟨k, hk, rfl, rfl⟩ := hrel
    have hx := runN_take_lt HZ.out HB.out k
    by_cases hlt : k < bs.length
    · have he := runN_take z bs k hlt
      obtain ⟨g, o, rfl, hc⟩ := HV1.out.at_ k hlt
      have hbk := HB.out bs[k] (List.getElem_mem hlt)
      obtain ⟨b, hb⟩ : ∃ b, bs[k] = b := ⟨_, rfl⟩
      obtain ⟨x, hxe⟩ : ∃ x, runN z (bs.take k) = x := ⟨_, rfl⟩
      rw [hb] at he hbk hc
      rw [hxe] at he hx
      simp only [hxe]
      rw [stepN_table] at he
      have hm := xor8 (a := x % 256) (b := b) (by omega) hbk
      have hyl := xor_lt8 (a := x % 256) (b := b) (by omega) hbk
      obtain ⟨y, hy⟩ : ∃ y, x % 256 ^^^ b = y := ⟨_, rfl⟩
      rw [hy] at hm hyl he
      have hm' : bits .xor .u8 ((x : Int) % 256) (b : Int) = (y : Int) := by rw [show (x : Int) % 256 = ((x % 256 : Nat) : Int) by omega]; exact hm
      clear hm
      have hq := HT1.out.cell hyl
      rw [if_pos hyl] at hq
      have hx2 := xor32 (a := x / 256) (b := stepN 0 y) (by omega) (stepN_lt (by omega) hyl)
      rw [← he] at hx2
      obtain ⟨q, hq'⟩ : ∃ q, stepN 0 y = q := ⟨_, rfl⟩
      rw [hq'] at hq hx2
      have HX := Lib.hid hx2
      have HXL := Lib.hid hx
      clear hb hxe he hy hq' hx2 hx hbk
      go_wp2_with fail
      go_round
      case rel => exact ⟨k + 1, hlt, by go_num, by rw [← HX.out]; first | rfl | (rw [show (x : Int) / 256 = ((x / 256 : Nat) : Int) by omega])⟩
      case measure => simp [intOf]; omega
    · obtain rfl : k = bs.length := by omega
      rw [List.take_length] at hx ⊢
      have hn := not32 hx
      rw [← HR.out] at hn
      clear HR
      go_wp2
      go_ret
      exact ⟨rfl, .inr HT1.out, HF1.out⟩
theorem sum_tab (p : Nat) (v : Value) (bs : List Nat) (hb : ∀ b ∈ bs, b < 256) (w : World) (ht : IsTab w p) (hv : Bs w v bs) : Calls Try.prog 13 #[.pointer (some ⟨p, 0, none⟩), v] w fun e w' => e = .returned (.int .u32 (onN 0 bs : Nat)) ∧ IsTab w' p ∧ Fr 0 [] [p] w w' := by
  have HC := Lib.hid (on_tab p 0 v bs (by omega) hb w ht hv)
  clear hv hb ht
  go_enter Try.func13, Try.ntmps13
  go_wp2_with fail
  refine HC.out.mono ?_
  rintro e w1 ⟨rfl, h1, h2⟩
  have H1 := Lib.hid h1
  have H2 := Lib.hid h2
  clear h1 h2 HC
  go_wp2
  go_ret
  exact ⟨rfl, H1.out, H2.out⟩
end Go.Proofs.Ytchdfdimaopdeaa
