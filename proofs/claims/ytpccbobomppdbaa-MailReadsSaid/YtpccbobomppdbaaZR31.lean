/- The reference's Read and Decode of a request. -/
import Derived.Test.YtpccbobomppdbaaZR30
import Derived.Test.YtpccbobomppdbaaZR27
import Derived.Test.YtpccbobomppdbaaZR7
namespace Go.Proofs.Ytpccbobomppdbaa
open Go.RowKit

/-- What Read answers. -/
def RetXR (W0 : World) (q : Nat) (D : Option Nat) (s2 : St) (a : Ak) (ok : Bool) (e : Ending) (W : World) : Prop :=
  ∃ A c, e = .returned (.tuple #[akV a (.slice A a.items.length c), .bool ok]) ∧ Rd W 2 A a.items.length (a.items.flatMap encI) ∧ a.items.length ≤ 16 ∧ XSt W0 W q D s2 ∧ (∀ a', A = some a' → W0.heap.size ≤ a'.block)
set_option maxRecDepth 100000 in
set_option maxHeartbeats 4000000 in
theorem xaread_any (q : Nat) (D : Option Nat) (s : St) (W0 : World) (hT : IsT W0 82 q D s) (hD : D ≠ some q) (hDl : ∀ d, D = some d → d < W0.heap.size) :
    Calls Try.prog 77 #[.pointer (some ⟨q, 0, none⟩)] W0 (RetXR W0 q D (x4A s).2 (xA s) (xokA s)) := by
  obtain ⟨⟨n1, s1⟩, hn1⟩ : ∃ x, numT s 0 63 = x := ⟨_, rfl⟩
  obtain ⟨⟨n2, s2⟩, hn2⟩ : ∃ x, numT s1 1 4294967296 = x := ⟨_, rfl⟩
  obtain ⟨⟨n3, s3⟩, hn3⟩ : ∃ x, numT s2 0 99 = x := ⟨_, rfl⟩
  obtain ⟨⟨n4, s4⟩, hn4⟩ : ∃ x, numT s3 0 1099511627776 = x := ⟨_, rfl⟩
  obtain ⟨⟨n5, s5⟩, hn5⟩ : ∃ x, numT s4 0 7 = x := ⟨_, rfl⟩
  obtain ⟨⟨n6, s6⟩, hn6⟩ : ∃ x, numT s5 0 7 = x := ⟨_, rfl⟩
  obtain ⟨⟨n7, s7⟩, hn7⟩ : ∃ x, numT s6 0 1099511627776 = x := ⟨_, rfl⟩
  obtain ⟨⟨g8, s8⟩, hg8⟩ : ∃ x, rtextT s7 16 = x := ⟨_, rfl⟩
  obtain ⟨N, hN, hN16⟩ : ∃ N : Nat, (numT s8 0 16).1 = N ∧ (N : Int) ≤ 16 := by
    rcases numT_range s8 0 16 with h | h
    · exact ⟨0, by rw [h]; rfl, by omega⟩
    · exact ⟨(numT s8 0 16).1.toNat, by omega, by omega⟩
  obtain ⟨s9, hs9⟩ : ∃ x, (numT s8 0 16).2 = x := ⟨_, rfl⟩
  have hn9 : numT s8 0 16 = ((N : Int), s9) := Prod.ext hN hs9
  obtain ⟨⟨L, s10⟩, hL⟩ : ∃ x, itX N [] s9 = x := ⟨_, rfl⟩
  have hrn : readNs bdX s = ([n1, n2, n3, n4, n5, n6, n7], s7) := by
    simp only [bdX, readNs, hn1, hn2, hn3, hn4, hn5, hn6, hn7]
  have hp2 : x2A s = (g8, s8) := by unfold x2A; rw [hrn]; exact hg8
  have hp3 : x3A s = ((N : Int), s9) := by unfold x3A; rw [hp2]; exact hn9
  have hp4 : x4A s = (L, s10) := by unfold x4A; rw [hp3]; simp only [Int.toNat_natCast]; exact hL
  have hpA : xA s = ⟨n1, n2, n3, n4, n5, n6, n7, strOf g8, L⟩ := by unfold xA; rw [hrn, hp2, hp4]; rfl
  have hok : xokA s = ((!s10.2 && mayI L) && mayA ⟨n1, n2, n3, n4, n5, n6, n7, strOf g8, L⟩) := by unfold xokA; rw [hp4, hpA]
  have hsz8 : (strOf g8).size ≤ 16 := by have := rtextT_16 (s := s7); rw [hg8] at this; rw [strOf_size']; exact this
  rw [hp4, hpA, hok]
  obtain ⟨gd, hgd⟩ : ∃ gd, strOf g8 = gd := ⟨_, rfl⟩
  rw [hgd] at hsz8 ⊢
  obtain ⟨MA, hMA⟩ : ∃ MA, mayA ⟨n1, n2, n3, n4, n5, n6, n7, gd, L⟩ = MA := ⟨_, rfl⟩
  have hbad : ∀ b, (!s10.2 && mayI L) = b → b = true → s10.2 = false := by
    rintro b h rfl
    cases h2 : s10.2
    · rfl
    · rw [h2] at h; cases h
  obtain ⟨OB, hOB⟩ : ∃ OB, (!s10.2 && mayI L) = OB := ⟨_, rfl⟩
  have HBAD := Lib.hid (hbad OB hOB)
  have HMA := Lib.hid hMA
  have HOB := Lib.hid hOB
  rw [hMA, hOB]
  clear hMA hOB hbad
  have HGD := Lib.hid hgd
  have HSZ8 := Lib.hid hsz8
  have HQ := Lib.hid hT.lt
  have HDL := Lib.hid hDl
  have HNUM : Hid (∀ (W : World) (s s' : St) (a b n : Int), numT s a b = (n, s') → XSt W0 W q D s → Calls Try.prog 48 #[.pointer (some ⟨q, 0, none⟩), .int .i64 a, .int .i64 b] W fun e W' => e = .returned (.int .i64 n) ∧ XSt W0 W' q D s' ∧ Fr 0 [] [q] W W') := Lib.hid (fun W s s' a b n h hx => by
    have h9 := rtnum_any q D s a b W hx.1 hD
    rw [h] at h9
    exact h9.mono fun e W' ⟨he, hT, hf⟩ => ⟨he, hx.turn hT hf, hf⟩)
  have HTXT : Hid (∀ (W : World) (s s' : St) (g : List Nat), rtextT s 16 = (g, s') → XSt W0 W q D s → Calls Try.prog 50 #[.pointer (some ⟨q, 0, none⟩), .int .i64 16] W fun e W' => e = .returned (.string (strOf g)) ∧ XSt W0 W' q D s' ∧ Fr 0 [] [q] W W') := Lib.hid (fun W s s' g h hx => by
    have h9 := rttext_any q D s 16 W hx.1 hD
    rw [h] at h9
    exact h9.mono fun e W' ⟨he, hT, hf⟩ => ⟨he, hx.turn hT hf, hf⟩)
  have HRDI : Hid (∀ (W : World), XSt W0 W q D s8 → Calls Try.prog 49 #[.pointer (some ⟨q, 0, none⟩)] W fun e W' => ∃ v, e = .returned (.tuple #[v, .bool (!s10.2 && mayI L)]) ∧ W'.ownsRow W.heap.size 46 2 v L.length (L.flatMap encI) ∧ L.length ≤ 16 ∧ (∀ x ∈ L, OkP x) ∧ XSt W W' q D s10) := Lib.hid (fun W hx => xiread_any q D s8 s9 s10 N L W hx.1 hD (fun d hd => Nat.lt_of_lt_of_le (hDl d hd) hx.2.size) hn9 hL (by omega))
  have HN1 := Lib.hid hn1
  have HN2 := Lib.hid hn2
  have HN3 := Lib.hid hn3
  have HN4 := Lib.hid hn4
  have HN5 := Lib.hid hn5
  have HN6 := Lib.hid hn6
  have HN7 := Lib.hid hn7
  have HG8 := Lib.hid hg8
  have hx0 : XSt W0 W0 q D s := ⟨hT, Fr.refl _⟩
  have hb1 := (Below.refl W0.heap.size W0).alloc (Nat.le_refl _) (.cells #[.int .i64 0, .int .i64 0, .int .i64 0, .int .i64 0, .int .i64 0, .int .i64 0, .int .i64 0, .string { data := #[] }, .slice none 0 0] 24)
  have hb2 := hb1.alloc hb1.size (.cells #[.int .i64 0, .int .i64 0, .int .i64 0, .int .i64 0, .int .i64 0, .int .i64 0, .int .i64 0, .string { data := #[] }, .slice none 0 0] 24)
  have kr := block_alloc (block_new W0 (.cells #[.int .i64 0, .int .i64 0, .int .i64 0, .int .i64 0, .int .i64 0, .int .i64 0, .int .i64 0, .string { data := #[] }, .slice none 0 0] 24)) (.cells #[.int .i64 0, .int .i64 0, .int .i64 0, .int .i64 0, .int .i64 0, .int .i64 0, .int .i64 0, .string { data := #[] }, .slice none 0 0] 24)
  have ka := block_new (W0.alloc (.cells #[.int .i64 0, .int .i64 0, .int .i64 0, .int .i64 0, .int .i64 0, .int .i64 0, .int .i64 0, .string { data := #[] }, .slice none 0 0] 24)) (.cells #[.int .i64 0, .int .i64 0, .int .i64 0, .int .i64 0, .int .i64 0, .int .i64 0, .int .i64 0, .string { data := #[] }, .slice none 0 0] 24)
  simp only [World.size_alloc] at ka
  obtain ⟨pr, hpr⟩ : ∃ pr, W0.heap.size = pr := ⟨_, rfl⟩
  obtain ⟨W2, hW2⟩ : ∃ W2, (W0.alloc (.cells #[.int .i64 0, .int .i64 0, .int .i64 0, .int .i64 0, .int .i64 0, .int .i64 0, .int .i64 0, .string { data := #[] }, .slice none 0 0] 24)).alloc (.cells #[.int .i64 0, .int .i64 0, .int .i64 0, .int .i64 0, .int .i64 0, .int .i64 0, .int .i64 0, .string { data := #[] }, .slice none 0 0] 24) = W2 := ⟨_, rfl⟩
  rw [hW2] at hb2 kr ka
  rw [hpr] at kr ka
  have HX2 := Lib.hid (hx0.keep hb2 HQ.out HDL.out)
  have HPR2 := Lib.hid kr
  have HPA2 := Lib.hid ka
  have HPE := Lib.hid hpr
  have HW2 := Lib.hid hW2
  have HQP : Hid (q < pr) := Lib.hid (by rw [← hpr]; exact HQ.out)
  have HWP : Hid (W0.heap.size ≤ pr ∧ W0.heap.size ≤ pr + 1) := Lib.hid (by omega)
  clear hn1 hn2 hn3 hn4 hn5 hn6 hn7 hg8 hN hs9 hn9 hL hrn hp2 hp3 hp4 hpA hok hsz8 hgd hT hD hDl hx0 hb1 hb2 kr ka hpr hW2
  go_enter Try.func77, Try.ntmps77
  go_wp2_with fail
  rw [HW2.out, HPE.out]
  refine (HNUM.out W2 s s1 0 63 n1 HN1.out HX2.out).mono ?_
  rintro e w3 ⟨rfl, hx, hf⟩
  have HX3 := Lib.hid hx
  have HPR3 := Lib.hid (hf.keep0 HPR2.out (by have := HQP.out; simp; omega))
  have HPA3 := Lib.hid (hf.keep0 HPA2.out (by have := HQP.out; simp; omega))
  have y0 := cell_at HPA3.out 0
  have f0 := frozen_at HPA3.out 0
  have HX4 := Lib.hid (HX3.out.keep ((Below.refl W0.heap.size w3).setCell (p := ⟨pr + 1, 0, none⟩) HWP.out.2 (.int .i64 n1)) HQ.out HDL.out)
  have HPA4 : Hid ((w3.setCell ⟨pr + 1, 0, none⟩ (.int .i64 n1)).heap[pr + 1]? = some (.cells #[.int .i64 n1, .int .i64 0, .int .i64 0, .int .i64 0, .int .i64 0, .int .i64 0, .int .i64 0, .string { data := #[] }, .slice none 0 0] 24 (0, 0))) := Lib.hid (by rw [block_set HPA3.out]; rfl)
  have HPR4 := Lib.hid (block_far HPR3.out (p := ⟨pr + 1, 0, none⟩) (by simp) (.int .i64 n1))
  obtain ⟨W4, hW⟩ : ∃ W, w3.setCell ⟨pr + 1, 0, none⟩ (.int .i64 n1) = W := ⟨_, rfl⟩
  rw [hW] at HX4 HPA4 HPR4
  have HW4 := Lib.hid hW
  clear hx hf hW
  go_wp2_with fail
  rw [HW4.out]
  clear y0 f0
  refine (HNUM.out W4 s1 s2 1 4294967296 n2 HN2.out HX4.out).mono ?_
  rintro e w5 ⟨rfl, hx, hf⟩
  have HX5 := Lib.hid hx
  have HPR5 := Lib.hid (hf.keep0 HPR4.out (by have := HQP.out; simp; omega))
  have HPA5 := Lib.hid (hf.keep0 HPA4.out (by have := HQP.out; simp; omega))
  have y0 := cell_at HPA5.out 1
  have f0 := frozen_at HPA5.out 1
  have HX6 := Lib.hid (HX5.out.keep ((Below.refl W0.heap.size w5).setCell (p := ⟨pr + 1, 1, none⟩) HWP.out.2 (.int .i64 n2)) HQ.out HDL.out)
  have HPA6 : Hid ((w5.setCell ⟨pr + 1, 1, none⟩ (.int .i64 n2)).heap[pr + 1]? = some (.cells #[.int .i64 n1, .int .i64 n2, .int .i64 0, .int .i64 0, .int .i64 0, .int .i64 0, .int .i64 0, .string { data := #[] }, .slice none 0 0] 24 (0, 0))) := Lib.hid (by rw [block_set HPA5.out]; rfl)
  have HPR6 := Lib.hid (block_far HPR5.out (p := ⟨pr + 1, 1, none⟩) (by simp) (.int .i64 n2))
  obtain ⟨W6, hW⟩ : ∃ W, w5.setCell ⟨pr + 1, 1, none⟩ (.int .i64 n2) = W := ⟨_, rfl⟩
  rw [hW] at HX6 HPA6 HPR6
  have HW6 := Lib.hid hW
  clear hx hf hW
  go_wp2_with fail
  rw [HW6.out]
  clear y0 f0
  refine (HNUM.out W6 s2 s3 0 99 n3 HN3.out HX6.out).mono ?_
  rintro e w7 ⟨rfl, hx, hf⟩
  have HX7 := Lib.hid hx
  have HPR7 := Lib.hid (hf.keep0 HPR6.out (by have := HQP.out; simp; omega))
  have HPA7 := Lib.hid (hf.keep0 HPA6.out (by have := HQP.out; simp; omega))
  have y0 := cell_at HPA7.out 2
  have f0 := frozen_at HPA7.out 2
  have HX8 := Lib.hid (HX7.out.keep ((Below.refl W0.heap.size w7).setCell (p := ⟨pr + 1, 2, none⟩) HWP.out.2 (.int .i64 n3)) HQ.out HDL.out)
  have HPA8 : Hid ((w7.setCell ⟨pr + 1, 2, none⟩ (.int .i64 n3)).heap[pr + 1]? = some (.cells #[.int .i64 n1, .int .i64 n2, .int .i64 n3, .int .i64 0, .int .i64 0, .int .i64 0, .int .i64 0, .string { data := #[] }, .slice none 0 0] 24 (0, 0))) := Lib.hid (by rw [block_set HPA7.out]; rfl)
  have HPR8 := Lib.hid (block_far HPR7.out (p := ⟨pr + 1, 2, none⟩) (by simp) (.int .i64 n3))
  obtain ⟨W8, hW⟩ : ∃ W, w7.setCell ⟨pr + 1, 2, none⟩ (.int .i64 n3) = W := ⟨_, rfl⟩
  rw [hW] at HX8 HPA8 HPR8
  have HW8 := Lib.hid hW
  clear hx hf hW
  go_wp2_with fail
  rw [HW8.out]
  clear y0 f0
  refine (HNUM.out W8 s3 s4 0 1099511627776 n4 HN4.out HX8.out).mono ?_
  rintro e w9 ⟨rfl, hx, hf⟩
  have HX9 := Lib.hid hx
  have HPR9 := Lib.hid (hf.keep0 HPR8.out (by have := HQP.out; simp; omega))
  have HPA9 := Lib.hid (hf.keep0 HPA8.out (by have := HQP.out; simp; omega))
  have y0 := cell_at HPA9.out 3
  have f0 := frozen_at HPA9.out 3
  have HX10 := Lib.hid (HX9.out.keep ((Below.refl W0.heap.size w9).setCell (p := ⟨pr + 1, 3, none⟩) HWP.out.2 (.int .i64 n4)) HQ.out HDL.out)
  have HPA10 : Hid ((w9.setCell ⟨pr + 1, 3, none⟩ (.int .i64 n4)).heap[pr + 1]? = some (.cells #[.int .i64 n1, .int .i64 n2, .int .i64 n3, .int .i64 n4, .int .i64 0, .int .i64 0, .int .i64 0, .string { data := #[] }, .slice none 0 0] 24 (0, 0))) := Lib.hid (by rw [block_set HPA9.out]; rfl)
  have HPR10 := Lib.hid (block_far HPR9.out (p := ⟨pr + 1, 3, none⟩) (by simp) (.int .i64 n4))
  obtain ⟨W10, hW⟩ : ∃ W, w9.setCell ⟨pr + 1, 3, none⟩ (.int .i64 n4) = W := ⟨_, rfl⟩
  rw [hW] at HX10 HPA10 HPR10
  have HW10 := Lib.hid hW
  clear hx hf hW
  go_wp2_with fail
  rw [HW10.out]
  clear y0 f0
  refine (HNUM.out W10 s4 s5 0 7 n5 HN5.out HX10.out).mono ?_
  rintro e w11 ⟨rfl, hx, hf⟩
  have HX11 := Lib.hid hx
  have HPR11 := Lib.hid (hf.keep0 HPR10.out (by have := HQP.out; simp; omega))
  have HPA11 := Lib.hid (hf.keep0 HPA10.out (by have := HQP.out; simp; omega))
  have y0 := cell_at HPA11.out 4
  have f0 := frozen_at HPA11.out 4
  have HX12 := Lib.hid (HX11.out.keep ((Below.refl W0.heap.size w11).setCell (p := ⟨pr + 1, 4, none⟩) HWP.out.2 (.int .i64 n5)) HQ.out HDL.out)
  have HPA12 : Hid ((w11.setCell ⟨pr + 1, 4, none⟩ (.int .i64 n5)).heap[pr + 1]? = some (.cells #[.int .i64 n1, .int .i64 n2, .int .i64 n3, .int .i64 n4, .int .i64 n5, .int .i64 0, .int .i64 0, .string { data := #[] }, .slice none 0 0] 24 (0, 0))) := Lib.hid (by rw [block_set HPA11.out]; rfl)
  have HPR12 := Lib.hid (block_far HPR11.out (p := ⟨pr + 1, 4, none⟩) (by simp) (.int .i64 n5))
  obtain ⟨W12, hW⟩ : ∃ W, w11.setCell ⟨pr + 1, 4, none⟩ (.int .i64 n5) = W := ⟨_, rfl⟩
  rw [hW] at HX12 HPA12 HPR12
  have HW12 := Lib.hid hW
  clear hx hf hW
  go_wp2_with fail
  rw [HW12.out]
  clear y0 f0
  refine (HNUM.out W12 s5 s6 0 7 n6 HN6.out HX12.out).mono ?_
  rintro e w13 ⟨rfl, hx, hf⟩
  have HX13 := Lib.hid hx
  have HPR13 := Lib.hid (hf.keep0 HPR12.out (by have := HQP.out; simp; omega))
  have HPA13 := Lib.hid (hf.keep0 HPA12.out (by have := HQP.out; simp; omega))
  have y0 := cell_at HPA13.out 5
  have f0 := frozen_at HPA13.out 5
  have HX14 := Lib.hid (HX13.out.keep ((Below.refl W0.heap.size w13).setCell (p := ⟨pr + 1, 5, none⟩) HWP.out.2 (.int .i64 n6)) HQ.out HDL.out)
  have HPA14 : Hid ((w13.setCell ⟨pr + 1, 5, none⟩ (.int .i64 n6)).heap[pr + 1]? = some (.cells #[.int .i64 n1, .int .i64 n2, .int .i64 n3, .int .i64 n4, .int .i64 n5, .int .i64 n6, .int .i64 0, .string { data := #[] }, .slice none 0 0] 24 (0, 0))) := Lib.hid (by rw [block_set HPA13.out]; rfl)
  have HPR14 := Lib.hid (block_far HPR13.out (p := ⟨pr + 1, 5, none⟩) (by simp) (.int .i64 n6))
  obtain ⟨W14, hW⟩ : ∃ W, w13.setCell ⟨pr + 1, 5, none⟩ (.int .i64 n6) = W := ⟨_, rfl⟩
  rw [hW] at HX14 HPA14 HPR14
  have HW14 := Lib.hid hW
  clear hx hf hW
  go_wp2_with fail
  rw [HW14.out]
  clear y0 f0
  refine (HNUM.out W14 s6 s7 0 1099511627776 n7 HN7.out HX14.out).mono ?_
  rintro e w15 ⟨rfl, hx, hf⟩
  have HX15 := Lib.hid hx
  have HPR15 := Lib.hid (hf.keep0 HPR14.out (by have := HQP.out; simp; omega))
  have HPA15 := Lib.hid (hf.keep0 HPA14.out (by have := HQP.out; simp; omega))
  have y0 := cell_at HPA15.out 6
  have f0 := frozen_at HPA15.out 6
  have HX16 := Lib.hid (HX15.out.keep ((Below.refl W0.heap.size w15).setCell (p := ⟨pr + 1, 6, none⟩) HWP.out.2 (.int .i64 n7)) HQ.out HDL.out)
  have HPA16 : Hid ((w15.setCell ⟨pr + 1, 6, none⟩ (.int .i64 n7)).heap[pr + 1]? = some (.cells #[.int .i64 n1, .int .i64 n2, .int .i64 n3, .int .i64 n4, .int .i64 n5, .int .i64 n6, .int .i64 n7, .string { data := #[] }, .slice none 0 0] 24 (0, 0))) := Lib.hid (by rw [block_set HPA15.out]; rfl)
  have HPR16 := Lib.hid (block_far HPR15.out (p := ⟨pr + 1, 6, none⟩) (by simp) (.int .i64 n7))
  obtain ⟨W16, hW⟩ : ∃ W, w15.setCell ⟨pr + 1, 6, none⟩ (.int .i64 n7) = W := ⟨_, rfl⟩
  rw [hW] at HX16 HPA16 HPR16
  have HW16 := Lib.hid hW
  clear hx hf hW
  go_wp2_with fail
  rw [HW16.out]
  clear y0 f0
  refine (HTXT.out W16 s7 s8 g8 HG8.out HX16.out).mono ?_
  rintro e w17 ⟨rfl, hx, hf⟩
  rw [HGD.out]
  have HX17 := Lib.hid hx
  have HPR17 := Lib.hid (hf.keep0 HPR16.out (by have := HQP.out; simp; omega))
  have HPA17 := Lib.hid (hf.keep0 HPA16.out (by have := HQP.out; simp; omega))
  have y0 := cell_at HPA17.out 7
  have f0 := frozen_at HPA17.out 7
  have HX18 := Lib.hid (HX17.out.keep ((Below.refl W0.heap.size w17).setCell (p := ⟨pr + 1, 7, none⟩) HWP.out.2 (.string gd)) HQ.out HDL.out)
  have HPA18 : Hid ((w17.setCell ⟨pr + 1, 7, none⟩ (.string gd)).heap[pr + 1]? = some (.cells #[.int .i64 n1, .int .i64 n2, .int .i64 n3, .int .i64 n4, .int .i64 n5, .int .i64 n6, .int .i64 n7, .string gd, .slice none 0 0] 24 (0, 0))) := Lib.hid (by rw [block_set HPA17.out]; rfl)
  have HPR18 := Lib.hid (block_far HPR17.out (p := ⟨pr + 1, 7, none⟩) (by simp) (.string gd))
  obtain ⟨W18, hW⟩ : ∃ W, w17.setCell ⟨pr + 1, 7, none⟩ (.string gd) = W := ⟨_, rfl⟩
  rw [hW] at HX18 HPA18 HPR18
  have HW18 := Lib.hid hW
  clear hx hf hW
  go_wp2_with fail
  rw [HW18.out]
  clear y0 f0
  refine (HRDI.out W18 HX18.out).mono ?_
  rintro e w20 ⟨v, rfl, hov, hL16, hokp, hx⟩
  rw [HOB.out]
  obtain ⟨Av, cv, rfl, _, _, _, _⟩ := own_slice hov
  obtain ⟨m, hm⟩ : ∃ m, L.length = m := ⟨_, rfl⟩
  have HMM := Lib.hid hm
  rw [hm] at hov hL16 ⊢
  have hx20 : XSt W0 w20 q D s10 := ⟨hx.1, HX18.out.2.trans hx.2⟩
  have HX20 := Lib.hid hx20
  have HOV := Lib.hid hov
  have HOKP := Lib.hid hokp
  have HPR20 := Lib.hid (hx.2.keep0 HPR18.out (by have := HQP.out; simp; omega))
  have HPA20 := Lib.hid (hx.2.keep0 HPA18.out (by have := HQP.out; simp; omega))
  have HBZ : Hid (pr + 1 < W18.heap.size) := Lib.hid (lt_of_block HPA18.out)
  have y0 := cell_at HPA20.out 8
  have f0 := frozen_at HPA20.out 8
  have HX21 := Lib.hid (HX20.out.keep ((Below.refl W0.heap.size w20).setCell (p := ⟨pr + 1, 8, none⟩) HWP.out.2 (.slice Av m cv)) HQ.out HDL.out)
  have HPA21 : Hid ((w20.setCell ⟨pr + 1, 8, none⟩ (.slice Av m cv)).heap[pr + 1]? = some (.cells #[.int .i64 n1, .int .i64 n2, .int .i64 n3, .int .i64 n4, .int .i64 n5, .int .i64 n6, .int .i64 n7, .string gd, .slice Av m cv] 24 (0, 0))) := Lib.hid (by rw [block_set HPA20.out]; rfl)
  have HPR21 := Lib.hid (block_far HPR20.out (p := ⟨pr + 1, 8, none⟩) (by simp) (.slice Av m cv))
  have HOV21 := Lib.hid (((Fr.refl w20).setCell (B := 0) (T := []) (S := [pr + 1]) (p := ⟨pr + 1, 8, none⟩) (.slice Av m cv) (Nat.zero_le _) (.inl (by simp))).own HOV.out (by simp) (fun j hj => by obtain ⟨h1, _⟩ := own_block HOV.out hj; have := HBZ.out; simp; omega))
  obtain ⟨W21, hW⟩ : ∃ W, w20.setCell ⟨pr + 1, 8, none⟩ (.slice Av m cv) = W := ⟨_, rfl⟩
  rw [hW] at HX21 HPA21 HPR21 HOV21
  have HW21 := Lib.hid hW
  have HMAY : Hid (∀ W (hr : Rd W 2 Av m (L.flatMap encI)), Calls Try.prog 36 #[akV ⟨n1, n2, n3, n4, n5, n6, n7, gd, L⟩ (.slice Av m cv)] W fun e W' => e = .returned (.bool (mayA ⟨n1, n2, n3, n4, n5, n6, n7, gd, L⟩)) ∧ Below W.heap.size W W') := Lib.hid (fun W hr => by
    have h9 := xamay_any ⟨n1, n2, n3, n4, n5, n6, n7, gd, L⟩ Av cv W (by simp only; rw [hm]; exact hr) ⟨fun z hz => by obtain ⟨h1, h2, h3⟩ := hokp z hz; exact ⟨by omega, h2, h3⟩, by simp only; omega⟩ (by have := HSZ8.out; simp only; omega)
    simp only [hm] at h9
    exact h9)
  rw [HMA.out] at HMAY
  clear hx20 hx hov hokp hm hW
  cases OB
  · go_wp2_with fail
    rw [HW21.out]
    clear y0 f0
    refine wp_region_flow2 (fun W => W.heap[pr + 1]? = some (.cells #[.int .i64 n1, .int .i64 n2, .int .i64 n3, .int .i64 n4, .int .i64 n5, .int .i64 n6, .int .i64 n7, .string gd, .slice Av m cv] 24 (0, 0)) ∧ W.ownsRow W18.heap.size 46 2 (.slice Av m cv) m (L.flatMap encI) ∧ XSt W0 W q D s10) (fun W => W.heap[pr]? = some (.cells #[.int .i64 0, .int .i64 0, .int .i64 0, .int .i64 0, .int .i64 0, .int .i64 0, .int .i64 0, .string { data := #[] }, .slice none 0 0] 24 (0, 0))) [0, 1, 2, 3, 4, 5, 6, 7, 8, 9, 10, 11, 12, 13, 14] (by kernel_rfl) (by kernel_rfl) (by kernel_rfl) (⟨HPA21.out, (Fr.of_below (B := 0) (T := []) (S := []) ((Below.refl _ W21).drew)).own HOV21.out (by simp) (by simp), HX21.out.keep ((Below.refl _ W21).drew) HQ.out HDL.out⟩) (HPR21.out) ?_
    refine flow_val ?_ rfl (by kernel_rfl) (by rfl) (fun W hW => ?_) ?_
    rotate_left 1
    · have c0 := cell_at hW.1 0; have c1 := cell_at hW.1 1; have c2 := cell_at hW.1 2; have c3 := cell_at hW.1 3; have c4 := cell_at hW.1 4; have c5 := cell_at hW.1 5; have c6 := cell_at hW.1 6; have c7 := cell_at hW.1 7; have c8 := cell_at hW.1 8; go_simp <;> with_reducible rfl
    simp only [puts]
    iterate 2
     refine flow_val ?_ rfl (by kernel_rfl) (by rfl) (fun W hW => ?_) ?_
     rotate_left 1
     · go_simp <;> with_reducible rfl
     simp only [puts]
    iterate 5
     refine flow_off rfl (by kernel_rfl) (by rfl) ?_
     simp only [puts]
    iterate 2
     refine flow_val ?_ rfl (by kernel_rfl) (by rfl) (fun W hW => ?_) ?_
     rotate_left 1
     · go_simp <;> with_reducible rfl
     simp only [puts]
    iterate 2
     refine flow_off rfl (by kernel_rfl) (by rfl) ?_
     simp only [puts]
    refine flow_val ?_ rfl (by kernel_rfl) (by rfl) (fun W hW => ?_) ?_
    rotate_left 1
    · go_simp <;> with_reducible rfl
    simp only [puts]
    refine flow_store (fun W => W.heap[pr]? = some (.cells #[.int .i64 n1, .int .i64 n2, .int .i64 n3, .int .i64 n4, .int .i64 n5, .int .i64 n6, .int .i64 n7, .string gd, .slice Av m cv] 24 (0, 0))) rfl (by kernel_rfl) (by rfl) (by kernel_rfl) (fun W hW hC => ?_) ?_
    · have HCC := Lib.hid hC
      have HSS := Lib.hid (hW)
      obtain ⟨W9, h9, _, hc9, hF, hB⟩ := ask_store hC (.int .i64 n1) (.int .i64 n2) (.int .i64 n3) (.int .i64 n4) (.int .i64 n5) (.int .i64 n6) (.int .i64 n7) (.string gd) (.slice Av m cv)
      have H9 := Lib.hid h9
      have HC9 := Lib.hid hc9
      have HF := Lib.hid hF
      have HB := Lib.hid hB
      have z0 := cell_at hC 0
      have f0 := frozen_at hC 0
      have z1 := cell_at hC 1
      have f1 := frozen_at hC 1
      have z2 := cell_at hC 2
      have f2 := frozen_at hC 2
      have z3 := cell_at hC 3
      have f3 := frozen_at hC 3
      have z4 := cell_at hC 4
      have f4 := frozen_at hC 4
      have z5 := cell_at hC 5
      have f5 := frozen_at hC 5
      have z6 := cell_at hC 6
      have f6 := frozen_at hC 6
      have z7 := cell_at hC 7
      have f7 := frozen_at hC 7
      have z8 := cell_at hC 8
      have f8 := frozen_at hC 8
      clear hC hW h9 hc9 hF hB
      refine ⟨W9, ?_, ⟨HF.out.keep0 HSS.out.1 (by simp), HF.out.own HSS.out.2.1 (by simp) (fun j hj => by obtain ⟨h1, _⟩ := own_block HSS.out.2.1 hj; have := HBZ.out; simp; omega), HSS.out.2.2.keep (HB.out _ HWP.out.1) HQ.out HDL.out⟩, HC9.out⟩
      rw [← H9.out]
      go_simp
    simp only [Act.put]
    refine flow_val ?_ rfl (by kernel_rfl) (by rfl) (fun W hW => ?_) ?_
    rotate_left 1
    · go_simp <;> with_reducible rfl
    simp only [puts]
    refine flow_done2 ?_
    intro W hW hC
    have HC := Lib.hid hC
    have HS := Lib.hid hW
    clear hW hC
    go_wp2_with fail
    have u0 := cell_at HC.out 0
    have u1 := cell_at HC.out 1
    have u2 := cell_at HC.out 2
    have u3 := cell_at HC.out 3
    have u4 := cell_at HC.out 4
    have u5 := cell_at HC.out 5
    have u6 := cell_at HC.out 6
    have u7 := cell_at HC.out 7
    have u8 := cell_at HC.out 8
    refine bodyPost_ret (v := .tuple #[.agg #[.int .i64 n1, .int .i64 n2, .int .i64 n3, .int .i64 n4, .int .i64 n5, .int .i64 n6, .int .i64 n7, .string gd, .slice Av m cv], .bool false]) (by simp [results, Try.f77, go_sem, u0, u1, u2, u3, u4, u5, u6, u7, u8]) rfl ?_
    exact ⟨Av, cv, by simp only [HMM.out]; rfl, by simp only [HMM.out]; exact own_rd HS.out.1.2.1, by simp only [HMM.out]; omega, HS.out.1.2.2, fun b2 ha => by obtain ⟨h1, _⟩ := own_block HS.out.1.2.1 (k := b2.block) (by rw [ha]; rfl); have := HBZ.out; have := HWP.out; omega⟩
  · have HB2 := Lib.hid (HBAD.out rfl)
    go_wp2_with fail
    rw [HW21.out]
    clear y0 f0
    refine wp_region_flow2 (fun W => W.heap[pr + 1]? = some (.cells #[.int .i64 n1, .int .i64 n2, .int .i64 n3, .int .i64 n4, .int .i64 n5, .int .i64 n6, .int .i64 n7, .string gd, .slice Av m cv] 24 (0, 0)) ∧ W.ownsRow W18.heap.size 46 2 (.slice Av m cv) m (L.flatMap encI) ∧ XSt W0 W q D s10) (fun W => W.heap[pr]? = some (.cells #[.int .i64 0, .int .i64 0, .int .i64 0, .int .i64 0, .int .i64 0, .int .i64 0, .int .i64 0, .string { data := #[] }, .slice none 0 0] 24 (0, 0))) [0, 1, 2, 3, 4, 5, 6, 7, 8, 9, 10, 11, 12, 13, 14] (by kernel_rfl) (by kernel_rfl) (by kernel_rfl) (⟨HPA21.out, (Fr.of_below (B := 0) (T := []) (S := []) ((Below.refl _ W21).drew)).own HOV21.out (by simp) (by simp), HX21.out.keep ((Below.refl _ W21).drew) HQ.out HDL.out⟩) (HPR21.out) ?_
    refine flow_val ?_ rfl (by kernel_rfl) (by rfl) (fun W hW => ?_) ?_
    rotate_left 1
    · have c0 := cell_at hW.1 0; have c1 := cell_at hW.1 1; have c2 := cell_at hW.1 2; have c3 := cell_at hW.1 3; have c4 := cell_at hW.1 4; have c5 := cell_at hW.1 5; have c6 := cell_at hW.1 6; have c7 := cell_at hW.1 7; have c8 := cell_at hW.1 8; go_simp <;> with_reducible rfl
    simp only [puts]
    iterate 5
     refine flow_val ?_ rfl (by kernel_rfl) (by rfl) (fun W hW => ?_) ?_
     rotate_left 1
     · go_simp <;> with_reducible rfl
     simp only [puts]
    refine flow_val ?_ rfl (by kernel_rfl) (by rfl) (fun W hW => ?_) ?_
    rotate_left 1
    · have cb : W.cell? ⟨q, 1, none⟩ = some (.bool false) := (by obtain ⟨⟨At, ct, ht, _⟩, _⟩ := hW.2.2; exact (cell_at ht 1).trans (by rw [HB2.out]; rfl)); go_simp <;> with_reducible rfl
    simp only [puts]
    iterate 3
     refine flow_val ?_ rfl (by kernel_rfl) (by rfl) (fun W hW => ?_) ?_
     rotate_left 1
     · go_simp <;> with_reducible rfl
     simp only [puts]
    refine flow_val ?_ rfl (by kernel_rfl) (by rfl) (fun W hW => ?_) ?_
    rotate_left 1
    · have c0 := cell_at hW.1 0; have c1 := cell_at hW.1 1; have c2 := cell_at hW.1 2; have c3 := cell_at hW.1 3; have c4 := cell_at hW.1 4; have c5 := cell_at hW.1 5; have c6 := cell_at hW.1 6; have c7 := cell_at hW.1 7; have c8 := cell_at hW.1 8; go_simp <;> with_reducible rfl
    simp only [puts]
    refine flow_turn (.bool MA) (fun W => W.heap[pr]? = some (.cells #[.int .i64 0, .int .i64 0, .int .i64 0, .int .i64 0, .int .i64 0, .int .i64 0, .int .i64 0, .string { data := #[] }, .slice none 0 0] 24 (0, 0))) rfl (by kernel_rfl) (by rfl) (by kernel_rfl) (fun W hW hC => ⟨_, _, _, by go_simp, (HMAY.out W (own_rd hW.2.1)).mono fun e w1 hh => ?_⟩) ?_
    · obtain ⟨he, hb⟩ := hh
      exact ⟨he, ⟨(hb.block _ (lt_of_block hW.1)).trans hW.1, (Fr.of_below (B := 0) (T := []) (S := []) hb).own hW.2.1 (by simp) (by simp), hW.2.2.keep (hb.mono hW.2.2.2.size) HQ.out HDL.out⟩, (hb.block _ (lt_of_block hC)).trans hC⟩
    simp only [puts]
    refine flow_val ?_ rfl (by kernel_rfl) (by rfl) (fun W hW => ?_) ?_
    rotate_left 1
    · go_simp <;> with_reducible rfl
    simp only [puts]
    refine flow_store (fun W => W.heap[pr]? = some (.cells #[.int .i64 n1, .int .i64 n2, .int .i64 n3, .int .i64 n4, .int .i64 n5, .int .i64 n6, .int .i64 n7, .string gd, .slice Av m cv] 24 (0, 0))) rfl (by kernel_rfl) (by rfl) (by kernel_rfl) (fun W hW hC => ?_) ?_
    · have HCC := Lib.hid hC
      have HSS := Lib.hid (hW.1)
      obtain ⟨W9, h9, _, hc9, hF, hB⟩ := ask_store hC (.int .i64 n1) (.int .i64 n2) (.int .i64 n3) (.int .i64 n4) (.int .i64 n5) (.int .i64 n6) (.int .i64 n7) (.string gd) (.slice Av m cv)
      have H9 := Lib.hid h9
      have HC9 := Lib.hid hc9
      have HF := Lib.hid hF
      have HB := Lib.hid hB
      have z0 := cell_at hC 0
      have f0 := frozen_at hC 0
      have z1 := cell_at hC 1
      have f1 := frozen_at hC 1
      have z2 := cell_at hC 2
      have f2 := frozen_at hC 2
      have z3 := cell_at hC 3
      have f3 := frozen_at hC 3
      have z4 := cell_at hC 4
      have f4 := frozen_at hC 4
      have z5 := cell_at hC 5
      have f5 := frozen_at hC 5
      have z6 := cell_at hC 6
      have f6 := frozen_at hC 6
      have z7 := cell_at hC 7
      have f7 := frozen_at hC 7
      have z8 := cell_at hC 8
      have f8 := frozen_at hC 8
      clear hC hW h9 hc9 hF hB
      refine ⟨W9, ?_, ⟨⟨HF.out.keep0 HSS.out.1 (by simp), HF.out.own HSS.out.2.1 (by simp) (fun j hj => by obtain ⟨h1, _⟩ := own_block HSS.out.2.1 hj; have := HBZ.out; simp; omega), HSS.out.2.2.keep (HB.out _ HWP.out.1) HQ.out HDL.out⟩, trivial⟩, HC9.out⟩
      rw [← H9.out]
      go_simp
    simp only [Act.put]
    refine flow_val ?_ rfl (by kernel_rfl) (by rfl) (fun W hW => ?_) ?_
    rotate_left 1
    · go_simp <;> with_reducible rfl
    simp only [puts]
    refine flow_done2 ?_
    intro W hW hC
    have HC := Lib.hid hC
    have HS := Lib.hid hW
    clear hW hC
    go_wp2_with fail
    have u0 := cell_at HC.out 0
    have u1 := cell_at HC.out 1
    have u2 := cell_at HC.out 2
    have u3 := cell_at HC.out 3
    have u4 := cell_at HC.out 4
    have u5 := cell_at HC.out 5
    have u6 := cell_at HC.out 6
    have u7 := cell_at HC.out 7
    have u8 := cell_at HC.out 8
    refine bodyPost_ret (v := .tuple #[.agg #[.int .i64 n1, .int .i64 n2, .int .i64 n3, .int .i64 n4, .int .i64 n5, .int .i64 n6, .int .i64 n7, .string gd, .slice Av m cv], .bool MA]) (by simp [results, Try.f77, go_sem, u0, u1, u2, u3, u4, u5, u6, u7, u8]) rfl ?_
    exact ⟨Av, cv, by simp only [HMM.out]; rfl, by simp only [HMM.out]; exact own_rd HS.out.1.1.2.1, by simp only [HMM.out]; omega, HS.out.1.1.2.2, fun b2 ha => by obtain ⟨h1, _⟩ := own_block HS.out.1.1.2.1 (k := b2.block) (by rw [ha]; rfl); have := HBZ.out; have := HWP.out; omega⟩
end Go.Proofs.Ytpccbobomppdbaa
