/- The law BacklogDoes: the walk, and the statement: for every slice of calls the call returns true. -/
import Derived.Test.YtglfbihdbdcgiaaDoes
import Derived.Test.YtglfbihdbdcgiaaFairW
namespace Go.Proofs.Ytglfbihdbdcgiaa
open Go.ChangeShapes Go.WideShapes Go.ChangeAt Go.RowKit

set_option maxRecDepth 100000 in
set_option maxHeartbeats 8000000 in
theorem does_any (A : Option Addr) (len cap : Nat) (zs : List (Int × Int)) (w : World) (hr : IsPairs w A len cap zs) :
    Calls Try.prog 6 #[.slice A len cap] w fun e w' => e = .returned (.bool true) ∧ Below w.heap.size w w' := by
  have hm : len ≤ 9223372036854775807 := by have := Nat.le_trans hr.1 hr.2.1; unfold maxLen at this; omega
  have HZ := Lib.hid hr.length
  have HR := Lib.hid hr
  clear hr
  go_enter Try.func6, Try.ntmps6
  go_wp2_with fail
  refine (new_any _ w.heap.size (Nat.le_refl _)).mono ?_
  rintro e w1 ⟨rfl, i1, b1⟩
  go_wp2_with fail
  refine (lives_any _).mono ?_
  rintro e w2 ⟨rfl, b2⟩
  have x1 : IsX (w1.alloc (.cells #[.slice none 0 0, .int .i64 0] 43)) w.heap.size w1.heap.size [] 0 := ⟨b1.size, _, block_new _ _, rfl, .inl ⟨rfl, rfl⟩⟩
  have x2 := x1.below b2
  have i2 := (i1.below ((Below.refl _ _).alloc (Nat.le_refl _) (.cells #[.slice none 0 0, .int .i64 0] 43))).below b2
  have b3 := (b1.alloc b1.size (.cells #[.slice none 0 0, .int .i64 0] 43))
  have b4 := b3.trans (b2.mono b3.size)
  obtain ⟨q, hq⟩ : ∃ q, w1.heap.size = q := ⟨_, rfl⟩
  rw [hq] at x2
  simp only [hq]
  clear i1 b1 b2 b3 x1 hq
  go_wp2_with fail
  go_loopw [5] (fun i wr => DoesRel w q wr i ∧ (intOf i).toNat ≤ len) (fun i _ => len - (intOf i).toNat)
  case atStart => exact ⟨⟨0, [], 0, rfl, Good.nil, i2, x2, b4⟩, Nat.zero_le _⟩
  case round =>
    obtain ⟨⟨k, rs, out, rfl, hg, hi, hx, hb⟩, hk⟩ := hrel
    have hk' : k ≤ len := by simpa [intOf] using hk
    have G := Lib.hid hg
    clear hk i2 x2 b4 hg
    by_cases hlt : k < len
    · obtain ⟨g, o, rfl, hgb, hc⟩ := HR.out.at_ (by omega)
      have hzl : k < zs.length := by rw [HZ.out]; exact hlt
      obtain ⟨hc0, hc1⟩ := hc k hzl
      obtain ⟨K, hK⟩ : ∃ K, zs[k].1 = K := ⟨_, rfl⟩
      obtain ⟨N, hN⟩ : ∃ N, zs[k].2 = N := ⟨_, rfl⟩
      rw [hK] at hc0
      rw [hN] at hc1
      have c0 : wr.cell? ⟨g, o + k * 2, none⟩ = some (.int .i64 K) := (hb.cell (p := ⟨g, o + k * 2, none⟩) hgb).trans hc0
      have c1 : wr.cell? ⟨g, o + k * 2 + 1, none⟩ = some (.int .i64 N) := (hb.cell (p := ⟨g, o + k * 2 + 1, none⟩) hgb).trans hc1
      have ba := (Below.refl wr.heap.size wr).alloc (Nat.le_refl _) (.cells #[.int .i64 K, .int .i64 N] 28)
      have ds0 : DS w w.heap.size q wr.heap.size K N rs out rs out (wr.alloc (.cells #[.int .i64 K, .int .i64 N] 28)) :=
        ⟨hi.below ba, hx.below ba, hb.trans (ba.mono hb.size), block_new _ _⟩
      clear hc hc0 hc1 hK hN hi hx hb ba
      by_cases e1 : K = 1
      · subst e1
        go_wp2_with fail
        have G1 := Lib.hid (G.out.push N)
        refine wp_region_step (DT w w.heap.size q wr.heap.size _ N rs out (pushS rs N) (out)) [3, 7] (by kernel_rfl) (by kernel_rfl) (by kernel_rfl) (ds0.below (Below.refl _ _).drew) ?_
        refine ⟨.pointer (some ⟨w.heap.size, 0, none⟩), .inl ⟨by decide, fun s _ => .inl ⟨by rfl, fun W' hw => .inl ⟨W', by clear hw; go_simp, hw⟩⟩⟩, ?_⟩
        simp only [Act.put, List.setIfInBounds_toArray, List.set_cons_succ, List.set_cons_zero]
        refine ⟨.pointer (some ⟨wr.heap.size, 1, none⟩), .inl ⟨by decide, fun s _ => .inl ⟨by rfl, fun W' hw => .inl ⟨W', by clear hw; go_simp, hw⟩⟩⟩, ?_⟩
        simp only [Act.put, List.setIfInBounds_toArray, List.set_cons_succ, List.set_cons_zero]
        refine ⟨.int .i64 N, .inl ⟨by decide, fun s _ => .inl ⟨by rfl, fun W' hw => .inl ⟨W', by have c1 := hw.c1; clear hw; go_simp, hw⟩⟩⟩, ?_⟩
        simp only [Act.put, List.setIfInBounds_toArray, List.set_cons_succ, List.set_cons_zero]
        refine ⟨.int .i64 (pushR rs N), .inr ⟨0, rfl, .inl ⟨by rfl, fun W' hw => .inr (.inr ⟨12, #[.pointer (some ⟨w.heap.size, 0, none⟩), .int .i64 N], W', by clear hw; go_simp, DS.b hw (push_any N _ _ _ _ _ hw.1 G.out.1)⟩)⟩⟩, ?_⟩
        simp only [Act.put, List.setIfInBounds_toArray, List.set_cons_succ, List.set_cons_zero]
        refine ⟨.pointer (some ⟨q, 0, none⟩), .inl ⟨by decide, fun s _ => .inl ⟨by rfl, fun W' hw => .inl ⟨W', by clear hw; go_simp, hw⟩⟩⟩, ?_⟩
        simp only [Act.put, List.setIfInBounds_toArray, List.set_cons_succ, List.set_cons_zero]
        refine ⟨.pointer (some ⟨wr.heap.size, 1, none⟩), .inl ⟨by decide, fun s _ => .inl ⟨by rfl, fun W' hw => .inl ⟨W', by clear hw; go_simp, hw⟩⟩⟩, ?_⟩
        simp only [Act.put, List.setIfInBounds_toArray, List.set_cons_succ, List.set_cons_zero]
        refine ⟨.int .i64 N, .inl ⟨by decide, fun s _ => .inl ⟨by rfl, fun W' hw => .inl ⟨W', by have c1 := hw.c1; clear hw; go_simp, hw⟩⟩⟩, ?_⟩
        simp only [Act.put, List.setIfInBounds_toArray, List.set_cons_succ, List.set_cons_zero]
        refine ⟨.int .i64 (pushR rs N), .inr ⟨1, rfl, .inl ⟨by rfl, fun W' hw => .inr (.inr ⟨19, #[.pointer (some ⟨q, 0, none⟩), .int .i64 N], W', by clear hw; go_simp, DS.x hw (xpush_any N _ _ _ _ _ hw.2.1 G.out.1)⟩)⟩⟩, ?_⟩
        simp only [Act.put, List.setIfInBounds_toArray, List.set_cons_succ, List.set_cons_zero]
        refine ⟨.bool true, .inl ⟨by decide, fun s _ => .inl ⟨by rfl, fun W' hw => .inl ⟨W', by clear hw; go_simp, hw⟩⟩⟩, ?_⟩
        simp only [Act.put, List.setIfInBounds_toArray, List.set_cons_succ, List.set_cons_zero]
        refine ⟨.bool true, .inl ⟨by decide, fun s _ => .inl ⟨by rfl, fun W' hw => .inl ⟨W', by clear hw; go_simp, hw⟩⟩⟩, ?_⟩
        simp only [Act.put, List.setIfInBounds_toArray, List.set_cons_succ, List.set_cons_zero]
        simp only [StepAll]
        intro W4 ds
        replace ds : DS w w.heap.size q wr.heap.size _ N (pushS rs N) (out) (pushS rs N) (out) W4 := ds
        clear ds0
        go_wp2_with fail
        refine wp_region_held (fun W' => Below W4.heap.size W4 W') (by kernel_rfl) (by kernel_rfl) (Below.refl _ W4).drew ?_
        refine ⟨.bool true, .inl ⟨by rfl, fun W' hb' => .inl ⟨W', by clear hb'; go_simp, hb'⟩⟩, ?_⟩
        simp only [Act.put, List.setIfInBounds_toArray, List.set_cons_succ, List.set_cons_zero]
        refine ⟨.bool false, .inl ⟨by rfl, fun W' hb' => .inl ⟨W', by clear hb'; go_simp, hb'⟩⟩, ?_⟩
        simp only [Act.put, List.setIfInBounds_toArray, List.set_cons_succ, List.set_cons_zero]
        refine ⟨.bool false, .inl ⟨by rfl, fun W' hb' => .inl ⟨W', by clear hb'; go_simp, hb'⟩⟩, ?_⟩
        simp only [Act.put, List.setIfInBounds_toArray, List.set_cons_succ, List.set_cons_zero]
        refine ⟨.pointer (some ⟨w.heap.size, 0, none⟩), .inl ⟨by rfl, fun W' hb' => .inl ⟨W', by clear hb'; go_simp, hb'⟩⟩, ?_⟩
        simp only [Act.put, List.setIfInBounds_toArray, List.set_cons_succ, List.set_cons_zero]
        refine ⟨.pointer (some ⟨q, 0, none⟩), .inl ⟨by rfl, fun W' hb' => .inl ⟨W', by clear hb'; go_simp, hb'⟩⟩, ?_⟩
        simp only [Act.put, List.setIfInBounds_toArray, List.set_cons_succ, List.set_cons_zero]
        refine ⟨.bool true, .inl ⟨by rfl, fun W' hb' => .inr (.inr ⟨24, #[.pointer (some ⟨w.heap.size, 0, none⟩), .pointer (some ⟨q, 0, none⟩)], W', by clear hb'; go_simp, (looks_any _ _ _ _ _ W' (ds.below hb').1 (ds.below hb').2.1 G1.out.1 G1.out.inj).mono (by rintro e W5 ⟨rfl, hb5⟩; exact ⟨rfl, hb'.trans (hb5.mono hb'.size)⟩)⟩)⟩, ?_⟩
        simp only [Act.put, List.setIfInBounds_toArray, List.set_cons_succ, List.set_cons_zero]
        refine ⟨.bool false, .inl ⟨by rfl, fun W' hb' => .inl ⟨W', by clear hb'; go_simp, hb'⟩⟩, ?_⟩
        simp only [Act.put, List.setIfInBounds_toArray, List.set_cons_succ, List.set_cons_zero]
        refine ⟨.bool false, .inl ⟨by rfl, fun W' hb' => .inl ⟨W', by clear hb'; go_simp, hb'⟩⟩, ?_⟩
        simp only [Act.put, List.setIfInBounds_toArray, List.set_cons_succ, List.set_cons_zero]
        refine ⟨.bool false, .inl ⟨by rfl, fun W' hb' => .inl ⟨W', by clear hb'; go_simp, hb'⟩⟩, ?_⟩
        simp only [Act.put, List.setIfInBounds_toArray, List.set_cons_succ, List.set_cons_zero]
        refine ⟨.pointer (some ⟨w.heap.size, 0, none⟩), .inl ⟨by rfl, fun W' hb' => .inl ⟨W', by clear hb'; go_simp, hb'⟩⟩, ?_⟩
        simp only [Act.put, List.setIfInBounds_toArray, List.set_cons_succ, List.set_cons_zero]
        refine ⟨.pointer (some ⟨wr.heap.size, 1, none⟩), .inl ⟨by rfl, fun W' hb' => .inl ⟨W', by clear hb'; go_simp, hb'⟩⟩, ?_⟩
        simp only [Act.put, List.setIfInBounds_toArray, List.set_cons_succ, List.set_cons_zero]
        refine ⟨.int .i64 N, .inl ⟨by rfl, fun W' hb' => .inl ⟨W', by have c1 := (ds.below hb').c1; clear hb'; go_simp, hb'⟩⟩, ?_⟩
        simp only [Act.put, List.setIfInBounds_toArray, List.set_cons_succ, List.set_cons_zero]
        refine ⟨.int .i64 (idx (fun r => r.1 == N) (pushS rs N)), .inl ⟨by rfl, fun W' hb' => .inr (.inr ⟨15, #[.pointer (some ⟨w.heap.size, 0, none⟩), .int .i64 N], W', by clear hb'; go_simp, (place_any N _ _ _ _ W' (ds.below hb').1 G1.out.1).mono (by rintro e W5 ⟨rfl, hb5⟩; exact ⟨rfl, hb'.trans (hb5.mono hb'.size)⟩)⟩)⟩, ?_⟩
        simp only [Act.put, List.setIfInBounds_toArray, List.set_cons_succ, List.set_cons_zero]
        refine ⟨.pointer (some ⟨q, 0, none⟩), .inl ⟨by rfl, fun W' hb' => .inl ⟨W', by clear hb'; go_simp, hb'⟩⟩, ?_⟩
        simp only [Act.put, List.setIfInBounds_toArray, List.set_cons_succ, List.set_cons_zero]
        refine ⟨.pointer (some ⟨wr.heap.size, 1, none⟩), .inl ⟨by rfl, fun W' hb' => .inl ⟨W', by clear hb'; go_simp, hb'⟩⟩, ?_⟩
        simp only [Act.put, List.setIfInBounds_toArray, List.set_cons_succ, List.set_cons_zero]
        refine ⟨.int .i64 N, .inl ⟨by rfl, fun W' hb' => .inl ⟨W', by have c1 := (ds.below hb').c1; clear hb'; go_simp, hb'⟩⟩, ?_⟩
        simp only [Act.put, List.setIfInBounds_toArray, List.set_cons_succ, List.set_cons_zero]
        refine ⟨.int .i64 (idx (fun r => r.1 == N) (pushS rs N)), .inl ⟨by rfl, fun W' hb' => .inr (.inr ⟨25, #[.pointer (some ⟨q, 0, none⟩), .int .i64 N], W', by clear hb'; go_simp, (xplace N _ _ _ _ W' (ds.below hb').2.1 G1.out.1).mono (by rintro e W5 ⟨rfl, hb5⟩; exact ⟨rfl, hb'.trans (hb5.mono hb'.size)⟩)⟩)⟩, ?_⟩
        simp only [Act.put, List.setIfInBounds_toArray, List.set_cons_succ, List.set_cons_zero]
        refine ⟨.bool false, .inl ⟨by rfl, fun W' hb' => .inl ⟨W', by clear hb'; go_simp, hb'⟩⟩, ?_⟩
        simp only [Act.put, List.setIfInBounds_toArray, List.set_cons_succ, List.set_cons_zero]
        refine ⟨.bool false, .inl ⟨by rfl, fun W' hb' => .inl ⟨W', by clear hb'; go_simp, hb'⟩⟩, ?_⟩
        simp only [Act.put, List.setIfInBounds_toArray, List.set_cons_succ, List.set_cons_zero]
        simp only [HeldAll]
        intro W5 hb5
        have d5 := ds.below hb5
        clear ds hb5
        obtain ⟨i5, x5, b5, t5⟩ := d5
        clear t5
        go_wp2
        go_roundw
        case rel => exact ⟨⟨k + 1, _, _, by go_num, G1.out, i5, x5, b5⟩, by simp [intOf]; omega⟩
        case measure => simp [intOf]; omega
      · have k1 : (K == 1) = false := by simpa using e1
        by_cases e2 : K = 2
        · subst e2
          go_wp2_with fail
          have G1 := Lib.hid (G.out.drop N)
          refine wp_region_step (DT w w.heap.size q wr.heap.size _ N rs out (dropS rs N) (dropO rs out N)) [3, 7] (by kernel_rfl) (by kernel_rfl) (by kernel_rfl) (ds0.below (Below.refl _ _).drew) ?_
          refine ⟨.pointer (some ⟨w.heap.size, 0, none⟩), .inl ⟨by decide, fun s _ => .inl ⟨by rfl, fun W' hw => .inl ⟨W', by clear hw; go_simp, hw⟩⟩⟩, ?_⟩
          simp only [Act.put, List.setIfInBounds_toArray, List.set_cons_succ, List.set_cons_zero]
          refine ⟨.pointer (some ⟨wr.heap.size, 1, none⟩), .inl ⟨by decide, fun s _ => .inl ⟨by rfl, fun W' hw => .inl ⟨W', by clear hw; go_simp, hw⟩⟩⟩, ?_⟩
          simp only [Act.put, List.setIfInBounds_toArray, List.set_cons_succ, List.set_cons_zero]
          refine ⟨.int .i64 N, .inl ⟨by decide, fun s _ => .inl ⟨by rfl, fun W' hw => .inl ⟨W', by have c1 := hw.c1; clear hw; go_simp, hw⟩⟩⟩, ?_⟩
          simp only [Act.put, List.setIfInBounds_toArray, List.set_cons_succ, List.set_cons_zero]
          refine ⟨.bool (dropB rs N), .inr ⟨0, rfl, .inl ⟨by rfl, fun W' hw => .inr (.inr ⟨18, #[.pointer (some ⟨w.heap.size, 0, none⟩), .int .i64 N], W', by clear hw; go_simp, DS.b hw (drop_any N _ _ _ _ _ hw.1 G.out.1)⟩)⟩⟩, ?_⟩
          simp only [Act.put, List.setIfInBounds_toArray, List.set_cons_succ, List.set_cons_zero]
          refine ⟨.pointer (some ⟨q, 0, none⟩), .inl ⟨by decide, fun s _ => .inl ⟨by rfl, fun W' hw => .inl ⟨W', by clear hw; go_simp, hw⟩⟩⟩, ?_⟩
          simp only [Act.put, List.setIfInBounds_toArray, List.set_cons_succ, List.set_cons_zero]
          refine ⟨.pointer (some ⟨wr.heap.size, 1, none⟩), .inl ⟨by decide, fun s _ => .inl ⟨by rfl, fun W' hw => .inl ⟨W', by clear hw; go_simp, hw⟩⟩⟩, ?_⟩
          simp only [Act.put, List.setIfInBounds_toArray, List.set_cons_succ, List.set_cons_zero]
          refine ⟨.int .i64 N, .inl ⟨by decide, fun s _ => .inl ⟨by rfl, fun W' hw => .inl ⟨W', by have c1 := hw.c1; clear hw; go_simp, hw⟩⟩⟩, ?_⟩
          simp only [Act.put, List.setIfInBounds_toArray, List.set_cons_succ, List.set_cons_zero]
          refine ⟨.bool (dropB rs N), .inr ⟨1, rfl, .inl ⟨by rfl, fun W' hw => .inr (.inr ⟨20, #[.pointer (some ⟨q, 0, none⟩), .int .i64 N], W', by clear hw; go_simp, DS.x hw (xdrop_any N _ _ _ _ _ hw.2.1 G.out.1)⟩)⟩⟩, ?_⟩
          simp only [Act.put, List.setIfInBounds_toArray, List.set_cons_succ, List.set_cons_zero]
          refine ⟨.bool true, .inl ⟨by decide, fun s _ => .inl ⟨by rfl, fun W' hw => .inl ⟨W', by clear hw; go_simp, hw⟩⟩⟩, ?_⟩
          simp only [Act.put, List.setIfInBounds_toArray, List.set_cons_succ, List.set_cons_zero]
          refine ⟨.bool true, .inl ⟨by decide, fun s _ => .inl ⟨by rfl, fun W' hw => .inl ⟨W', by clear hw; go_simp, hw⟩⟩⟩, ?_⟩
          simp only [Act.put, List.setIfInBounds_toArray, List.set_cons_succ, List.set_cons_zero]
          simp only [StepAll]
          intro W4 ds
          replace ds : DS w w.heap.size q wr.heap.size _ N (dropS rs N) (dropO rs out N) (dropS rs N) (dropO rs out N) W4 := ds
          clear ds0
          go_wp2_with fail
          refine wp_region_held (fun W' => Below W4.heap.size W4 W') (by kernel_rfl) (by kernel_rfl) (Below.refl _ W4).drew ?_
          refine ⟨.bool true, .inl ⟨by rfl, fun W' hb' => .inl ⟨W', by clear hb'; go_simp, hb'⟩⟩, ?_⟩
          simp only [Act.put, List.setIfInBounds_toArray, List.set_cons_succ, List.set_cons_zero]
          refine ⟨.bool false, .inl ⟨by rfl, fun W' hb' => .inl ⟨W', by clear hb'; go_simp, hb'⟩⟩, ?_⟩
          simp only [Act.put, List.setIfInBounds_toArray, List.set_cons_succ, List.set_cons_zero]
          refine ⟨.bool false, .inl ⟨by rfl, fun W' hb' => .inl ⟨W', by clear hb'; go_simp, hb'⟩⟩, ?_⟩
          simp only [Act.put, List.setIfInBounds_toArray, List.set_cons_succ, List.set_cons_zero]
          refine ⟨.pointer (some ⟨w.heap.size, 0, none⟩), .inl ⟨by rfl, fun W' hb' => .inl ⟨W', by clear hb'; go_simp, hb'⟩⟩, ?_⟩
          simp only [Act.put, List.setIfInBounds_toArray, List.set_cons_succ, List.set_cons_zero]
          refine ⟨.pointer (some ⟨q, 0, none⟩), .inl ⟨by rfl, fun W' hb' => .inl ⟨W', by clear hb'; go_simp, hb'⟩⟩, ?_⟩
          simp only [Act.put, List.setIfInBounds_toArray, List.set_cons_succ, List.set_cons_zero]
          refine ⟨.bool true, .inl ⟨by rfl, fun W' hb' => .inr (.inr ⟨24, #[.pointer (some ⟨w.heap.size, 0, none⟩), .pointer (some ⟨q, 0, none⟩)], W', by clear hb'; go_simp, (looks_any _ _ _ _ _ W' (ds.below hb').1 (ds.below hb').2.1 G1.out.1 G1.out.inj).mono (by rintro e W5 ⟨rfl, hb5⟩; exact ⟨rfl, hb'.trans (hb5.mono hb'.size)⟩)⟩)⟩, ?_⟩
          simp only [Act.put, List.setIfInBounds_toArray, List.set_cons_succ, List.set_cons_zero]
          refine ⟨.bool false, .inl ⟨by rfl, fun W' hb' => .inl ⟨W', by clear hb'; go_simp, hb'⟩⟩, ?_⟩
          simp only [Act.put, List.setIfInBounds_toArray, List.set_cons_succ, List.set_cons_zero]
          refine ⟨.bool false, .inl ⟨by rfl, fun W' hb' => .inl ⟨W', by clear hb'; go_simp, hb'⟩⟩, ?_⟩
          simp only [Act.put, List.setIfInBounds_toArray, List.set_cons_succ, List.set_cons_zero]
          refine ⟨.bool false, .inl ⟨by rfl, fun W' hb' => .inl ⟨W', by clear hb'; go_simp, hb'⟩⟩, ?_⟩
          simp only [Act.put, List.setIfInBounds_toArray, List.set_cons_succ, List.set_cons_zero]
          refine ⟨.pointer (some ⟨w.heap.size, 0, none⟩), .inl ⟨by rfl, fun W' hb' => .inl ⟨W', by clear hb'; go_simp, hb'⟩⟩, ?_⟩
          simp only [Act.put, List.setIfInBounds_toArray, List.set_cons_succ, List.set_cons_zero]
          refine ⟨.pointer (some ⟨wr.heap.size, 1, none⟩), .inl ⟨by rfl, fun W' hb' => .inl ⟨W', by clear hb'; go_simp, hb'⟩⟩, ?_⟩
          simp only [Act.put, List.setIfInBounds_toArray, List.set_cons_succ, List.set_cons_zero]
          refine ⟨.int .i64 N, .inl ⟨by rfl, fun W' hb' => .inl ⟨W', by have c1 := (ds.below hb').c1; clear hb'; go_simp, hb'⟩⟩, ?_⟩
          simp only [Act.put, List.setIfInBounds_toArray, List.set_cons_succ, List.set_cons_zero]
          refine ⟨.int .i64 (idx (fun r => r.1 == N) (dropS rs N)), .inl ⟨by rfl, fun W' hb' => .inr (.inr ⟨15, #[.pointer (some ⟨w.heap.size, 0, none⟩), .int .i64 N], W', by clear hb'; go_simp, (place_any N _ _ _ _ W' (ds.below hb').1 G1.out.1).mono (by rintro e W5 ⟨rfl, hb5⟩; exact ⟨rfl, hb'.trans (hb5.mono hb'.size)⟩)⟩)⟩, ?_⟩
          simp only [Act.put, List.setIfInBounds_toArray, List.set_cons_succ, List.set_cons_zero]
          refine ⟨.pointer (some ⟨q, 0, none⟩), .inl ⟨by rfl, fun W' hb' => .inl ⟨W', by clear hb'; go_simp, hb'⟩⟩, ?_⟩
          simp only [Act.put, List.setIfInBounds_toArray, List.set_cons_succ, List.set_cons_zero]
          refine ⟨.pointer (some ⟨wr.heap.size, 1, none⟩), .inl ⟨by rfl, fun W' hb' => .inl ⟨W', by clear hb'; go_simp, hb'⟩⟩, ?_⟩
          simp only [Act.put, List.setIfInBounds_toArray, List.set_cons_succ, List.set_cons_zero]
          refine ⟨.int .i64 N, .inl ⟨by rfl, fun W' hb' => .inl ⟨W', by have c1 := (ds.below hb').c1; clear hb'; go_simp, hb'⟩⟩, ?_⟩
          simp only [Act.put, List.setIfInBounds_toArray, List.set_cons_succ, List.set_cons_zero]
          refine ⟨.int .i64 (idx (fun r => r.1 == N) (dropS rs N)), .inl ⟨by rfl, fun W' hb' => .inr (.inr ⟨25, #[.pointer (some ⟨q, 0, none⟩), .int .i64 N], W', by clear hb'; go_simp, (xplace N _ _ _ _ W' (ds.below hb').2.1 G1.out.1).mono (by rintro e W5 ⟨rfl, hb5⟩; exact ⟨rfl, hb'.trans (hb5.mono hb'.size)⟩)⟩)⟩, ?_⟩
          simp only [Act.put, List.setIfInBounds_toArray, List.set_cons_succ, List.set_cons_zero]
          refine ⟨.bool false, .inl ⟨by rfl, fun W' hb' => .inl ⟨W', by clear hb'; go_simp, hb'⟩⟩, ?_⟩
          simp only [Act.put, List.setIfInBounds_toArray, List.set_cons_succ, List.set_cons_zero]
          refine ⟨.bool false, .inl ⟨by rfl, fun W' hb' => .inl ⟨W', by clear hb'; go_simp, hb'⟩⟩, ?_⟩
          simp only [Act.put, List.setIfInBounds_toArray, List.set_cons_succ, List.set_cons_zero]
          simp only [HeldAll]
          intro W5 hb5
          have d5 := ds.below hb5
          clear ds hb5
          obtain ⟨i5, x5, b5, t5⟩ := d5
          clear t5
          go_wp2
          go_roundw
          case rel => exact ⟨⟨k + 1, _, _, by go_num, G1.out, i5, x5, b5⟩, by simp [intOf]; omega⟩
          case measure => simp [intOf]; omega
        · have k2 : (K == 2) = false := by simpa using e2
          by_cases e3 : K = 3
          · subst e3
            go_wp2_with fail
            refine (DS.b ds0 (news_any _ _ _ _ _ ds0.1)).mono ?_
            rintro e W3 ⟨rfl, ds3⟩
            clear ds0
            go_wp2_with fail
            refine (DS.x ds3 (xnews _ _ _ _ _ ds3.2.1 G.out.1)).mono ?_
            rintro e W4 ⟨rfl, ds⟩
            clear ds3
            have G1 := Lib.hid (G.out.news out)
            go_wp2_with fail
            refine wp_region_held (fun W' => Below W4.heap.size W4 W') (by kernel_rfl) (by kernel_rfl) (Below.refl _ W4).drew ?_
            refine ⟨.bool true, .inl ⟨by rfl, fun W' hb' => .inl ⟨W', by clear hb'; go_simp, hb'⟩⟩, ?_⟩
            simp only [Act.put, List.setIfInBounds_toArray, List.set_cons_succ, List.set_cons_zero]
            refine ⟨.bool false, .inl ⟨by rfl, fun W' hb' => .inl ⟨W', by clear hb'; go_simp, hb'⟩⟩, ?_⟩
            simp only [Act.put, List.setIfInBounds_toArray, List.set_cons_succ, List.set_cons_zero]
            refine ⟨.bool false, .inl ⟨by rfl, fun W' hb' => .inl ⟨W', by clear hb'; go_simp, hb'⟩⟩, ?_⟩
            simp only [Act.put, List.setIfInBounds_toArray, List.set_cons_succ, List.set_cons_zero]
            refine ⟨.pointer (some ⟨w.heap.size, 0, none⟩), .inl ⟨by rfl, fun W' hb' => .inl ⟨W', by clear hb'; go_simp, hb'⟩⟩, ?_⟩
            simp only [Act.put, List.setIfInBounds_toArray, List.set_cons_succ, List.set_cons_zero]
            refine ⟨.pointer (some ⟨q, 0, none⟩), .inl ⟨by rfl, fun W' hb' => .inl ⟨W', by clear hb'; go_simp, hb'⟩⟩, ?_⟩
            simp only [Act.put, List.setIfInBounds_toArray, List.set_cons_succ, List.set_cons_zero]
            refine ⟨.bool true, .inl ⟨by rfl, fun W' hb' => .inr (.inr ⟨24, #[.pointer (some ⟨w.heap.size, 0, none⟩), .pointer (some ⟨q, 0, none⟩)], W', by clear hb'; go_simp, (looks_any _ _ _ _ _ W' (ds.below hb').1 (ds.below hb').2.1 G1.out.1 G1.out.inj).mono (by rintro e W5 ⟨rfl, hb5⟩; exact ⟨rfl, hb'.trans (hb5.mono hb'.size)⟩)⟩)⟩, ?_⟩
            simp only [Act.put, List.setIfInBounds_toArray, List.set_cons_succ, List.set_cons_zero]
            refine ⟨.bool false, .inl ⟨by rfl, fun W' hb' => .inl ⟨W', by clear hb'; go_simp, hb'⟩⟩, ?_⟩
            simp only [Act.put, List.setIfInBounds_toArray, List.set_cons_succ, List.set_cons_zero]
            refine ⟨.bool false, .inl ⟨by rfl, fun W' hb' => .inl ⟨W', by clear hb'; go_simp, hb'⟩⟩, ?_⟩
            simp only [Act.put, List.setIfInBounds_toArray, List.set_cons_succ, List.set_cons_zero]
            refine ⟨.bool false, .inl ⟨by rfl, fun W' hb' => .inl ⟨W', by clear hb'; go_simp, hb'⟩⟩, ?_⟩
            simp only [Act.put, List.setIfInBounds_toArray, List.set_cons_succ, List.set_cons_zero]
            refine ⟨.pointer (some ⟨w.heap.size, 0, none⟩), .inl ⟨by rfl, fun W' hb' => .inl ⟨W', by clear hb'; go_simp, hb'⟩⟩, ?_⟩
            simp only [Act.put, List.setIfInBounds_toArray, List.set_cons_succ, List.set_cons_zero]
            refine ⟨.pointer (some ⟨wr.heap.size, 1, none⟩), .inl ⟨by rfl, fun W' hb' => .inl ⟨W', by clear hb'; go_simp, hb'⟩⟩, ?_⟩
            simp only [Act.put, List.setIfInBounds_toArray, List.set_cons_succ, List.set_cons_zero]
            refine ⟨.int .i64 N, .inl ⟨by rfl, fun W' hb' => .inl ⟨W', by have c1 := (ds.below hb').c1; clear hb'; go_simp, hb'⟩⟩, ?_⟩
            simp only [Act.put, List.setIfInBounds_toArray, List.set_cons_succ, List.set_cons_zero]
            refine ⟨.int .i64 (idx (fun r => r.1 == N) (rs.map (newsRow out))), .inl ⟨by rfl, fun W' hb' => .inr (.inr ⟨15, #[.pointer (some ⟨w.heap.size, 0, none⟩), .int .i64 N], W', by clear hb'; go_simp, (place_any N _ _ _ _ W' (ds.below hb').1 G1.out.1).mono (by rintro e W5 ⟨rfl, hb5⟩; exact ⟨rfl, hb'.trans (hb5.mono hb'.size)⟩)⟩)⟩, ?_⟩
            simp only [Act.put, List.setIfInBounds_toArray, List.set_cons_succ, List.set_cons_zero]
            refine ⟨.pointer (some ⟨q, 0, none⟩), .inl ⟨by rfl, fun W' hb' => .inl ⟨W', by clear hb'; go_simp, hb'⟩⟩, ?_⟩
            simp only [Act.put, List.setIfInBounds_toArray, List.set_cons_succ, List.set_cons_zero]
            refine ⟨.pointer (some ⟨wr.heap.size, 1, none⟩), .inl ⟨by rfl, fun W' hb' => .inl ⟨W', by clear hb'; go_simp, hb'⟩⟩, ?_⟩
            simp only [Act.put, List.setIfInBounds_toArray, List.set_cons_succ, List.set_cons_zero]
            refine ⟨.int .i64 N, .inl ⟨by rfl, fun W' hb' => .inl ⟨W', by have c1 := (ds.below hb').c1; clear hb'; go_simp, hb'⟩⟩, ?_⟩
            simp only [Act.put, List.setIfInBounds_toArray, List.set_cons_succ, List.set_cons_zero]
            refine ⟨.int .i64 (idx (fun r => r.1 == N) (rs.map (newsRow out))), .inl ⟨by rfl, fun W' hb' => .inr (.inr ⟨25, #[.pointer (some ⟨q, 0, none⟩), .int .i64 N], W', by clear hb'; go_simp, (xplace N _ _ _ _ W' (ds.below hb').2.1 G1.out.1).mono (by rintro e W5 ⟨rfl, hb5⟩; exact ⟨rfl, hb'.trans (hb5.mono hb'.size)⟩)⟩)⟩, ?_⟩
            simp only [Act.put, List.setIfInBounds_toArray, List.set_cons_succ, List.set_cons_zero]
            refine ⟨.bool false, .inl ⟨by rfl, fun W' hb' => .inl ⟨W', by clear hb'; go_simp, hb'⟩⟩, ?_⟩
            simp only [Act.put, List.setIfInBounds_toArray, List.set_cons_succ, List.set_cons_zero]
            refine ⟨.bool false, .inl ⟨by rfl, fun W' hb' => .inl ⟨W', by clear hb'; go_simp, hb'⟩⟩, ?_⟩
            simp only [Act.put, List.setIfInBounds_toArray, List.set_cons_succ, List.set_cons_zero]
            simp only [HeldAll]
            intro W5 hb5
            have d5 := ds.below hb5
            clear ds hb5
            obtain ⟨i5, x5, b5, t5⟩ := d5
            clear t5
            go_wp2
            go_roundw
            case rel => exact ⟨⟨k + 1, _, _, by go_num, G1.out, i5, x5, b5⟩, by simp [intOf]; omega⟩
            case measure => simp [intOf]; omega
          · have k3 : (K == 3) = false := by simpa using e3
            by_cases e4 : K = 4
            · subst e4
              go_wp2_with fail
              refine (DS.b ds0 (try_any _ _ _ _ _ ds0.1)).mono ?_
              rintro e W3 ⟨rfl, ds3⟩
              clear ds0
              go_wp2_with fail
              refine (DS.x ds3 (xtry_any _ _ _ _ _ ds3.2.1 G.out.1)).mono ?_
              rintro e W4 ⟨rfl, ds⟩
              clear ds3
              have G1 := Lib.hid (G.out.try out)
              go_wp2_with fail
              refine wp_region_held (fun W' => Below W4.heap.size W4 W') (by kernel_rfl) (by kernel_rfl) (Below.refl _ W4).drew ?_
              refine ⟨.bool true, .inl ⟨by rfl, fun W' hb' => .inl ⟨W', by clear hb'; go_simp, hb'⟩⟩, ?_⟩
              simp only [Act.put, List.setIfInBounds_toArray, List.set_cons_succ, List.set_cons_zero]
              refine ⟨.bool false, .inl ⟨by rfl, fun W' hb' => .inl ⟨W', by clear hb'; go_simp, hb'⟩⟩, ?_⟩
              simp only [Act.put, List.setIfInBounds_toArray, List.set_cons_succ, List.set_cons_zero]
              refine ⟨.bool false, .inl ⟨by rfl, fun W' hb' => .inl ⟨W', by clear hb'; go_simp, hb'⟩⟩, ?_⟩
              simp only [Act.put, List.setIfInBounds_toArray, List.set_cons_succ, List.set_cons_zero]
              refine ⟨.pointer (some ⟨w.heap.size, 0, none⟩), .inl ⟨by rfl, fun W' hb' => .inl ⟨W', by clear hb'; go_simp, hb'⟩⟩, ?_⟩
              simp only [Act.put, List.setIfInBounds_toArray, List.set_cons_succ, List.set_cons_zero]
              refine ⟨.pointer (some ⟨q, 0, none⟩), .inl ⟨by rfl, fun W' hb' => .inl ⟨W', by clear hb'; go_simp, hb'⟩⟩, ?_⟩
              simp only [Act.put, List.setIfInBounds_toArray, List.set_cons_succ, List.set_cons_zero]
              refine ⟨.bool true, .inl ⟨by rfl, fun W' hb' => .inr (.inr ⟨24, #[.pointer (some ⟨w.heap.size, 0, none⟩), .pointer (some ⟨q, 0, none⟩)], W', by clear hb'; go_simp, (looks_any _ _ _ _ _ W' (ds.below hb').1 (ds.below hb').2.1 G1.out.1 G1.out.inj).mono (by rintro e W5 ⟨rfl, hb5⟩; exact ⟨rfl, hb'.trans (hb5.mono hb'.size)⟩)⟩)⟩, ?_⟩
              simp only [Act.put, List.setIfInBounds_toArray, List.set_cons_succ, List.set_cons_zero]
              refine ⟨.bool false, .inl ⟨by rfl, fun W' hb' => .inl ⟨W', by clear hb'; go_simp, hb'⟩⟩, ?_⟩
              simp only [Act.put, List.setIfInBounds_toArray, List.set_cons_succ, List.set_cons_zero]
              refine ⟨.bool false, .inl ⟨by rfl, fun W' hb' => .inl ⟨W', by clear hb'; go_simp, hb'⟩⟩, ?_⟩
              simp only [Act.put, List.setIfInBounds_toArray, List.set_cons_succ, List.set_cons_zero]
              refine ⟨.bool false, .inl ⟨by rfl, fun W' hb' => .inl ⟨W', by clear hb'; go_simp, hb'⟩⟩, ?_⟩
              simp only [Act.put, List.setIfInBounds_toArray, List.set_cons_succ, List.set_cons_zero]
              refine ⟨.pointer (some ⟨w.heap.size, 0, none⟩), .inl ⟨by rfl, fun W' hb' => .inl ⟨W', by clear hb'; go_simp, hb'⟩⟩, ?_⟩
              simp only [Act.put, List.setIfInBounds_toArray, List.set_cons_succ, List.set_cons_zero]
              refine ⟨.pointer (some ⟨wr.heap.size, 1, none⟩), .inl ⟨by rfl, fun W' hb' => .inl ⟨W', by clear hb'; go_simp, hb'⟩⟩, ?_⟩
              simp only [Act.put, List.setIfInBounds_toArray, List.set_cons_succ, List.set_cons_zero]
              refine ⟨.int .i64 N, .inl ⟨by rfl, fun W' hb' => .inl ⟨W', by have c1 := (ds.below hb').c1; clear hb'; go_simp, hb'⟩⟩, ?_⟩
              simp only [Act.put, List.setIfInBounds_toArray, List.set_cons_succ, List.set_cons_zero]
              refine ⟨.int .i64 (idx (fun r => r.1 == N) (tryS rs out)), .inl ⟨by rfl, fun W' hb' => .inr (.inr ⟨15, #[.pointer (some ⟨w.heap.size, 0, none⟩), .int .i64 N], W', by clear hb'; go_simp, (place_any N _ _ _ _ W' (ds.below hb').1 G1.out.1).mono (by rintro e W5 ⟨rfl, hb5⟩; exact ⟨rfl, hb'.trans (hb5.mono hb'.size)⟩)⟩)⟩, ?_⟩
              simp only [Act.put, List.setIfInBounds_toArray, List.set_cons_succ, List.set_cons_zero]
              refine ⟨.pointer (some ⟨q, 0, none⟩), .inl ⟨by rfl, fun W' hb' => .inl ⟨W', by clear hb'; go_simp, hb'⟩⟩, ?_⟩
              simp only [Act.put, List.setIfInBounds_toArray, List.set_cons_succ, List.set_cons_zero]
              refine ⟨.pointer (some ⟨wr.heap.size, 1, none⟩), .inl ⟨by rfl, fun W' hb' => .inl ⟨W', by clear hb'; go_simp, hb'⟩⟩, ?_⟩
              simp only [Act.put, List.setIfInBounds_toArray, List.set_cons_succ, List.set_cons_zero]
              refine ⟨.int .i64 N, .inl ⟨by rfl, fun W' hb' => .inl ⟨W', by have c1 := (ds.below hb').c1; clear hb'; go_simp, hb'⟩⟩, ?_⟩
              simp only [Act.put, List.setIfInBounds_toArray, List.set_cons_succ, List.set_cons_zero]
              refine ⟨.int .i64 (idx (fun r => r.1 == N) (tryS rs out)), .inl ⟨by rfl, fun W' hb' => .inr (.inr ⟨25, #[.pointer (some ⟨q, 0, none⟩), .int .i64 N], W', by clear hb'; go_simp, (xplace N _ _ _ _ W' (ds.below hb').2.1 G1.out.1).mono (by rintro e W5 ⟨rfl, hb5⟩; exact ⟨rfl, hb'.trans (hb5.mono hb'.size)⟩)⟩)⟩, ?_⟩
              simp only [Act.put, List.setIfInBounds_toArray, List.set_cons_succ, List.set_cons_zero]
              refine ⟨.bool false, .inl ⟨by rfl, fun W' hb' => .inl ⟨W', by clear hb'; go_simp, hb'⟩⟩, ?_⟩
              simp only [Act.put, List.setIfInBounds_toArray, List.set_cons_succ, List.set_cons_zero]
              refine ⟨.bool false, .inl ⟨by rfl, fun W' hb' => .inl ⟨W', by clear hb'; go_simp, hb'⟩⟩, ?_⟩
              simp only [Act.put, List.setIfInBounds_toArray, List.set_cons_succ, List.set_cons_zero]
              simp only [HeldAll]
              intro W5 hb5
              have d5 := ds.below hb5
              clear ds hb5
              obtain ⟨i5, x5, b5, t5⟩ := d5
              clear t5
              go_wp2
              go_roundw
              case rel => exact ⟨⟨k + 1, _, _, by go_num, G1.out, i5, x5, b5⟩, by simp [intOf]; omega⟩
              case measure => simp [intOf]; omega
            · have k4 : (K == 4) = false := by simpa using e4
              by_cases e5 : K = 5
              · subst e5
                go_wp2_with fail
                have G1 := Lib.hid (G.out)
                refine wp_region_step (DT w w.heap.size q wr.heap.size _ N rs out (rs) (backO out N)) [3, 7] (by kernel_rfl) (by kernel_rfl) (by kernel_rfl) (ds0.below (Below.refl _ _).drew) ?_
                refine ⟨.pointer (some ⟨w.heap.size, 0, none⟩), .inl ⟨by decide, fun s _ => .inl ⟨by rfl, fun W' hw => .inl ⟨W', by clear hw; go_simp, hw⟩⟩⟩, ?_⟩
                simp only [Act.put, List.setIfInBounds_toArray, List.set_cons_succ, List.set_cons_zero]
                refine ⟨.pointer (some ⟨wr.heap.size, 1, none⟩), .inl ⟨by decide, fun s _ => .inl ⟨by rfl, fun W' hw => .inl ⟨W', by clear hw; go_simp, hw⟩⟩⟩, ?_⟩
                simp only [Act.put, List.setIfInBounds_toArray, List.set_cons_succ, List.set_cons_zero]
                refine ⟨.int .i64 N, .inl ⟨by decide, fun s _ => .inl ⟨by rfl, fun W' hw => .inl ⟨W', by have c1 := hw.c1; clear hw; go_simp, hw⟩⟩⟩, ?_⟩
                simp only [Act.put, List.setIfInBounds_toArray, List.set_cons_succ, List.set_cons_zero]
                refine ⟨.bool (backB out N), .inr ⟨0, rfl, .inl ⟨by rfl, fun W' hw => .inr (.inr ⟨16, #[.pointer (some ⟨w.heap.size, 0, none⟩), .int .i64 N], W', by clear hw; go_simp, DS.b hw (back_any N _ _ _ _ _ hw.1)⟩)⟩⟩, ?_⟩
                simp only [Act.put, List.setIfInBounds_toArray, List.set_cons_succ, List.set_cons_zero]
                refine ⟨.pointer (some ⟨q, 0, none⟩), .inl ⟨by decide, fun s _ => .inl ⟨by rfl, fun W' hw => .inl ⟨W', by clear hw; go_simp, hw⟩⟩⟩, ?_⟩
                simp only [Act.put, List.setIfInBounds_toArray, List.set_cons_succ, List.set_cons_zero]
                refine ⟨.pointer (some ⟨wr.heap.size, 1, none⟩), .inl ⟨by decide, fun s _ => .inl ⟨by rfl, fun W' hw => .inl ⟨W', by clear hw; go_simp, hw⟩⟩⟩, ?_⟩
                simp only [Act.put, List.setIfInBounds_toArray, List.set_cons_succ, List.set_cons_zero]
                refine ⟨.int .i64 N, .inl ⟨by decide, fun s _ => .inl ⟨by rfl, fun W' hw => .inl ⟨W', by have c1 := hw.c1; clear hw; go_simp, hw⟩⟩⟩, ?_⟩
                simp only [Act.put, List.setIfInBounds_toArray, List.set_cons_succ, List.set_cons_zero]
                refine ⟨.bool (backB out N), .inr ⟨1, rfl, .inl ⟨by rfl, fun W' hw => .inr (.inr ⟨23, #[.pointer (some ⟨q, 0, none⟩), .int .i64 N], W', by clear hw; go_simp, DS.x hw (xback_any N _ _ _ _ _ hw.2.1)⟩)⟩⟩, ?_⟩
                simp only [Act.put, List.setIfInBounds_toArray, List.set_cons_succ, List.set_cons_zero]
                refine ⟨.bool true, .inl ⟨by decide, fun s _ => .inl ⟨by rfl, fun W' hw => .inl ⟨W', by clear hw; go_simp, hw⟩⟩⟩, ?_⟩
                simp only [Act.put, List.setIfInBounds_toArray, List.set_cons_succ, List.set_cons_zero]
                refine ⟨.bool true, .inl ⟨by decide, fun s _ => .inl ⟨by rfl, fun W' hw => .inl ⟨W', by clear hw; go_simp, hw⟩⟩⟩, ?_⟩
                simp only [Act.put, List.setIfInBounds_toArray, List.set_cons_succ, List.set_cons_zero]
                simp only [StepAll]
                intro W4 ds
                replace ds : DS w w.heap.size q wr.heap.size _ N (rs) (backO out N) (rs) (backO out N) W4 := ds
                clear ds0
                go_wp2_with fail
                refine wp_region_held (fun W' => Below W4.heap.size W4 W') (by kernel_rfl) (by kernel_rfl) (Below.refl _ W4).drew ?_
                refine ⟨.bool true, .inl ⟨by rfl, fun W' hb' => .inl ⟨W', by clear hb'; go_simp, hb'⟩⟩, ?_⟩
                simp only [Act.put, List.setIfInBounds_toArray, List.set_cons_succ, List.set_cons_zero]
                refine ⟨.bool false, .inl ⟨by rfl, fun W' hb' => .inl ⟨W', by clear hb'; go_simp, hb'⟩⟩, ?_⟩
                simp only [Act.put, List.setIfInBounds_toArray, List.set_cons_succ, List.set_cons_zero]
                refine ⟨.bool false, .inl ⟨by rfl, fun W' hb' => .inl ⟨W', by clear hb'; go_simp, hb'⟩⟩, ?_⟩
                simp only [Act.put, List.setIfInBounds_toArray, List.set_cons_succ, List.set_cons_zero]
                refine ⟨.pointer (some ⟨w.heap.size, 0, none⟩), .inl ⟨by rfl, fun W' hb' => .inl ⟨W', by clear hb'; go_simp, hb'⟩⟩, ?_⟩
                simp only [Act.put, List.setIfInBounds_toArray, List.set_cons_succ, List.set_cons_zero]
                refine ⟨.pointer (some ⟨q, 0, none⟩), .inl ⟨by rfl, fun W' hb' => .inl ⟨W', by clear hb'; go_simp, hb'⟩⟩, ?_⟩
                simp only [Act.put, List.setIfInBounds_toArray, List.set_cons_succ, List.set_cons_zero]
                refine ⟨.bool true, .inl ⟨by rfl, fun W' hb' => .inr (.inr ⟨24, #[.pointer (some ⟨w.heap.size, 0, none⟩), .pointer (some ⟨q, 0, none⟩)], W', by clear hb'; go_simp, (looks_any _ _ _ _ _ W' (ds.below hb').1 (ds.below hb').2.1 G1.out.1 G1.out.inj).mono (by rintro e W5 ⟨rfl, hb5⟩; exact ⟨rfl, hb'.trans (hb5.mono hb'.size)⟩)⟩)⟩, ?_⟩
                simp only [Act.put, List.setIfInBounds_toArray, List.set_cons_succ, List.set_cons_zero]
                refine ⟨.bool false, .inl ⟨by rfl, fun W' hb' => .inl ⟨W', by clear hb'; go_simp, hb'⟩⟩, ?_⟩
                simp only [Act.put, List.setIfInBounds_toArray, List.set_cons_succ, List.set_cons_zero]
                refine ⟨.bool false, .inl ⟨by rfl, fun W' hb' => .inl ⟨W', by clear hb'; go_simp, hb'⟩⟩, ?_⟩
                simp only [Act.put, List.setIfInBounds_toArray, List.set_cons_succ, List.set_cons_zero]
                refine ⟨.bool false, .inl ⟨by rfl, fun W' hb' => .inl ⟨W', by clear hb'; go_simp, hb'⟩⟩, ?_⟩
                simp only [Act.put, List.setIfInBounds_toArray, List.set_cons_succ, List.set_cons_zero]
                refine ⟨.pointer (some ⟨w.heap.size, 0, none⟩), .inl ⟨by rfl, fun W' hb' => .inl ⟨W', by clear hb'; go_simp, hb'⟩⟩, ?_⟩
                simp only [Act.put, List.setIfInBounds_toArray, List.set_cons_succ, List.set_cons_zero]
                refine ⟨.pointer (some ⟨wr.heap.size, 1, none⟩), .inl ⟨by rfl, fun W' hb' => .inl ⟨W', by clear hb'; go_simp, hb'⟩⟩, ?_⟩
                simp only [Act.put, List.setIfInBounds_toArray, List.set_cons_succ, List.set_cons_zero]
                refine ⟨.int .i64 N, .inl ⟨by rfl, fun W' hb' => .inl ⟨W', by have c1 := (ds.below hb').c1; clear hb'; go_simp, hb'⟩⟩, ?_⟩
                simp only [Act.put, List.setIfInBounds_toArray, List.set_cons_succ, List.set_cons_zero]
                refine ⟨.int .i64 (idx (fun r => r.1 == N) (rs)), .inl ⟨by rfl, fun W' hb' => .inr (.inr ⟨15, #[.pointer (some ⟨w.heap.size, 0, none⟩), .int .i64 N], W', by clear hb'; go_simp, (place_any N _ _ _ _ W' (ds.below hb').1 G1.out.1).mono (by rintro e W5 ⟨rfl, hb5⟩; exact ⟨rfl, hb'.trans (hb5.mono hb'.size)⟩)⟩)⟩, ?_⟩
                simp only [Act.put, List.setIfInBounds_toArray, List.set_cons_succ, List.set_cons_zero]
                refine ⟨.pointer (some ⟨q, 0, none⟩), .inl ⟨by rfl, fun W' hb' => .inl ⟨W', by clear hb'; go_simp, hb'⟩⟩, ?_⟩
                simp only [Act.put, List.setIfInBounds_toArray, List.set_cons_succ, List.set_cons_zero]
                refine ⟨.pointer (some ⟨wr.heap.size, 1, none⟩), .inl ⟨by rfl, fun W' hb' => .inl ⟨W', by clear hb'; go_simp, hb'⟩⟩, ?_⟩
                simp only [Act.put, List.setIfInBounds_toArray, List.set_cons_succ, List.set_cons_zero]
                refine ⟨.int .i64 N, .inl ⟨by rfl, fun W' hb' => .inl ⟨W', by have c1 := (ds.below hb').c1; clear hb'; go_simp, hb'⟩⟩, ?_⟩
                simp only [Act.put, List.setIfInBounds_toArray, List.set_cons_succ, List.set_cons_zero]
                refine ⟨.int .i64 (idx (fun r => r.1 == N) (rs)), .inl ⟨by rfl, fun W' hb' => .inr (.inr ⟨25, #[.pointer (some ⟨q, 0, none⟩), .int .i64 N], W', by clear hb'; go_simp, (xplace N _ _ _ _ W' (ds.below hb').2.1 G1.out.1).mono (by rintro e W5 ⟨rfl, hb5⟩; exact ⟨rfl, hb'.trans (hb5.mono hb'.size)⟩)⟩)⟩, ?_⟩
                simp only [Act.put, List.setIfInBounds_toArray, List.set_cons_succ, List.set_cons_zero]
                refine ⟨.bool false, .inl ⟨by rfl, fun W' hb' => .inl ⟨W', by clear hb'; go_simp, hb'⟩⟩, ?_⟩
                simp only [Act.put, List.setIfInBounds_toArray, List.set_cons_succ, List.set_cons_zero]
                refine ⟨.bool false, .inl ⟨by rfl, fun W' hb' => .inl ⟨W', by clear hb'; go_simp, hb'⟩⟩, ?_⟩
                simp only [Act.put, List.setIfInBounds_toArray, List.set_cons_succ, List.set_cons_zero]
                simp only [HeldAll]
                intro W5 hb5
                have d5 := ds.below hb5
                clear ds hb5
                obtain ⟨i5, x5, b5, t5⟩ := d5
                clear t5
                go_wp2
                go_roundw
                case rel => exact ⟨⟨k + 1, _, _, by go_num, G1.out, i5, x5, b5⟩, by simp [intOf]; omega⟩
                case measure => simp [intOf]; omega
              · have k5 : (K == 5) = false := by simpa using e5
                obtain ⟨W4, hW4⟩ : ∃ W4, (wr.alloc (.cells #[.int .i64 K, .int .i64 N] 28)) = W4 := ⟨_, rfl⟩
                rw [hW4] at ds0
                have ds := ds0
                clear ds0
                have t0 := cell_at ds.2.2.2 0
                go_wp2_with fail
                clear hW4 t0
                refine wp_region_held (fun W' => Below W4.heap.size W4 W') (by kernel_rfl) (by kernel_rfl) (Below.refl _ W4).drew ?_
                refine ⟨.bool true, .inl ⟨by rfl, fun W' hb' => .inl ⟨W', by clear hb'; go_simp, hb'⟩⟩, ?_⟩
                simp only [Act.put, List.setIfInBounds_toArray, List.set_cons_succ, List.set_cons_zero]
                refine ⟨.bool false, .inl ⟨by rfl, fun W' hb' => .inl ⟨W', by clear hb'; go_simp, hb'⟩⟩, ?_⟩
                simp only [Act.put, List.setIfInBounds_toArray, List.set_cons_succ, List.set_cons_zero]
                refine ⟨.bool false, .inl ⟨by rfl, fun W' hb' => .inl ⟨W', by clear hb'; go_simp, hb'⟩⟩, ?_⟩
                simp only [Act.put, List.setIfInBounds_toArray, List.set_cons_succ, List.set_cons_zero]
                refine ⟨.pointer (some ⟨w.heap.size, 0, none⟩), .inl ⟨by rfl, fun W' hb' => .inl ⟨W', by clear hb'; go_simp, hb'⟩⟩, ?_⟩
                simp only [Act.put, List.setIfInBounds_toArray, List.set_cons_succ, List.set_cons_zero]
                refine ⟨.pointer (some ⟨q, 0, none⟩), .inl ⟨by rfl, fun W' hb' => .inl ⟨W', by clear hb'; go_simp, hb'⟩⟩, ?_⟩
                simp only [Act.put, List.setIfInBounds_toArray, List.set_cons_succ, List.set_cons_zero]
                refine ⟨.bool true, .inl ⟨by rfl, fun W' hb' => .inr (.inr ⟨24, #[.pointer (some ⟨w.heap.size, 0, none⟩), .pointer (some ⟨q, 0, none⟩)], W', by clear hb'; go_simp, (looks_any _ _ _ _ _ W' (ds.below hb').1 (ds.below hb').2.1 G.out.1 G.out.inj).mono (by rintro e W5 ⟨rfl, hb5⟩; exact ⟨rfl, hb'.trans (hb5.mono hb'.size)⟩)⟩)⟩, ?_⟩
                simp only [Act.put, List.setIfInBounds_toArray, List.set_cons_succ, List.set_cons_zero]
                refine ⟨.bool false, .inl ⟨by rfl, fun W' hb' => .inl ⟨W', by clear hb'; go_simp, hb'⟩⟩, ?_⟩
                simp only [Act.put, List.setIfInBounds_toArray, List.set_cons_succ, List.set_cons_zero]
                refine ⟨.bool false, .inl ⟨by rfl, fun W' hb' => .inl ⟨W', by clear hb'; go_simp, hb'⟩⟩, ?_⟩
                simp only [Act.put, List.setIfInBounds_toArray, List.set_cons_succ, List.set_cons_zero]
                refine ⟨.bool false, .inl ⟨by rfl, fun W' hb' => .inl ⟨W', by clear hb'; go_simp, hb'⟩⟩, ?_⟩
                simp only [Act.put, List.setIfInBounds_toArray, List.set_cons_succ, List.set_cons_zero]
                refine ⟨.pointer (some ⟨w.heap.size, 0, none⟩), .inl ⟨by rfl, fun W' hb' => .inl ⟨W', by clear hb'; go_simp, hb'⟩⟩, ?_⟩
                simp only [Act.put, List.setIfInBounds_toArray, List.set_cons_succ, List.set_cons_zero]
                refine ⟨.pointer (some ⟨wr.heap.size, 1, none⟩), .inl ⟨by rfl, fun W' hb' => .inl ⟨W', by clear hb'; go_simp, hb'⟩⟩, ?_⟩
                simp only [Act.put, List.setIfInBounds_toArray, List.set_cons_succ, List.set_cons_zero]
                refine ⟨.int .i64 N, .inl ⟨by rfl, fun W' hb' => .inl ⟨W', by have c1 := (ds.below hb').c1; clear hb'; go_simp, hb'⟩⟩, ?_⟩
                simp only [Act.put, List.setIfInBounds_toArray, List.set_cons_succ, List.set_cons_zero]
                refine ⟨.int .i64 (idx (fun r => r.1 == N) (rs)), .inl ⟨by rfl, fun W' hb' => .inr (.inr ⟨15, #[.pointer (some ⟨w.heap.size, 0, none⟩), .int .i64 N], W', by clear hb'; go_simp, (place_any N _ _ _ _ W' (ds.below hb').1 G.out.1).mono (by rintro e W5 ⟨rfl, hb5⟩; exact ⟨rfl, hb'.trans (hb5.mono hb'.size)⟩)⟩)⟩, ?_⟩
                simp only [Act.put, List.setIfInBounds_toArray, List.set_cons_succ, List.set_cons_zero]
                refine ⟨.pointer (some ⟨q, 0, none⟩), .inl ⟨by rfl, fun W' hb' => .inl ⟨W', by clear hb'; go_simp, hb'⟩⟩, ?_⟩
                simp only [Act.put, List.setIfInBounds_toArray, List.set_cons_succ, List.set_cons_zero]
                refine ⟨.pointer (some ⟨wr.heap.size, 1, none⟩), .inl ⟨by rfl, fun W' hb' => .inl ⟨W', by clear hb'; go_simp, hb'⟩⟩, ?_⟩
                simp only [Act.put, List.setIfInBounds_toArray, List.set_cons_succ, List.set_cons_zero]
                refine ⟨.int .i64 N, .inl ⟨by rfl, fun W' hb' => .inl ⟨W', by have c1 := (ds.below hb').c1; clear hb'; go_simp, hb'⟩⟩, ?_⟩
                simp only [Act.put, List.setIfInBounds_toArray, List.set_cons_succ, List.set_cons_zero]
                refine ⟨.int .i64 (idx (fun r => r.1 == N) (rs)), .inl ⟨by rfl, fun W' hb' => .inr (.inr ⟨25, #[.pointer (some ⟨q, 0, none⟩), .int .i64 N], W', by clear hb'; go_simp, (xplace N _ _ _ _ W' (ds.below hb').2.1 G.out.1).mono (by rintro e W5 ⟨rfl, hb5⟩; exact ⟨rfl, hb'.trans (hb5.mono hb'.size)⟩)⟩)⟩, ?_⟩
                simp only [Act.put, List.setIfInBounds_toArray, List.set_cons_succ, List.set_cons_zero]
                refine ⟨.bool false, .inl ⟨by rfl, fun W' hb' => .inl ⟨W', by clear hb'; go_simp, hb'⟩⟩, ?_⟩
                simp only [Act.put, List.setIfInBounds_toArray, List.set_cons_succ, List.set_cons_zero]
                refine ⟨.bool false, .inl ⟨by rfl, fun W' hb' => .inl ⟨W', by clear hb'; go_simp, hb'⟩⟩, ?_⟩
                simp only [Act.put, List.setIfInBounds_toArray, List.set_cons_succ, List.set_cons_zero]
                simp only [HeldAll]
                intro W5 hb5
                have d5 := ds.below hb5
                clear ds hb5
                obtain ⟨i5, x5, b5, t5⟩ := d5
                clear t5
                go_wp2
                go_roundw
                case rel => exact ⟨⟨k + 1, _, _, by go_num, G.out, i5, x5, b5⟩, by simp [intOf]; omega⟩
                case measure => simp [intOf]; omega
    · obtain rfl : k = len := by omega
      go_wp2
      go_ret
      exact ⟨rfl, hb⟩

set_option maxRecDepth 100000 in
theorem backlogDoes_lifted (os : Os) (started : os.Started) (H : Type) (enc : TypeId × Value → H) :
    ReturnsInHanded {} Try.checked os 6 .any (Rows.backlogDoesSpec.pre6 enc Try.prog Try.f6 Rows.backlogDoesRow.domain false) (Rows.backlogDoesSpec.post enc Try.prog Try.f6 false true false false) := by
  refine returnsInHanded_of_change (C := Try.checked) own started (by kernel_rfl) Try.func6
    (ChangeSpec.witness6 (enc := enc) (C := Try.checked) false ⟨#[], #[.slice none 0 0], []⟩ 8 (by kernel_rfl) (by kernel_rfl) (by kernel_rfl) (by kernel_rfl)) ?_
  intro W base args ds gs before hval0 hW _ _
  have hval : ∀ (j : Nat) t v, Try.f6.params[j]? = some t → args[j]? = some v → Value.okWide Try.prog W .any base t v := hval0
  have hW' := hW
  obtain ⟨p, q, hA0, hV, hpq, hfz, hnd⟩ := hW
  have hA : DataW.TrodAll enc Try.prog W 0 (fun _ => true) true Try.f6.params.toList args.toList ds p := hA0
  rw [Try.params6] at hA hval
  obtain ⟨v0, vs0, d0, ds0, p0, q0, hargs, rfl, rfl, h0, r0⟩ := trodAll_cons hA
  obtain ⟨rfl, rfl, rfl⟩ := trodAll_nil r0
  obtain rfl : args = #[v0] := by cases args; simp_all
  obtain ⟨a0, len0, cap0, z0, rfl, w0⟩ := open_pairs Try.underlying22 Try.underlying28 (by kernel_rfl) rfl rfl (by kernel_rfl) (by kernel_rfl) Try.underlying3 Try.underlying3 (hval 0 22 v0 rfl rfl) h0
  obtain ⟨rfl, rfl⟩ := trodVars_none hV
  clear hA0 hval0
  refine (does_any a0 len0 cap0 z0 W w0).mono fun e W' ⟨he, bel⟩ => ?_
  subst he
  exact ⟨_, rfl, post_true laidOut (by intro t ht; simp only [Try.params6] at ht; simp at ht; rcases ht with rfl <;> exact ⟨by kernel_rfl, of_decide_eq_true (by kernel_rfl)⟩) (by kernel_rfl) Try.underlying4 rfl rfl rfl rfl hW' bel⟩

theorem backlogDoes_holds : Rows.BacklogDoesSaid :=
  OpenClaim.holds_of_wide 6 Try.f6 rfl rfl rfl rfl rfl rfl rfl ⟨rfl, rfl, rfl, rfl, rfl⟩ rfl rfl rfl rfl rfl (by kernel_rfl) Try.func6 (by kernel_rfl)
    (of_decide_eq_true (by kernel_rfl)) (by unfold Func.isWrapper; first | (rw [if_pos (by decide +kernel)]; kernel_rfl) | (rw [if_neg (by decide +kernel)]; exact ⟨rfl, rfl⟩))
    (fun os started H enc _ => backlogDoes_lifted os started H enc)
#print axioms backlogDoes_holds

end Go.Proofs.Ytglfbihdbdcgiaa
