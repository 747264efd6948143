/- What must come of every program, of layer 1: lives returns true. -/
import Derived.Test.YtlljeghlfijdnaaCMaker2
import Derived.Test.YtlljeghlfijdnaaCTaker2
namespace Go.Proofs.Ytlljeghlfijdnaa
open Go.RowKit

theorem Bs.of_block {w : World} {k : Nat} {cs : Array Value} {T : TypeId} {f : Nat × Nat} {bs : List Nat} (h : w.heap[k]? = some (.cells cs T f)) (hc : cs.toList = bs.map u8v) (hm : bs.length ≤ maxLen) {n : Nat} (hn : n = bs.length) : Bs w (.slice (some ⟨k, 0, none⟩) n n) bs := by
  subst hn
  exact ⟨_, _, rfl, Nat.le_refl _, hm, by simp, fun _ => ⟨_, _, rfl, lt_of_block h, fun j u hu => by
    rw [cell_at h, Nat.zero_add, ← Array.getElem?_toList, hc]; exact hu⟩⟩
theorem IsT.keepM {w w' : World} {T : TypeId} {p q : Nat} {D G : Option Nat} {s : List Nat × Bool} (h : IsT w T p D s) (f : Fr 0 [] (q :: G.toList) w w') (hpq : p ≠ q) (hD : D ≠ some q) (hG : ∀ g, G = some g → g ≠ p ∧ D ≠ some g) : IsT w' T p D s := by
  refine h.keep f ?_ ?_
  · intro hm
    rcases List.mem_cons.1 hm with e | e
    · exact hpq e
    · exact (hG p (by simpa using e)).1 rfl
  · intro d hd hm
    rcases List.mem_cons.1 hm with e | e
    · exact hD (by rw [hd, e])
    · exact (hG d (by simpa using e)).2 hd
theorem IsM.keepT {w w' : World} {p q : Nat} {G : Option Nat} {s : List Nat × Bool} (h : IsM w p G s) (f : Fr 0 [] [q] w w') (hpq : p ≠ q) (hG : G ≠ some q) : IsM w' p G s :=
  h.keep f (by simpa using hpq) (fun g hg => by simp; intro e; exact hG (by rw [hg, e]))
theorem Fr.belowM {w w' : World} {B p : Nat} {G : Option Nat} (f : Fr 0 [] (p :: G.toList) w w') (hp : B ≤ p) (hG : ∀ g, G = some g → B ≤ g) (hB : B ≤ w.heap.size) : Below B w w' :=
  ⟨f.os, f.tape, f.output, f.size, fun k hk => f.block k (by omega) (.inr ⟨by simp, fun hm => by
    rcases List.mem_cons.1 hm with e | e
    · omega
    · have := hG k (by simpa using e)
      omega⟩)⟩
theorem Fr.belowT {w w' : World} {B p : Nat} (f : Fr 0 [] [p] w w') (hp : B ≤ p) (hB : B ≤ w.heap.size) : Below B w w' :=
  ⟨f.os, f.tape, f.output, f.size, fun k hk => f.block k (by omega) (.inr ⟨by simp, fun hm => by simp at hm; omega⟩)⟩
/-- A maker's block is not older than B, and is no block of a taker's. -/
def Free (B : Nat) (q : Nat) (D G : Option Nat) : Prop := ∀ g, G = some g → B ≤ g ∧ g ≠ q ∧ D ≠ some g
theorem Free.none {B q : Nat} {D : Option Nat} : Free B q D none := by intro g hg; cases hg
theorem Free.next {B q n : Nat} {D G G' : Option Nat} (h : Free B q D G) (hg : G' = G ∨ ∃ g, G' = some g ∧ n ≤ g) (hB : B ≤ n) (hq : q < n) (hD : ∀ d, D = some d → d < n) : Free B q D G' := by
  intro g he
  rcases hg with e | ⟨g', e, hn⟩
  · exact h g (e ▸ he)
  · rw [he] at e
    injection e with e
    subst e
    exact ⟨by omega, by omega, fun hd => by have := hD _ hd; omega⟩
/-- What comes back is in the maker's own block, or in a new one. -/
theorem fresh_ne {G G' : Option Nat} {n q : Nat} (h : G' = G ∨ ∃ g, G' = some g ∧ n ≤ g) (hq : q < n) (hG : G ≠ some q) : G' ≠ some q := by
  rcases h with h | ⟨g, h, hg⟩
  · rw [h]; exact hG
  · rw [h]; intro e; injection e with e; omega

set_option maxRecDepth 100000 in
set_option maxHeartbeats 4000000 in
theorem lives_any (w : World) : Calls Try.prog 15 #[] w fun e w' => e = .returned (.bool true) ∧ Below w.heap.size w w' := by
  go_enter Try.func15, Try.ntmps15
  go_wp2_with fail
  refine (new_any w).mono ?_
  rintro e w1 ⟨rfl, hM1, hb1⟩
  have HM1 := Lib.hid hM1
  have HB1 := Lib.hid hb1
  have hs1 : w.heap.size < w1.heap.size := hM1.lt
  clear hM1 hb1
  go_wp2_with fail
  have hbn := block_new w1 (.cells #[.int .u8 129, .int .u8 128, .int .u8 2, .int .u8 97, .int .u8 98, .int .u8 1] 5)
  have hB1 : Below w1.heap.size w1 (w1.alloc (.cells #[.int .u8 129, .int .u8 128, .int .u8 2, .int .u8 97, .int .u8 98, .int .u8 1] 5)) := (Below.refl _ _).alloc (Nat.le_refl _) _
  refine (take_any _ [129, 128, 2, 97, 98, 1] _ (Bs.of_block hbn rfl (by unfold maxLen; simp) rfl) (by simp) (by simp)).mono ?_
  rintro e w2 ⟨q, D, rfl, hq, hT2, hDq, hDr, hb2⟩
  have b12 : Below w1.heap.size w1 w2 := hB1.trans (hb2.mono hB1.size)
  have HM2 := Lib.hid (HM1.out.below b12)
  have HT2 := Lib.hid hT2
  have HBB2 := Lib.hid (HB1.out.trans (b12.mono HB1.out.size))
  have HDQ := Lib.hid hDq
  have HDR := Lib.hid (fun d hd => (⟨Nat.le_trans hB1.size (hDr d hd).1, (hDr d hd).2⟩ : w1.heap.size ≤ d ∧ d < w2.heap.size))
  have hq1 : w1.heap.size ≤ q := Nat.le_trans hB1.size hq
  have hq2 := hT2.lt
  clear hbn hB1 hq hT2 hDq hDr hb2 b12 HM1 HB1
  have hqp : q ≠ w.heap.size := by omega
  have HQP := Lib.hid hqp
  clear hqp
  go_wp2_with fail
  refine (mnum_any w.heap.size none ([], false) (-129) w2 HM2.out (by unfold I64; omega)).mono ?_
  rintro e w3 ⟨G3, rfl, hM3, hf3, hg3⟩
  have HM3 := Lib.hid hM3
  have HT3 := Lib.hid (HT2.out.keepM hf3 HQP.out (fun e => by have := HDR.out _ e; omega) (by simp))
  have HF3 := Lib.hid (Free.next (B := w.heap.size) (q := q) (D := D) Free.none hg3 (by omega) hq2 (fun d hd => (HDR.out d hd).2))
  have HBB3 := Lib.hid (HBB2.out.trans (hf3.belowM (Nat.le_refl _) (by simp) (by omega)))
  have hs3 : w2.heap.size ≤ w3.heap.size := hf3.size
  clear hM3 hf3 hg3 HM2 HT2 HBB2
  go_wp2_with fail
  refine (mtext_any w.heap.size G3 _ ⟨#[120]⟩ w3 HM3.out (by decide)).mono ?_
  rintro e w4 ⟨G4, rfl, hM4, hf4, hg4⟩
  have HM4 := Lib.hid hM4
  have HT4 := Lib.hid (HT3.out.keepM hf4 HQP.out (fun e => by have := HDR.out _ e; omega) (fun g hg => (HF3.out g hg).2))
  have HF4 := Lib.hid (HF3.out.next hg4 (by omega) (by omega) (fun d hd => by have := HDR.out d hd; omega))
  have HBB4 := Lib.hid (HBB3.out.trans (hf4.belowM (Nat.le_refl _) (fun g hg => (HF3.out g hg).1) (by omega)))
  have hs4 : w3.heap.size ≤ w4.heap.size := hf4.size
  clear hM4 hf4 hg4 HM3 HT3 HBB3 HF3
  go_wp2_with fail
  refine (mflag_any w.heap.size G4 _ true w4 HM4.out).mono ?_
  rintro e w5 ⟨G5, rfl, hM5, hf5, hg5⟩
  have hval : putS (putS (putS ([], false) (numB (-129))) (textB (natsOf ⟨#[120]⟩))) (flagB true) = ([145, 128, 1, 120, 1], false) := by decide +kernel
  rw [hval] at hM5
  have HM5 := Lib.hid hM5
  have HT5 := Lib.hid (HT4.out.keepM hf5 HQP.out (fun e => by have := HDR.out _ e; omega) (fun g hg => (HF4.out g hg).2))
  have HBB5 := Lib.hid (HBB4.out.trans (hf5.belowM (Nat.le_refl _) (fun g hg => (HF4.out g hg).1) (by omega)))
  have hs5 : w4.heap.size ≤ w5.heap.size := hf5.size
  clear hM5 hf5 hg5 HM4 HT4 HBB4 HF4 hval
  go_wp2_with fail
  refine (mdone_any w.heap.size G5 _ w5 HM5.out (by simp)).mono ?_
  rintro e w6 ⟨v6, rfl, ho6, hb6⟩
  simp only [Bool.false_eq_true, if_false] at ho6 ⊢
  have HT6 := Lib.hid (HT5.out.below hb6)
  have HBB6 := Lib.hid (HBB5.out.trans (hb6.mono HBB5.out.size))
  have hs6 : w5.heap.size ≤ w6.heap.size := hb6.size
  have hbs6 : Bs w6 v6 [145, 128, 1, 120, 1] := Bs.own_n ho6
  have HO6 := Lib.hid ho6
  obtain ⟨A6, c6, rfl, hl6, hm6, hr6⟩ := hbs6
  have HR6 := Lib.hid hr6
  have hA6 : ∀ a, A6 = some a → w5.heap.size ≤ a.block := fun a ha => (own_block HO6.out (by subst ha; rfl)).1
  have HA6 := Lib.hid hA6
  clear ho6 hb6 HT5 HBB5 HM5 hr6 hA6 hl6 hm6
  go_wp2_with fail
  refine (tnum_any q D _ 0 1000 w6 HT6.out HDQ.out).mono ?_
  rintro e w7 ⟨rfl, hT7, hf7⟩
  have e7 : numT ([129, 128, 2, 97, 98, 1], false) 0 1000 = (128, ([2, 97, 98, 1], false)) := by decide +kernel
  rw [e7] at hT7 ⊢
  have HT7 := Lib.hid hT7
  have HF7 := Lib.hid hf7
  clear hT7 hf7 e7 HT6
  go_wp2_with fail
  refine (ttext_any q D _ 9 w7 HT7.out HDQ.out).mono ?_
  rintro e w8 ⟨rfl, hT8, hf8⟩
  have e8 : textT ([2, 97, 98, 1], false) 9 = ([97, 98], ([1], false)) := by decide +kernel
  rw [e8] at hT8 ⊢
  have HT8 := Lib.hid hT8
  have HF8 := Lib.hid (HF7.out.trans hf8)
  clear hT8 hf8 e8 HT7 HF7
  go_wp2_with fail
  refine (tflag_any q D _ w8 HT8.out HDQ.out).mono ?_
  rintro e w9 ⟨rfl, hT9, hf9⟩
  have e9 : flagT ([1], false) = (true, ([], false)) := by decide +kernel
  rw [e9] at hT9 ⊢
  have HT9 := Lib.hid hT9
  have HF9 := Lib.hid (HF8.out.trans hf9)
  clear hT9 hf9 e9 HT8 HF8
  go_wp2_with fail
  have hbn := block_new w9 (.cells #[.int .u8 129, .int .u8 5] 5)
  have hB9 : Below w9.heap.size w9 (w9.alloc (.cells #[.int .u8 129, .int .u8 5] 5)) := (Below.refl _ _).alloc (Nat.le_refl _) _
  refine (first_any (some ⟨w9.heap.size, 0, none⟩) 2 [129, 5] _ (by
    obtain ⟨A, c, h1, _, _, h4⟩ := Bs.of_block (bs := [129, 5]) hbn rfl (by unfold maxLen; simp) (n := 2) rfl
    injection h1 with h1
    subst h1
    exact h4) (by simp) (by simp) (by unfold maxLen; simp)).mono ?_
  rintro e w10 ⟨rfl, hb10⟩
  have e10 : fstV [129, 5] = .tuple #[.int .i64 0, .int .i64 0, .int .i64 10] := fstV_none (by decide +kernel)
  rw [e10]
  have b10 := hB9.trans (hb10.mono hB9.size)
  have HT10 := Lib.hid (HT9.out.below b10)
  have HBB10 := Lib.hid ((HBB6.out.trans (HF9.out.belowT (by omega) (by omega))).trans (b10.mono (by have := HBB6.out.size; have := HF9.out.size; omega)))
  have HR10 := Lib.hid (Rd.below (HR6.out.frame HF9.out (fun _ a ha => by
    have := HA6.out a ha
    simp
    omega)) b10)
  clear b10 hb10 hB9 hbn e10 HT9 HF9 HR6 HBB6
  have hs10 := run_str w10 A6 5 c6 _ HR10.out (by simp)
  have e11 : ((strOf [145, 128, 1, 120, 1]).toList == [145, 128, 1, 120, 1]) = true := by decide +kernel
  have e12 : ((strOf [97, 98]).toList == [97, 98]) = true := by decide +kernel
  go_wp2_with fail
  refine (tdone_any q D _ w10 HT10.out).mono ?_
  rintro e w11 ⟨rfl, rfl⟩
  have e13 : doneT ([], false) = 0 := by decide +kernel
  rw [e13]
  clear e13
  go_wp2
  go_ret
  exact ⟨rfl, HBB10.out⟩
end Go.Proofs.Ytlljeghlfijdnaa
