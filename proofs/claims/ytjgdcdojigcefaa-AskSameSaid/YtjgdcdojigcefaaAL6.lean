/- The law AskSame: the walk. -/
import Derived.Test.YtjgdcdojigcefaaALives
import Derived.Test.YtjgdcdojigcefaaAOpen
namespace Go.Proofs.Ytjgdcdojigcefaa
open Go.RowKit

/-- What Encode answers. -/
def codeA (a : Ak) : List Nat := if mayA a = true then encA a else []
theorem aencE_any (a : Ak) (A : Option Addr) (c : Nat) (w : World) (hr : Rd w 2 A a.items.length (a.items.flatMap encI)) (hb : BdA a) :
    Calls Try.prog 10 #[akV a (.slice A a.items.length c)] w fun e W => ∃ v, e = .returned (.tuple #[v, .int .i64 (if mayA a = true then 0 else 1)]) ∧ Bs W v (codeA a) ∧ Below w.heap.size w W := by
  have hg : a.good.size ≤ 9223372036854775807 := by have := hb.good; omega
  cases hm : mayA a
  · refine (aenc_no a A c w hr hb.items hg hm).mono ?_
    rintro e W ⟨rfl, hb⟩
    exact ⟨_, rfl, by unfold codeA; rw [hm]; exact bs_nilA _, hb⟩
  · refine (aenc_ok a A c w hr hb.items hg hm).mono ?_
    rintro e W ⟨v, rfl, hv, hb⟩
    exact ⟨v, rfl, by unfold codeA; rw [hm]; exact hv, hb⟩
theorem codeA_lt (a : Ak) : ∀ x ∈ codeA a, x < 256 := by
  unfold codeA
  split
  · exact encA_lt a
  · simp
set_option maxRecDepth 100000 in
set_option maxHeartbeats 8000000 in
theorem asl_any (a b : Ak) (A : Option Addr) (c : Nat) (B : Option Addr) (d : Nat) (k : Int) (w : World) (hr : Rd w 2 A a.items.length (a.items.flatMap encI)) (hs : Rd w 2 B b.items.length (b.items.flatMap encI)) (ba : BdA a) (bb : BdA b) :
    Calls Try.prog 6 #[akV a (.slice A a.items.length c), akV b (.slice B b.items.length d), .int .i64 k] w fun e W => e = .returned (.bool true) ∧ Below w.heap.size w W := by
  have HEA := Lib.hid (fun W (hW : Below w.heap.size w W) => aencE_any a A c W (hr.below hW) ba)
  have HEB := Lib.hid (fun W (hW : Below w.heap.size w W) => aencE_any b B d W (hs.below hW) bb)
  have HXS := Lib.hid (fun W (hW : Below w.heap.size w W) => xsameA_any a b A c B d W (hr.below hW) (hs.below hW) ba.items.2)
  have HAS := Lib.hid (fun W (hW : Below w.heap.size w W) => asame_any a b A c B d W (hr.below hW) (hs.below hW) ba.items.2)
  have HBA := Lib.hid (codeA_lt a)
  have HBB := Lib.hid (codeA_lt b)
  have HQ : Hid (mayA a = true → mayA b = true → ((strOf (codeA a)).toList == (strOf (codeA b)).toList) = eqA a b) := Lib.hid (fun h1 h2 => by
    rw [strOf_beq (codeA_lt a) (codeA_lt b), Bool.eq_iff_iff, eqA_iff, decide_eq_true_eq]
    unfold codeA
    rw [if_pos h1, if_pos h2]
    exact ⟨fun e => encA_inj h1 h2 e, fun e => by rw [e]⟩)
  obtain ⟨S, hS⟩ : ∃ S, eqA a b = S := ⟨_, rfl⟩
  rw [hS] at HXS HAS HQ
  have hl1 := ba.items.2
  have hl2 := bb.items.2
  obtain ⟨la, hla⟩ : ∃ la, a.items.length = la := ⟨_, rfl⟩
  obtain ⟨lb, hlb⟩ : ∃ lb, b.items.length = lb := ⟨_, rfl⟩
  rw [hla] at HEA HXS HAS hl1 ⊢
  rw [hlb] at HEB HXS HAS hl2 ⊢
  clear hS hla hlb hr hs ba bb
  show Calls Try.prog 6 #[.agg #[.int .i64 a.client, .int .i64 a.number, .int .i64 a.kind, .int .i64 a.order, .int .i64 a.region, .int .i64 a.to, .int .i64 a.n, .string a.good, .slice A la c], .agg #[.int .i64 b.client, .int .i64 b.number, .int .i64 b.kind, .int .i64 b.order, .int .i64 b.region, .int .i64 b.to, .int .i64 b.n, .string b.good, .slice B lb d], .int .i64 k] w _
  obtain ⟨W2, hW2⟩ : ∃ W2, ((w.alloc (.cells #[.int .i64 a.client, .int .i64 a.number, .int .i64 a.kind, .int .i64 a.order, .int .i64 a.region, .int .i64 a.to, .int .i64 a.n, .string a.good, .slice A la c] 24)).alloc (.cells #[.int .i64 b.client, .int .i64 b.number, .int .i64 b.kind, .int .i64 b.order, .int .i64 b.region, .int .i64 b.to, .int .i64 b.n, .string b.good, .slice B lb d] 24)) = W2 := ⟨_, rfl⟩
  have ka0 := block_alloc (block_new w (.cells #[.int .i64 a.client, .int .i64 a.number, .int .i64 a.kind, .int .i64 a.order, .int .i64 a.region, .int .i64 a.to, .int .i64 a.n, .string a.good, .slice A la c] 24)) (.cells #[.int .i64 b.client, .int .i64 b.number, .int .i64 b.kind, .int .i64 b.order, .int .i64 b.region, .int .i64 b.to, .int .i64 b.n, .string b.good, .slice B lb d] 24)
  have kb0 := block_new (w.alloc (.cells #[.int .i64 a.client, .int .i64 a.number, .int .i64 a.kind, .int .i64 a.order, .int .i64 a.region, .int .i64 a.to, .int .i64 a.n, .string a.good, .slice A la c] 24)) (.cells #[.int .i64 b.client, .int .i64 b.number, .int .i64 b.kind, .int .i64 b.order, .int .i64 b.region, .int .i64 b.to, .int .i64 b.n, .string b.good, .slice B lb d] 24)
  have hb0 := ((Below.refl _ w).alloc (Nat.le_refl _) (.cells #[.int .i64 a.client, .int .i64 a.number, .int .i64 a.kind, .int .i64 a.order, .int .i64 a.region, .int .i64 a.to, .int .i64 a.n, .string a.good, .slice A la c] 24)).alloc (by simp) (.cells #[.int .i64 b.client, .int .i64 b.number, .int .i64 b.kind, .int .i64 b.order, .int .i64 b.region, .int .i64 b.to, .int .i64 b.n, .string b.good, .slice B lb d] 24)
  simp only [World.size_alloc] at kb0
  rw [hW2] at ka0 kb0 hb0
  have HB2 := Lib.hid hb0
  have HCA : Hid (∀ W, Below W2.heap.size W2 W → W.heap[w.heap.size]? = some (.cells #[.int .i64 a.client, .int .i64 a.number, .int .i64 a.kind, .int .i64 a.order, .int .i64 a.region, .int .i64 a.to, .int .i64 a.n, .string a.good, .slice A la c] 24 (0, 0))) := Lib.hid (fun W hW => (hW.block _ (lt_of_block ka0)).trans ka0)
  have HCB : Hid (∀ W, Below W2.heap.size W2 W → W.heap[w.heap.size + 1]? = some (.cells #[.int .i64 b.client, .int .i64 b.number, .int .i64 b.kind, .int .i64 b.order, .int .i64 b.region, .int .i64 b.to, .int .i64 b.n, .string b.good, .slice B lb d] 24 (0, 0))) := Lib.hid (fun W hW => (hW.block _ (lt_of_block kb0)).trans kb0)
  have HW2 := Lib.hid hW2
  clear hW2 ka0 kb0 hb0
  have ra0 : ((w.alloc (.cells #[.int .i64 a.client, .int .i64 a.number, .int .i64 a.kind, .int .i64 a.order, .int .i64 a.region, .int .i64 a.to, .int .i64 a.n, .string a.good, .slice A la c] 24)).alloc (.cells #[.int .i64 b.client, .int .i64 b.number, .int .i64 b.kind, .int .i64 b.order, .int .i64 b.region, .int .i64 b.to, .int .i64 b.n, .string b.good, .slice B lb d] 24)).cell? ⟨w.heap.size, 0, none⟩ = some (.int .i64 a.client) := by rw [HW2.out]; exact cell_at (HCA.out W2 (Below.refl _ _)) 0
  have ra1 : ((w.alloc (.cells #[.int .i64 a.client, .int .i64 a.number, .int .i64 a.kind, .int .i64 a.order, .int .i64 a.region, .int .i64 a.to, .int .i64 a.n, .string a.good, .slice A la c] 24)).alloc (.cells #[.int .i64 b.client, .int .i64 b.number, .int .i64 b.kind, .int .i64 b.order, .int .i64 b.region, .int .i64 b.to, .int .i64 b.n, .string b.good, .slice B lb d] 24)).cell? ⟨w.heap.size, 1, none⟩ = some (.int .i64 a.number) := by rw [HW2.out]; exact cell_at (HCA.out W2 (Below.refl _ _)) 1
  have ra2 : ((w.alloc (.cells #[.int .i64 a.client, .int .i64 a.number, .int .i64 a.kind, .int .i64 a.order, .int .i64 a.region, .int .i64 a.to, .int .i64 a.n, .string a.good, .slice A la c] 24)).alloc (.cells #[.int .i64 b.client, .int .i64 b.number, .int .i64 b.kind, .int .i64 b.order, .int .i64 b.region, .int .i64 b.to, .int .i64 b.n, .string b.good, .slice B lb d] 24)).cell? ⟨w.heap.size, 2, none⟩ = some (.int .i64 a.kind) := by rw [HW2.out]; exact cell_at (HCA.out W2 (Below.refl _ _)) 2
  have ra3 : ((w.alloc (.cells #[.int .i64 a.client, .int .i64 a.number, .int .i64 a.kind, .int .i64 a.order, .int .i64 a.region, .int .i64 a.to, .int .i64 a.n, .string a.good, .slice A la c] 24)).alloc (.cells #[.int .i64 b.client, .int .i64 b.number, .int .i64 b.kind, .int .i64 b.order, .int .i64 b.region, .int .i64 b.to, .int .i64 b.n, .string b.good, .slice B lb d] 24)).cell? ⟨w.heap.size, 3, none⟩ = some (.int .i64 a.order) := by rw [HW2.out]; exact cell_at (HCA.out W2 (Below.refl _ _)) 3
  have ra4 : ((w.alloc (.cells #[.int .i64 a.client, .int .i64 a.number, .int .i64 a.kind, .int .i64 a.order, .int .i64 a.region, .int .i64 a.to, .int .i64 a.n, .string a.good, .slice A la c] 24)).alloc (.cells #[.int .i64 b.client, .int .i64 b.number, .int .i64 b.kind, .int .i64 b.order, .int .i64 b.region, .int .i64 b.to, .int .i64 b.n, .string b.good, .slice B lb d] 24)).cell? ⟨w.heap.size, 4, none⟩ = some (.int .i64 a.region) := by rw [HW2.out]; exact cell_at (HCA.out W2 (Below.refl _ _)) 4
  have ra5 : ((w.alloc (.cells #[.int .i64 a.client, .int .i64 a.number, .int .i64 a.kind, .int .i64 a.order, .int .i64 a.region, .int .i64 a.to, .int .i64 a.n, .string a.good, .slice A la c] 24)).alloc (.cells #[.int .i64 b.client, .int .i64 b.number, .int .i64 b.kind, .int .i64 b.order, .int .i64 b.region, .int .i64 b.to, .int .i64 b.n, .string b.good, .slice B lb d] 24)).cell? ⟨w.heap.size, 5, none⟩ = some (.int .i64 a.to) := by rw [HW2.out]; exact cell_at (HCA.out W2 (Below.refl _ _)) 5
  have ra6 : ((w.alloc (.cells #[.int .i64 a.client, .int .i64 a.number, .int .i64 a.kind, .int .i64 a.order, .int .i64 a.region, .int .i64 a.to, .int .i64 a.n, .string a.good, .slice A la c] 24)).alloc (.cells #[.int .i64 b.client, .int .i64 b.number, .int .i64 b.kind, .int .i64 b.order, .int .i64 b.region, .int .i64 b.to, .int .i64 b.n, .string b.good, .slice B lb d] 24)).cell? ⟨w.heap.size, 6, none⟩ = some (.int .i64 a.n) := by rw [HW2.out]; exact cell_at (HCA.out W2 (Below.refl _ _)) 6
  have ra7 : ((w.alloc (.cells #[.int .i64 a.client, .int .i64 a.number, .int .i64 a.kind, .int .i64 a.order, .int .i64 a.region, .int .i64 a.to, .int .i64 a.n, .string a.good, .slice A la c] 24)).alloc (.cells #[.int .i64 b.client, .int .i64 b.number, .int .i64 b.kind, .int .i64 b.order, .int .i64 b.region, .int .i64 b.to, .int .i64 b.n, .string b.good, .slice B lb d] 24)).cell? ⟨w.heap.size, 7, none⟩ = some (.string a.good) := by rw [HW2.out]; exact cell_at (HCA.out W2 (Below.refl _ _)) 7
  have ra8 : ((w.alloc (.cells #[.int .i64 a.client, .int .i64 a.number, .int .i64 a.kind, .int .i64 a.order, .int .i64 a.region, .int .i64 a.to, .int .i64 a.n, .string a.good, .slice A la c] 24)).alloc (.cells #[.int .i64 b.client, .int .i64 b.number, .int .i64 b.kind, .int .i64 b.order, .int .i64 b.region, .int .i64 b.to, .int .i64 b.n, .string b.good, .slice B lb d] 24)).cell? ⟨w.heap.size, 8, none⟩ = some (.slice A la c) := by rw [HW2.out]; exact cell_at (HCA.out W2 (Below.refl _ _)) 8
  have rb0 : ((w.alloc (.cells #[.int .i64 a.client, .int .i64 a.number, .int .i64 a.kind, .int .i64 a.order, .int .i64 a.region, .int .i64 a.to, .int .i64 a.n, .string a.good, .slice A la c] 24)).alloc (.cells #[.int .i64 b.client, .int .i64 b.number, .int .i64 b.kind, .int .i64 b.order, .int .i64 b.region, .int .i64 b.to, .int .i64 b.n, .string b.good, .slice B lb d] 24)).cell? ⟨w.heap.size + 1, 0, none⟩ = some (.int .i64 b.client) := by rw [HW2.out]; exact cell_at (HCB.out W2 (Below.refl _ _)) 0
  have rb1 : ((w.alloc (.cells #[.int .i64 a.client, .int .i64 a.number, .int .i64 a.kind, .int .i64 a.order, .int .i64 a.region, .int .i64 a.to, .int .i64 a.n, .string a.good, .slice A la c] 24)).alloc (.cells #[.int .i64 b.client, .int .i64 b.number, .int .i64 b.kind, .int .i64 b.order, .int .i64 b.region, .int .i64 b.to, .int .i64 b.n, .string b.good, .slice B lb d] 24)).cell? ⟨w.heap.size + 1, 1, none⟩ = some (.int .i64 b.number) := by rw [HW2.out]; exact cell_at (HCB.out W2 (Below.refl _ _)) 1
  have rb2 : ((w.alloc (.cells #[.int .i64 a.client, .int .i64 a.number, .int .i64 a.kind, .int .i64 a.order, .int .i64 a.region, .int .i64 a.to, .int .i64 a.n, .string a.good, .slice A la c] 24)).alloc (.cells #[.int .i64 b.client, .int .i64 b.number, .int .i64 b.kind, .int .i64 b.order, .int .i64 b.region, .int .i64 b.to, .int .i64 b.n, .string b.good, .slice B lb d] 24)).cell? ⟨w.heap.size + 1, 2, none⟩ = some (.int .i64 b.kind) := by rw [HW2.out]; exact cell_at (HCB.out W2 (Below.refl _ _)) 2
  have rb3 : ((w.alloc (.cells #[.int .i64 a.client, .int .i64 a.number, .int .i64 a.kind, .int .i64 a.order, .int .i64 a.region, .int .i64 a.to, .int .i64 a.n, .string a.good, .slice A la c] 24)).alloc (.cells #[.int .i64 b.client, .int .i64 b.number, .int .i64 b.kind, .int .i64 b.order, .int .i64 b.region, .int .i64 b.to, .int .i64 b.n, .string b.good, .slice B lb d] 24)).cell? ⟨w.heap.size + 1, 3, none⟩ = some (.int .i64 b.order) := by rw [HW2.out]; exact cell_at (HCB.out W2 (Below.refl _ _)) 3
  have rb4 : ((w.alloc (.cells #[.int .i64 a.client, .int .i64 a.number, .int .i64 a.kind, .int .i64 a.order, .int .i64 a.region, .int .i64 a.to, .int .i64 a.n, .string a.good, .slice A la c] 24)).alloc (.cells #[.int .i64 b.client, .int .i64 b.number, .int .i64 b.kind, .int .i64 b.order, .int .i64 b.region, .int .i64 b.to, .int .i64 b.n, .string b.good, .slice B lb d] 24)).cell? ⟨w.heap.size + 1, 4, none⟩ = some (.int .i64 b.region) := by rw [HW2.out]; exact cell_at (HCB.out W2 (Below.refl _ _)) 4
  have rb5 : ((w.alloc (.cells #[.int .i64 a.client, .int .i64 a.number, .int .i64 a.kind, .int .i64 a.order, .int .i64 a.region, .int .i64 a.to, .int .i64 a.n, .string a.good, .slice A la c] 24)).alloc (.cells #[.int .i64 b.client, .int .i64 b.number, .int .i64 b.kind, .int .i64 b.order, .int .i64 b.region, .int .i64 b.to, .int .i64 b.n, .string b.good, .slice B lb d] 24)).cell? ⟨w.heap.size + 1, 5, none⟩ = some (.int .i64 b.to) := by rw [HW2.out]; exact cell_at (HCB.out W2 (Below.refl _ _)) 5
  have rb6 : ((w.alloc (.cells #[.int .i64 a.client, .int .i64 a.number, .int .i64 a.kind, .int .i64 a.order, .int .i64 a.region, .int .i64 a.to, .int .i64 a.n, .string a.good, .slice A la c] 24)).alloc (.cells #[.int .i64 b.client, .int .i64 b.number, .int .i64 b.kind, .int .i64 b.order, .int .i64 b.region, .int .i64 b.to, .int .i64 b.n, .string b.good, .slice B lb d] 24)).cell? ⟨w.heap.size + 1, 6, none⟩ = some (.int .i64 b.n) := by rw [HW2.out]; exact cell_at (HCB.out W2 (Below.refl _ _)) 6
  have rb7 : ((w.alloc (.cells #[.int .i64 a.client, .int .i64 a.number, .int .i64 a.kind, .int .i64 a.order, .int .i64 a.region, .int .i64 a.to, .int .i64 a.n, .string a.good, .slice A la c] 24)).alloc (.cells #[.int .i64 b.client, .int .i64 b.number, .int .i64 b.kind, .int .i64 b.order, .int .i64 b.region, .int .i64 b.to, .int .i64 b.n, .string b.good, .slice B lb d] 24)).cell? ⟨w.heap.size + 1, 7, none⟩ = some (.string b.good) := by rw [HW2.out]; exact cell_at (HCB.out W2 (Below.refl _ _)) 7
  have rb8 : ((w.alloc (.cells #[.int .i64 a.client, .int .i64 a.number, .int .i64 a.kind, .int .i64 a.order, .int .i64 a.region, .int .i64 a.to, .int .i64 a.n, .string a.good, .slice A la c] 24)).alloc (.cells #[.int .i64 b.client, .int .i64 b.number, .int .i64 b.kind, .int .i64 b.order, .int .i64 b.region, .int .i64 b.to, .int .i64 b.n, .string b.good, .slice B lb d] 24)).cell? ⟨w.heap.size + 1, 8, none⟩ = some (.slice B lb d) := by rw [HW2.out]; exact cell_at (HCB.out W2 (Below.refl _ _)) 8
  go_enter Try.func6, Try.ntmps6
  by_cases h1 : (100 : Int) < la
  · go_wp2_with fail
    rw [HW2.out]
    refine (alives_any W2).mono ?_
    rintro e w3 ⟨rfl, hb⟩
    have HC3 := Lib.hid hb
    clear hb ra0 ra1 ra2 ra3 ra4 ra5 ra6 ra7 ra8 rb0 rb1 rb2 rb3 rb4 rb5 rb6 rb7 rb8
    go_wp2
    go_ret
    exact ⟨ret_bool (by simp), HB2.out.trans (HC3.out.mono HB2.out.size)⟩
  by_cases h2 : (100 : Int) < lb
  · go_wp2_with fail
    rw [HW2.out]
    refine (alives_any W2).mono ?_
    rintro e w3 ⟨rfl, hb⟩
    have HC3 := Lib.hid hb
    clear hb ra0 ra1 ra2 ra3 ra4 ra5 ra6 ra7 ra8 rb0 rb1 rb2 rb3 rb4 rb5 rb6 rb7 rb8
    go_wp2
    go_ret
    exact ⟨ret_bool (by simp), HB2.out.trans (HC3.out.mono HB2.out.size)⟩
  go_wp2_with fail
  rw [HW2.out]
  refine (HEA.out W2 HB2.out).mono ?_
  rintro e w3 ⟨x1, rfl, hx1, hb⟩
  obtain ⟨MA, hMA⟩ : ∃ MA, mayA a = MA := ⟨_, rfl⟩
  rw [hMA]
  have HMA := Lib.hid hMA
  obtain ⟨E1, hE1⟩ : ∃ E1 : Int, (if MA = true then 0 else 1) = E1 := ⟨_, rfl⟩
  rw [hE1]
  have HE1 := Lib.hid hE1
  have HX1 := Lib.hid hx1
  have HC3 := Lib.hid hb
  obtain ⟨A1, c1, rfl, q1, q2, q3⟩ := hx1
  clear hb hMA hE1 q1 q2 q3 ra0 ra1 ra2 ra3 ra4 ra5 ra6 ra7 ra8 rb0 rb1 rb2 rb3 rb4 rb5 rb6 rb7 rb8
  have a0 := cell_at (HCA.out w3 HC3.out) 0
  have a1 := cell_at (HCA.out w3 HC3.out) 1
  have a2 := cell_at (HCA.out w3 HC3.out) 2
  have a3 := cell_at (HCA.out w3 HC3.out) 3
  have a4 := cell_at (HCA.out w3 HC3.out) 4
  have a5 := cell_at (HCA.out w3 HC3.out) 5
  have a6 := cell_at (HCA.out w3 HC3.out) 6
  have a7 := cell_at (HCA.out w3 HC3.out) 7
  have a8 := cell_at (HCA.out w3 HC3.out) 8
  have b0 := cell_at (HCB.out w3 HC3.out) 0
  have b1 := cell_at (HCB.out w3 HC3.out) 1
  have b2 := cell_at (HCB.out w3 HC3.out) 2
  have b3 := cell_at (HCB.out w3 HC3.out) 3
  have b4 := cell_at (HCB.out w3 HC3.out) 4
  have b5 := cell_at (HCB.out w3 HC3.out) 5
  have b6 := cell_at (HCB.out w3 HC3.out) 6
  have b7 := cell_at (HCB.out w3 HC3.out) 7
  have b8 := cell_at (HCB.out w3 HC3.out) 8
  go_wp2_with fail
  refine (HEB.out w3 (HB2.out.trans (HC3.out.mono HB2.out.size))).mono ?_
  rintro e w4 ⟨x2, rfl, hx2, hb⟩
  obtain ⟨MB, hMB⟩ : ∃ MB, mayA b = MB := ⟨_, rfl⟩
  rw [hMB]
  have HMB := Lib.hid hMB
  obtain ⟨E2, hE2⟩ : ∃ E2 : Int, (if MB = true then 0 else 1) = E2 := ⟨_, rfl⟩
  rw [hE2]
  have HE2 := Lib.hid hE2
  have HX2 := Lib.hid hx2
  have HX1 := Lib.hid (HX1.out.below hb)
  have HC4 := Lib.hid (HC3.out.trans (hb.mono HC3.out.size))
  obtain ⟨A2, c2, rfl, q1, q2, q3⟩ := hx2
  clear hb hMB hE2 q1 q2 q3 a0 a1 a2 a3 a4 a5 a6 a7 a8 b0 b1 b2 b3 b4 b5 b6 b7 b8
  rw [HMA.out, HMB.out] at HQ
  have a0 := cell_at (HCA.out w4 HC4.out) 0
  have a1 := cell_at (HCA.out w4 HC4.out) 1
  have a2 := cell_at (HCA.out w4 HC4.out) 2
  have a3 := cell_at (HCA.out w4 HC4.out) 3
  have a4 := cell_at (HCA.out w4 HC4.out) 4
  have a5 := cell_at (HCA.out w4 HC4.out) 5
  have a6 := cell_at (HCA.out w4 HC4.out) 6
  have a7 := cell_at (HCA.out w4 HC4.out) 7
  have a8 := cell_at (HCA.out w4 HC4.out) 8
  have b0 := cell_at (HCB.out w4 HC4.out) 0
  have b1 := cell_at (HCB.out w4 HC4.out) 1
  have b2 := cell_at (HCB.out w4 HC4.out) 2
  have b3 := cell_at (HCB.out w4 HC4.out) 3
  have b4 := cell_at (HCB.out w4 HC4.out) 4
  have b5 := cell_at (HCB.out w4 HC4.out) 5
  have b6 := cell_at (HCB.out w4 HC4.out) 6
  have b7 := cell_at (HCB.out w4 HC4.out) 7
  have b8 := cell_at (HCB.out w4 HC4.out) 8
  go_wp2_with fail
  refine (HXS.out w4 (HB2.out.trans (HC4.out.mono HB2.out.size))).mono ?_
  rintro e w5 ⟨rfl, hb⟩
  have HX1 := Lib.hid (HX1.out.below hb)
  have HX2 := Lib.hid (HX2.out.below hb)
  have HC5 := Lib.hid (HC4.out.trans (hb.mono HC4.out.size))
  clear hb a0 a1 a2 a3 a4 a5 a6 a7 a8 b0 b1 b2 b3 b4 b5 b6 b7 b8
  have a0 := cell_at (HCA.out w5 HC5.out) 0
  have a1 := cell_at (HCA.out w5 HC5.out) 1
  have a2 := cell_at (HCA.out w5 HC5.out) 2
  have a3 := cell_at (HCA.out w5 HC5.out) 3
  have a4 := cell_at (HCA.out w5 HC5.out) 4
  have a5 := cell_at (HCA.out w5 HC5.out) 5
  have a6 := cell_at (HCA.out w5 HC5.out) 6
  have a7 := cell_at (HCA.out w5 HC5.out) 7
  have a8 := cell_at (HCA.out w5 HC5.out) 8
  have b0 := cell_at (HCB.out w5 HC5.out) 0
  have b1 := cell_at (HCB.out w5 HC5.out) 1
  have b2 := cell_at (HCB.out w5 HC5.out) 2
  have b3 := cell_at (HCB.out w5 HC5.out) 3
  have b4 := cell_at (HCB.out w5 HC5.out) 4
  have b5 := cell_at (HCB.out w5 HC5.out) 5
  have b6 := cell_at (HCB.out w5 HC5.out) 6
  have b7 := cell_at (HCB.out w5 HC5.out) 7
  have b8 := cell_at (HCB.out w5 HC5.out) 8
  go_wp2_with fail
  refine (alives_any w5).mono ?_
  rintro e w6 ⟨rfl, hb⟩
  have HX1 := Lib.hid (HX1.out.below hb)
  have HX2 := Lib.hid (HX2.out.below hb)
  have HC6 := Lib.hid (HC5.out.trans (hb.mono HC5.out.size))
  clear hb a0 a1 a2 a3 a4 a5 a6 a7 a8 b0 b1 b2 b3 b4 b5 b6 b7 b8
  have a0 := cell_at (HCA.out w6 HC6.out) 0
  have a1 := cell_at (HCA.out w6 HC6.out) 1
  have a2 := cell_at (HCA.out w6 HC6.out) 2
  have a3 := cell_at (HCA.out w6 HC6.out) 3
  have a4 := cell_at (HCA.out w6 HC6.out) 4
  have a5 := cell_at (HCA.out w6 HC6.out) 5
  have a6 := cell_at (HCA.out w6 HC6.out) 6
  have a7 := cell_at (HCA.out w6 HC6.out) 7
  have a8 := cell_at (HCA.out w6 HC6.out) 8
  have b0 := cell_at (HCB.out w6 HC6.out) 0
  have b1 := cell_at (HCB.out w6 HC6.out) 1
  have b2 := cell_at (HCB.out w6 HC6.out) 2
  have b3 := cell_at (HCB.out w6 HC6.out) 3
  have b4 := cell_at (HCB.out w6 HC6.out) 4
  have b5 := cell_at (HCB.out w6 HC6.out) 5
  have b6 := cell_at (HCB.out w6 HC6.out) 6
  have b7 := cell_at (HCB.out w6 HC6.out) 7
  have b8 := cell_at (HCB.out w6 HC6.out) 8
  go_wp2_with fail
  refine (HAS.out w6 (HB2.out.trans (HC6.out.mono HB2.out.size))).mono ?_
  rintro e w7 ⟨rfl, hb⟩
  have HX1 := Lib.hid (HX1.out.below hb)
  have HX2 := Lib.hid (HX2.out.below hb)
  have HC7 := Lib.hid (HC6.out.trans (hb.mono HC6.out.size))
  clear hb a0 a1 a2 a3 a4 a5 a6 a7 a8 b0 b1 b2 b3 b4 b5 b6 b7 b8
  go_wp2_with fail
  refine (has_any k w7).mono ?_
  rintro e w77 ⟨rfl, rfl⟩
  go_wp2_with fail
  refine (xhas_any k w7).mono ?_
  rintro e w8 ⟨rfl, hb⟩
  have HX1 := Lib.hid (HX1.out.below hb)
  have HX2 := Lib.hid (HX2.out.below hb)
  have HC8 := Lib.hid (HC7.out.trans (hb.mono HC7.out.size))
  obtain ⟨K, hK⟩ : ∃ K, hasA k = K := ⟨_, rfl⟩
  rw [hK]
  clear hb hK
  cases MA
  · obtain rfl : E1 = 1 := HE1.out.symm
    go_wp2
    go_ret
    exact ⟨ret_bool (by simp), HB2.out.trans (HC8.out.mono HB2.out.size)⟩
  cases MB
  · obtain rfl : E1 = 0 := HE1.out.symm
    obtain rfl : E2 = 1 := HE2.out.symm
    go_wp2
    go_ret
    exact ⟨ret_bool (by simp), HB2.out.trans (HC8.out.mono HB2.out.size)⟩
  obtain rfl : E1 = 0 := HE1.out.symm
  obtain rfl : E2 = 0 := HE2.out.symm
  obtain ⟨A1', c1', e1, _, _, r1⟩ := HX1.out
  cases e1
  obtain ⟨A2', c2', e2, _, _, r2⟩ := HX2.out
  cases e2
  obtain ⟨S1, hS1⟩ : ∃ S1, strOf (codeA a) = S1 := ⟨_, rfl⟩
  obtain ⟨S2, hS2⟩ : ∃ S2, strOf (codeA b) = S2 := ⟨_, rfl⟩
  have s1 := hS1 ▸ run_str w8 A1 _ c1 (codeA a) r1 HBA.out
  have s2 := hS2 ▸ run_str w8 A2 _ c2 (codeA b) r2 HBB.out
  have hq := HQ.out rfl rfl
  rw [hS1, hS2] at hq
  clear r1 r2 hS1 hS2
  go_wp2
  go_ret
  exact ⟨ret_bool (by simp), HB2.out.trans (HC8.out.mono HB2.out.size)⟩
end Go.Proofs.Ytjgdcdojigcefaa
