/- Joined: Mails compared: mail.Same and the reference's. mail.mayAnswer. -/
import Derived.Test.YtpccbobomppdbaaZR11
import Derived.Test.YtpccbobomppdbaaZR8
namespace Go.Proofs.Ytpccbobomppdbaa
open Go.RowKit

/-- A mail, as a value. -/
abbrev mlV (m : Ml) (v va : Value) : Value := .agg #[.int .i64 m.kind, .int .i64 m.order, v, .int .i64 m.ask.client, .int .i64 m.ask.number, .int .i64 m.ask.kind, .int .i64 m.ask.order, .int .i64 m.ask.region, .int .i64 m.ask.to, .int .i64 m.ask.n, .string m.ask.good, va, .int .i64 m.yc, .int .i64 m.yn, .int .i64 m.yd, .int .i64 m.yN]
def eqY (a b : Ml) : Bool := (a.yc == b.yc) && ((a.yn == b.yn) && ((a.yd == b.yd) && (a.yN == b.yN)))
def eqM (a b : Ml) : Bool := (a.kind == b.kind) && ((a.order == b.order) && (eqI a.items b.items && (eqA a.ask b.ask && eqY a b)))
theorem eqM_iff {a b : Ml} : eqM a b = true ↔ a = b := by
  obtain ⟨a1, a2, a3, a4, a5, a6, a7, a8⟩ := a
  obtain ⟨b1, b2, b3, b4, b5, b6, b7, b8⟩ := b
  unfold eqM eqY
  simp only [Bool.and_eq_true, beq_iff_eq, eqI_iff, eqA_iff, Ml.mk.injEq]
theorem eq_ans (x y : Operand) (a b : Ml) (w : World) :
    (eqGuard .eql 27 x y (.agg #[.int .i64 a.yc, .int .i64 a.yn, .int .i64 a.yd, .int .i64 a.yN]) (.agg #[.int .i64 b.yc, .int .i64 b.yn, .int .i64 b.yd, .int .i64 b.yN])).run Try.prog w = .ok () w ∧ (binOp .eql 27 (.agg #[.int .i64 a.yc, .int .i64 a.yn, .int .i64 a.yd, .int .i64 a.yN]) (.agg #[.int .i64 b.yc, .int .i64 b.yn, .int .i64 b.yd, .int .i64 b.yN])).run Try.prog w = .ok (.bool (eqY a b)) w := by
  refine ⟨run_eqGuard_agg _ _ _ _ _ _ _ (by kernel_rfl), ?_⟩
  rw [run_eql_struct, run_equalIn_struct _ 9999 _ _ _ (by kernel_rfl) (by kernel_rfl)]
  simp only [Program.fieldsOf, Try.underlying27]
  unfold eqY
  cases h1 : (a.yc == b.yc) <;> cases h2 : (a.yn == b.yn) <;> cases h3 : (a.yd == b.yd) <;> cases h4 : (a.yN == b.yN) <;> go_simp
set_option maxRecDepth 100000 in
set_option maxHeartbeats 2000000 in
theorem xmsame_any (a b : Ml) (A A' : Option Addr) (c c' : Nat) (B B' : Option Addr) (d d' : Nat) (w : World) (hr : Rd w 2 A a.items.length (a.items.flatMap encI)) (hr' : Rd w 2 A' a.ask.items.length (a.ask.items.flatMap encI)) (hs : Rd w 2 B b.items.length (b.items.flatMap encI)) (hs' : Rd w 2 B' b.ask.items.length (b.ask.items.flatMap encI)) (hm : a.items.length ≤ 4611686018427387903) (hm' : a.ask.items.length ≤ 4611686018427387903) :
    Calls Try.prog 9 #[mlV a (.slice A a.items.length c) (.slice A' a.ask.items.length c'), mlV b (.slice B b.items.length d) (.slice B' b.ask.items.length d')] w fun e W => e = .returned (.bool (eqM a b)) ∧ Below w.heap.size w W := by
  have HI := Lib.hid (fun W (hW : Below w.heap.size w W) => xeqI_any A c B d a.items b.items W (hr.below hW) (hs.below hW) hm)
  have HA := Lib.hid (fun W (hW : Below w.heap.size w W) => xsameA_any a.ask b.ask A' c' B' d' W (hr'.below hW) (hs'.below hW) hm')
  obtain ⟨E1, hE1⟩ : ∃ E, (a.kind == b.kind) = E := ⟨_, rfl⟩
  obtain ⟨E2, hE2⟩ : ∃ E, (a.order == b.order) = E := ⟨_, rfl⟩
  obtain ⟨E3, hE3⟩ : ∃ E, eqI a.items b.items = E := ⟨_, rfl⟩
  obtain ⟨E4, hE4⟩ : ∃ E, eqA a.ask b.ask = E := ⟨_, rfl⟩
  obtain ⟨F1, hF1⟩ : ∃ E, (a.yc == b.yc) = E := ⟨_, rfl⟩
  obtain ⟨F2, hF2⟩ : ∃ E, (a.yn == b.yn) = E := ⟨_, rfl⟩
  obtain ⟨F3, hF3⟩ : ∃ E, (a.yd == b.yd) = E := ⟨_, rfl⟩
  obtain ⟨F4, hF4⟩ : ∃ E, (a.yN == b.yN) = E := ⟨_, rfl⟩
  have HE : Hid (eqM a b = (E1 && (E2 && (E3 && (E4 && (F1 && (F2 && (F3 && F4)))))))) := Lib.hid (by rw [← hE1, ← hE2, ← hE3, ← hE4, ← hF1, ← hF2, ← hF3, ← hF4]; rfl)
  obtain ⟨EM, hEM⟩ : ∃ E, eqM a b = E := ⟨_, rfl⟩
  obtain ⟨la, hla⟩ : ∃ l, a.items.length = l := ⟨_, rfl⟩
  obtain ⟨lb, hlb⟩ : ∃ l, b.items.length = l := ⟨_, rfl⟩
  obtain ⟨ka, hka⟩ : ∃ l, a.ask.items.length = l := ⟨_, rfl⟩
  obtain ⟨kb, hkb⟩ : ∃ l, b.ask.items.length = l := ⟨_, rfl⟩
  rw [hE3, hla, hlb] at HI
  rw [hE4, hka, hkb] at HA
  rw [hEM] at HE ⊢
  rw [hla, hlb, hka, hkb]
  show Calls Try.prog 9 #[.agg #[.int .i64 a.kind, .int .i64 a.order, .slice A la c, .int .i64 a.ask.client, .int .i64 a.ask.number, .int .i64 a.ask.kind, .int .i64 a.ask.order, .int .i64 a.ask.region, .int .i64 a.ask.to, .int .i64 a.ask.n, .string a.ask.good, .slice A' ka c', .int .i64 a.yc, .int .i64 a.yn, .int .i64 a.yd, .int .i64 a.yN], .agg #[.int .i64 b.kind, .int .i64 b.order, .slice B lb d, .int .i64 b.ask.client, .int .i64 b.ask.number, .int .i64 b.ask.kind, .int .i64 b.ask.order, .int .i64 b.ask.region, .int .i64 b.ask.to, .int .i64 b.ask.n, .string b.ask.good, .slice B' kb d', .int .i64 b.yc, .int .i64 b.yn, .int .i64 b.yd, .int .i64 b.yN]] w _
  obtain ⟨W2, hW2⟩ : ∃ W2, (w.alloc (.cells #[.int .i64 a.kind, .int .i64 a.order, .slice A la c, .int .i64 a.ask.client, .int .i64 a.ask.number, .int .i64 a.ask.kind, .int .i64 a.ask.order, .int .i64 a.ask.region, .int .i64 a.ask.to, .int .i64 a.ask.n, .string a.ask.good, .slice A' ka c', .int .i64 a.yc, .int .i64 a.yn, .int .i64 a.yd, .int .i64 a.yN] 29)).alloc (.cells #[.int .i64 b.kind, .int .i64 b.order, .slice B lb d, .int .i64 b.ask.client, .int .i64 b.ask.number, .int .i64 b.ask.kind, .int .i64 b.ask.order, .int .i64 b.ask.region, .int .i64 b.ask.to, .int .i64 b.ask.n, .string b.ask.good, .slice B' kb d', .int .i64 b.yc, .int .i64 b.yn, .int .i64 b.yd, .int .i64 b.yN] 29) = W2 := ⟨_, rfl⟩
  have ka0 := block_alloc (block_new w (.cells #[.int .i64 a.kind, .int .i64 a.order, .slice A la c, .int .i64 a.ask.client, .int .i64 a.ask.number, .int .i64 a.ask.kind, .int .i64 a.ask.order, .int .i64 a.ask.region, .int .i64 a.ask.to, .int .i64 a.ask.n, .string a.ask.good, .slice A' ka c', .int .i64 a.yc, .int .i64 a.yn, .int .i64 a.yd, .int .i64 a.yN] 29)) (.cells #[.int .i64 b.kind, .int .i64 b.order, .slice B lb d, .int .i64 b.ask.client, .int .i64 b.ask.number, .int .i64 b.ask.kind, .int .i64 b.ask.order, .int .i64 b.ask.region, .int .i64 b.ask.to, .int .i64 b.ask.n, .string b.ask.good, .slice B' kb d', .int .i64 b.yc, .int .i64 b.yn, .int .i64 b.yd, .int .i64 b.yN] 29)
  have kb0 := block_new (w.alloc (.cells #[.int .i64 a.kind, .int .i64 a.order, .slice A la c, .int .i64 a.ask.client, .int .i64 a.ask.number, .int .i64 a.ask.kind, .int .i64 a.ask.order, .int .i64 a.ask.region, .int .i64 a.ask.to, .int .i64 a.ask.n, .string a.ask.good, .slice A' ka c', .int .i64 a.yc, .int .i64 a.yn, .int .i64 a.yd, .int .i64 a.yN] 29)) (.cells #[.int .i64 b.kind, .int .i64 b.order, .slice B lb d, .int .i64 b.ask.client, .int .i64 b.ask.number, .int .i64 b.ask.kind, .int .i64 b.ask.order, .int .i64 b.ask.region, .int .i64 b.ask.to, .int .i64 b.ask.n, .string b.ask.good, .slice B' kb d', .int .i64 b.yc, .int .i64 b.yn, .int .i64 b.yd, .int .i64 b.yN] 29)
  have hb0 := ((Below.refl _ w).alloc (Nat.le_refl _) (.cells #[.int .i64 a.kind, .int .i64 a.order, .slice A la c, .int .i64 a.ask.client, .int .i64 a.ask.number, .int .i64 a.ask.kind, .int .i64 a.ask.order, .int .i64 a.ask.region, .int .i64 a.ask.to, .int .i64 a.ask.n, .string a.ask.good, .slice A' ka c', .int .i64 a.yc, .int .i64 a.yn, .int .i64 a.yd, .int .i64 a.yN] 29)).alloc (by simp) (.cells #[.int .i64 b.kind, .int .i64 b.order, .slice B lb d, .int .i64 b.ask.client, .int .i64 b.ask.number, .int .i64 b.ask.kind, .int .i64 b.ask.order, .int .i64 b.ask.region, .int .i64 b.ask.to, .int .i64 b.ask.n, .string b.ask.good, .slice B' kb d', .int .i64 b.yc, .int .i64 b.yn, .int .i64 b.yd, .int .i64 b.yN] 29)
  have HBB := Lib.hid hb0
  simp only [World.size_alloc] at kb0
  rw [hW2] at ka0 kb0 hb0
  have HB2 := Lib.hid hb0
  have HCA : Hid (∀ W, Below W2.heap.size W2 W → W.heap[w.heap.size]? = some (.cells #[.int .i64 a.kind, .int .i64 a.order, .slice A la c, .int .i64 a.ask.client, .int .i64 a.ask.number, .int .i64 a.ask.kind, .int .i64 a.ask.order, .int .i64 a.ask.region, .int .i64 a.ask.to, .int .i64 a.ask.n, .string a.ask.good, .slice A' ka c', .int .i64 a.yc, .int .i64 a.yn, .int .i64 a.yd, .int .i64 a.yN] 29 (0, 0))) := Lib.hid (fun W hW => (hW.block _ (lt_of_block ka0)).trans ka0)
  have HCB : Hid (∀ W, Below W2.heap.size W2 W → W.heap[w.heap.size + 1]? = some (.cells #[.int .i64 b.kind, .int .i64 b.order, .slice B lb d, .int .i64 b.ask.client, .int .i64 b.ask.number, .int .i64 b.ask.kind, .int .i64 b.ask.order, .int .i64 b.ask.region, .int .i64 b.ask.to, .int .i64 b.ask.n, .string b.ask.good, .slice B' kb d', .int .i64 b.yc, .int .i64 b.yn, .int .i64 b.yd, .int .i64 b.yN] 29 (0, 0))) := Lib.hid (fun W hW => (hW.block _ (lt_of_block kb0)).trans kb0)
  have HW2 := Lib.hid hW2
  clear hE3 hE4 hEM hla hlb hka hkb hr hr' hs hs' hm hm' hW2 ka0 kb0 hb0
  go_enter Try.func9, Try.ntmps9
  cases E1
  case false =>
    go_wp2
    go_ret
    exact ⟨ret_bool HE.out.symm, HBB.out⟩
  cases E2
  case false =>
    go_wp2
    go_ret
    exact ⟨ret_bool HE.out.symm, HBB.out⟩
  go_wp2_with fail
  rw [HW2.out]
  refine (HI.out W2 HB2.out).mono ?_
  rintro e w1 ⟨rfl, hb⟩
  have HC1 := Lib.hid hb
  clear hb
  cases E3
  case false =>
    go_wp2
    go_ret
    exact ⟨ret_bool HE.out.symm, HB2.out.trans (HC1.out.mono HB2.out.size)⟩
  have a3 := cell_at (HCA.out w1 HC1.out) 3
  have a4 := cell_at (HCA.out w1 HC1.out) 4
  have a5 := cell_at (HCA.out w1 HC1.out) 5
  have a6 := cell_at (HCA.out w1 HC1.out) 6
  have a7 := cell_at (HCA.out w1 HC1.out) 7
  have a8 := cell_at (HCA.out w1 HC1.out) 8
  have a9 := cell_at (HCA.out w1 HC1.out) 9
  have a10 := cell_at (HCA.out w1 HC1.out) 10
  have a11 := cell_at (HCA.out w1 HC1.out) 11
  have b3 := cell_at (HCB.out w1 HC1.out) 3
  have b4 := cell_at (HCB.out w1 HC1.out) 4
  have b5 := cell_at (HCB.out w1 HC1.out) 5
  have b6 := cell_at (HCB.out w1 HC1.out) 6
  have b7 := cell_at (HCB.out w1 HC1.out) 7
  have b8 := cell_at (HCB.out w1 HC1.out) 8
  have b9 := cell_at (HCB.out w1 HC1.out) 9
  have b10 := cell_at (HCB.out w1 HC1.out) 10
  have b11 := cell_at (HCB.out w1 HC1.out) 11
  go_wp2_with fail
  refine (HA.out w1 (HB2.out.trans (HC1.out.mono HB2.out.size))).mono ?_
  rintro e w2 ⟨rfl, hb⟩
  have HC2 := Lib.hid (HC1.out.trans (hb.mono HC1.out.size))
  clear hb a3 a4 a5 a6 a7 a8 a9 a10 a11 b3 b4 b5 b6 b7 b8 b9 b10 b11
  cases E4
  case false =>
    go_wp2
    go_ret
    exact ⟨ret_bool HE.out.symm, HB2.out.trans (HC2.out.mono HB2.out.size)⟩
  have a12 := cell_at (HCA.out w2 HC2.out) 12
  have a13 := cell_at (HCA.out w2 HC2.out) 13
  have a14 := cell_at (HCA.out w2 HC2.out) 14
  have a15 := cell_at (HCA.out w2 HC2.out) 15
  have b12 := cell_at (HCB.out w2 HC2.out) 12
  have b13 := cell_at (HCB.out w2 HC2.out) 13
  have b14 := cell_at (HCB.out w2 HC2.out) 14
  have b15 := cell_at (HCB.out w2 HC2.out) 15
  cases F1
  case false =>
    go_wp2
    go_ret
    exact ⟨ret_bool HE.out.symm, HB2.out.trans (HC2.out.mono HB2.out.size)⟩
  cases F2
  case false =>
    go_wp2
    go_ret
    exact ⟨ret_bool HE.out.symm, HB2.out.trans (HC2.out.mono HB2.out.size)⟩
  cases F3
  case false =>
    go_wp2
    go_ret
    exact ⟨ret_bool HE.out.symm, HB2.out.trans (HC2.out.mono HB2.out.size)⟩
  cases F4
  case false =>
    go_wp2
    go_ret
    exact ⟨ret_bool HE.out.symm, HB2.out.trans (HC2.out.mono HB2.out.size)⟩
  go_wp2
  go_ret
  exact ⟨ret_bool HE.out.symm, HB2.out.trans (HC2.out.mono HB2.out.size)⟩
set_option maxRecDepth 100000 in
set_option maxHeartbeats 2000000 in
theorem msame_any (a b : Ml) (A A' : Option Addr) (c c' : Nat) (B B' : Option Addr) (d d' : Nat) (w : World) (hr : Rd w 2 A a.items.length (a.items.flatMap encI)) (hr' : Rd w 2 A' a.ask.items.length (a.ask.items.flatMap encI)) (hs : Rd w 2 B b.items.length (b.items.flatMap encI)) (hs' : Rd w 2 B' b.ask.items.length (b.ask.items.flatMap encI)) (hm : a.items.length ≤ 4611686018427387903) (hm' : a.ask.items.length ≤ 4611686018427387903) :
    Calls Try.prog 10 #[mlV a (.slice A a.items.length c) (.slice A' a.ask.items.length c'), mlV b (.slice B b.items.length d) (.slice B' b.ask.items.length d')] w fun e W => e = .returned (.bool (eqM a b)) ∧ Below w.heap.size w W := by
  have HI := Lib.hid (fun W (hW : Below w.heap.size w W) => eqI_any A c B d a.items b.items W (hr.below hW) (hs.below hW) hm)
  have HA := Lib.hid (fun W (hW : Below w.heap.size w W) => asame_any a.ask b.ask A' c' B' d' W (hr'.below hW) (hs'.below hW) hm')
  obtain ⟨E1, hE1⟩ : ∃ E, (a.kind == b.kind) = E := ⟨_, rfl⟩
  obtain ⟨E2, hE2⟩ : ∃ E, (a.order == b.order) = E := ⟨_, rfl⟩
  obtain ⟨E3, hE3⟩ : ∃ E, eqI a.items b.items = E := ⟨_, rfl⟩
  obtain ⟨E4, hE4⟩ : ∃ E, eqA a.ask b.ask = E := ⟨_, rfl⟩
  obtain ⟨F1, hF1⟩ : ∃ E, (a.yc == b.yc) = E := ⟨_, rfl⟩
  obtain ⟨F2, hF2⟩ : ∃ E, (a.yn == b.yn) = E := ⟨_, rfl⟩
  obtain ⟨F3, hF3⟩ : ∃ E, (a.yd == b.yd) = E := ⟨_, rfl⟩
  obtain ⟨F4, hF4⟩ : ∃ E, (a.yN == b.yN) = E := ⟨_, rfl⟩
  have HE : Hid (eqM a b = (E1 && (E2 && (E3 && (E4 && (F1 && (F2 && (F3 && F4)))))))) := Lib.hid (by rw [← hE1, ← hE2, ← hE3, ← hE4, ← hF1, ← hF2, ← hF3, ← hF4]; rfl)
  obtain ⟨EM, hEM⟩ : ∃ E, eqM a b = E := ⟨_, rfl⟩
  obtain ⟨la, hla⟩ : ∃ l, a.items.length = l := ⟨_, rfl⟩
  obtain ⟨lb, hlb⟩ : ∃ l, b.items.length = l := ⟨_, rfl⟩
  obtain ⟨ka, hka⟩ : ∃ l, a.ask.items.length = l := ⟨_, rfl⟩
  obtain ⟨kb, hkb⟩ : ∃ l, b.ask.items.length = l := ⟨_, rfl⟩
  rw [hE3, hla, hlb] at HI
  rw [hE4, hka, hkb] at HA
  rw [hEM] at HE ⊢
  rw [hla, hlb, hka, hkb]
  show Calls Try.prog 10 #[.agg #[.int .i64 a.kind, .int .i64 a.order, .slice A la c, .int .i64 a.ask.client, .int .i64 a.ask.number, .int .i64 a.ask.kind, .int .i64 a.ask.order, .int .i64 a.ask.region, .int .i64 a.ask.to, .int .i64 a.ask.n, .string a.ask.good, .slice A' ka c', .int .i64 a.yc, .int .i64 a.yn, .int .i64 a.yd, .int .i64 a.yN], .agg #[.int .i64 b.kind, .int .i64 b.order, .slice B lb d, .int .i64 b.ask.client, .int .i64 b.ask.number, .int .i64 b.ask.kind, .int .i64 b.ask.order, .int .i64 b.ask.region, .int .i64 b.ask.to, .int .i64 b.ask.n, .string b.ask.good, .slice B' kb d', .int .i64 b.yc, .int .i64 b.yn, .int .i64 b.yd, .int .i64 b.yN]] w _
  obtain ⟨W2, hW2⟩ : ∃ W2, (w.alloc (.cells #[.int .i64 a.kind, .int .i64 a.order, .slice A la c, .int .i64 a.ask.client, .int .i64 a.ask.number, .int .i64 a.ask.kind, .int .i64 a.ask.order, .int .i64 a.ask.region, .int .i64 a.ask.to, .int .i64 a.ask.n, .string a.ask.good, .slice A' ka c', .int .i64 a.yc, .int .i64 a.yn, .int .i64 a.yd, .int .i64 a.yN] 29)).alloc (.cells #[.int .i64 b.kind, .int .i64 b.order, .slice B lb d, .int .i64 b.ask.client, .int .i64 b.ask.number, .int .i64 b.ask.kind, .int .i64 b.ask.order, .int .i64 b.ask.region, .int .i64 b.ask.to, .int .i64 b.ask.n, .string b.ask.good, .slice B' kb d', .int .i64 b.yc, .int .i64 b.yn, .int .i64 b.yd, .int .i64 b.yN] 29) = W2 := ⟨_, rfl⟩
  have ka0 := block_alloc (block_new w (.cells #[.int .i64 a.kind, .int .i64 a.order, .slice A la c, .int .i64 a.ask.client, .int .i64 a.ask.number, .int .i64 a.ask.kind, .int .i64 a.ask.order, .int .i64 a.ask.region, .int .i64 a.ask.to, .int .i64 a.ask.n, .string a.ask.good, .slice A' ka c', .int .i64 a.yc, .int .i64 a.yn, .int .i64 a.yd, .int .i64 a.yN] 29)) (.cells #[.int .i64 b.kind, .int .i64 b.order, .slice B lb d, .int .i64 b.ask.client, .int .i64 b.ask.number, .int .i64 b.ask.kind, .int .i64 b.ask.order, .int .i64 b.ask.region, .int .i64 b.ask.to, .int .i64 b.ask.n, .string b.ask.good, .slice B' kb d', .int .i64 b.yc, .int .i64 b.yn, .int .i64 b.yd, .int .i64 b.yN] 29)
  have kb0 := block_new (w.alloc (.cells #[.int .i64 a.kind, .int .i64 a.order, .slice A la c, .int .i64 a.ask.client, .int .i64 a.ask.number, .int .i64 a.ask.kind, .int .i64 a.ask.order, .int .i64 a.ask.region, .int .i64 a.ask.to, .int .i64 a.ask.n, .string a.ask.good, .slice A' ka c', .int .i64 a.yc, .int .i64 a.yn, .int .i64 a.yd, .int .i64 a.yN] 29)) (.cells #[.int .i64 b.kind, .int .i64 b.order, .slice B lb d, .int .i64 b.ask.client, .int .i64 b.ask.number, .int .i64 b.ask.kind, .int .i64 b.ask.order, .int .i64 b.ask.region, .int .i64 b.ask.to, .int .i64 b.ask.n, .string b.ask.good, .slice B' kb d', .int .i64 b.yc, .int .i64 b.yn, .int .i64 b.yd, .int .i64 b.yN] 29)
  have hb0 := ((Below.refl _ w).alloc (Nat.le_refl _) (.cells #[.int .i64 a.kind, .int .i64 a.order, .slice A la c, .int .i64 a.ask.client, .int .i64 a.ask.number, .int .i64 a.ask.kind, .int .i64 a.ask.order, .int .i64 a.ask.region, .int .i64 a.ask.to, .int .i64 a.ask.n, .string a.ask.good, .slice A' ka c', .int .i64 a.yc, .int .i64 a.yn, .int .i64 a.yd, .int .i64 a.yN] 29)).alloc (by simp) (.cells #[.int .i64 b.kind, .int .i64 b.order, .slice B lb d, .int .i64 b.ask.client, .int .i64 b.ask.number, .int .i64 b.ask.kind, .int .i64 b.ask.order, .int .i64 b.ask.region, .int .i64 b.ask.to, .int .i64 b.ask.n, .string b.ask.good, .slice B' kb d', .int .i64 b.yc, .int .i64 b.yn, .int .i64 b.yd, .int .i64 b.yN] 29)
  have HBB := Lib.hid hb0
  simp only [World.size_alloc] at kb0
  rw [hW2] at ka0 kb0 hb0
  have HB2 := Lib.hid hb0
  have HCA : Hid (∀ W, Below W2.heap.size W2 W → W.heap[w.heap.size]? = some (.cells #[.int .i64 a.kind, .int .i64 a.order, .slice A la c, .int .i64 a.ask.client, .int .i64 a.ask.number, .int .i64 a.ask.kind, .int .i64 a.ask.order, .int .i64 a.ask.region, .int .i64 a.ask.to, .int .i64 a.ask.n, .string a.ask.good, .slice A' ka c', .int .i64 a.yc, .int .i64 a.yn, .int .i64 a.yd, .int .i64 a.yN] 29 (0, 0))) := Lib.hid (fun W hW => (hW.block _ (lt_of_block ka0)).trans ka0)
  have HCB : Hid (∀ W, Below W2.heap.size W2 W → W.heap[w.heap.size + 1]? = some (.cells #[.int .i64 b.kind, .int .i64 b.order, .slice B lb d, .int .i64 b.ask.client, .int .i64 b.ask.number, .int .i64 b.ask.kind, .int .i64 b.ask.order, .int .i64 b.ask.region, .int .i64 b.ask.to, .int .i64 b.ask.n, .string b.ask.good, .slice B' kb d', .int .i64 b.yc, .int .i64 b.yn, .int .i64 b.yd, .int .i64 b.yN] 29 (0, 0))) := Lib.hid (fun W hW => (hW.block _ (lt_of_block kb0)).trans kb0)
  have HW2 := Lib.hid hW2
  clear hE3 hE4 hEM hla hlb hka hkb hr hr' hs hs' hm hm' hW2 ka0 kb0 hb0
  go_enter Try.func10, Try.ntmps10
  cases E1
  case false =>
    go_wp2
    go_ret
    exact ⟨ret_bool HE.out.symm, HBB.out⟩
  cases E2
  case false =>
    go_wp2
    go_ret
    exact ⟨ret_bool HE.out.symm, HBB.out⟩
  go_wp2_with fail
  rw [HW2.out]
  refine (HI.out W2 HB2.out).mono ?_
  rintro e w1 ⟨rfl, hb⟩
  have HC1 := Lib.hid hb
  clear hb
  cases E3
  case false =>
    go_wp2
    go_ret
    exact ⟨ret_bool HE.out.symm, HB2.out.trans (HC1.out.mono HB2.out.size)⟩
  have a3 := cell_at (HCA.out w1 HC1.out) 3
  have a4 := cell_at (HCA.out w1 HC1.out) 4
  have a5 := cell_at (HCA.out w1 HC1.out) 5
  have a6 := cell_at (HCA.out w1 HC1.out) 6
  have a7 := cell_at (HCA.out w1 HC1.out) 7
  have a8 := cell_at (HCA.out w1 HC1.out) 8
  have a9 := cell_at (HCA.out w1 HC1.out) 9
  have a10 := cell_at (HCA.out w1 HC1.out) 10
  have a11 := cell_at (HCA.out w1 HC1.out) 11
  have b3 := cell_at (HCB.out w1 HC1.out) 3
  have b4 := cell_at (HCB.out w1 HC1.out) 4
  have b5 := cell_at (HCB.out w1 HC1.out) 5
  have b6 := cell_at (HCB.out w1 HC1.out) 6
  have b7 := cell_at (HCB.out w1 HC1.out) 7
  have b8 := cell_at (HCB.out w1 HC1.out) 8
  have b9 := cell_at (HCB.out w1 HC1.out) 9
  have b10 := cell_at (HCB.out w1 HC1.out) 10
  have b11 := cell_at (HCB.out w1 HC1.out) 11
  go_wp2_with fail
  refine (HA.out w1 (HB2.out.trans (HC1.out.mono HB2.out.size))).mono ?_
  rintro e w2 ⟨rfl, hb⟩
  have HC2 := Lib.hid (HC1.out.trans (hb.mono HC1.out.size))
  clear hb a3 a4 a5 a6 a7 a8 a9 a10 a11 b3 b4 b5 b6 b7 b8 b9 b10 b11
  cases E4
  case false =>
    go_wp2
    go_ret
    exact ⟨ret_bool HE.out.symm, HB2.out.trans (HC2.out.mono HB2.out.size)⟩
  have a12 := cell_at (HCA.out w2 HC2.out) 12
  have a13 := cell_at (HCA.out w2 HC2.out) 13
  have a14 := cell_at (HCA.out w2 HC2.out) 14
  have a15 := cell_at (HCA.out w2 HC2.out) 15
  have b12 := cell_at (HCB.out w2 HC2.out) 12
  have b13 := cell_at (HCB.out w2 HC2.out) 13
  have b14 := cell_at (HCB.out w2 HC2.out) 14
  have b15 := cell_at (HCB.out w2 HC2.out) 15
  cases F1
  case false =>
    go_wp2
    go_ret
    exact ⟨ret_bool HE.out.symm, HB2.out.trans (HC2.out.mono HB2.out.size)⟩
  cases F2
  case false =>
    go_wp2
    go_ret
    exact ⟨ret_bool HE.out.symm, HB2.out.trans (HC2.out.mono HB2.out.size)⟩
  cases F3
  case false =>
    go_wp2
    go_ret
    exact ⟨ret_bool HE.out.symm, HB2.out.trans (HC2.out.mono HB2.out.size)⟩
  cases F4
  case false =>
    go_wp2
    go_ret
    exact ⟨ret_bool HE.out.symm, HB2.out.trans (HC2.out.mono HB2.out.size)⟩
  go_wp2
  go_ret
  exact ⟨ret_bool HE.out.symm, HB2.out.trans (HC2.out.mono HB2.out.size)⟩
end Go.Proofs.Ytpccbobomppdbaa

namespace Go.Proofs.Ytpccbobomppdbaa
open Go.RowKit

set_option maxRecDepth 100000 in
theorem mayans_any (m : Ml) (w : World) : Calls Try.prog 33 #[.agg #[.int .i64 m.yc, .int .i64 m.yn, .int .i64 m.yd, .int .i64 m.yN]] w fun e W => e = .returned (.bool (mayYM m)) ∧ Below w.heap.size w W := by
  have HB := Lib.hid ((Below.refl _ w).alloc (Nat.le_refl _) (.cells #[.int .i64 m.yc, .int .i64 m.yn, .int .i64 m.yd, .int .i64 m.yN] 27))
  have HE : Hid (mayYM m = (inB m.yc 0 63 && inB m.yn 1 4294967296 && inB m.yd 0 1000)) := Lib.hid rfl
  obtain ⟨M, hM⟩ : ∃ M, mayYM m = M := ⟨_, rfl⟩
  rw [hM] at HE ⊢
  clear hM
  obtain ⟨kind, order, items, ask, yc, yn, yd, yN⟩ := m
  simp only at *
  by_cases h1 : 0 ≤ yc
  · by_cases h2 : yc < 64
    · by_cases h3 : 1 ≤ yn
      · by_cases h4 : yn ≤ 4294967296
        · by_cases h5 : 0 ≤ yd
          · go_enter Try.func33, Try.ntmps33
            go_wp2
            go_ret
            exact ⟨ret_bool (by rw [HE.out, inB_in h1 (by omega), inB_in h3 h4, inB_lo2 h5]; rfl), HB.out⟩
          · go_enter Try.func33, Try.ntmps33
            go_wp2
            go_ret
            exact ⟨ret_bool (by rw [HE.out, inB_lo (n := yd) (by omega), Bool.and_false]), HB.out⟩
        · go_enter Try.func33, Try.ntmps33
          go_wp2
          go_ret
          exact ⟨ret_bool (by rw [HE.out, inB_hi (n := yn) (by omega), Bool.and_false]; rfl), HB.out⟩
      · go_enter Try.func33, Try.ntmps33
        go_wp2
        go_ret
        exact ⟨ret_bool (by rw [HE.out, inB_lo (n := yn) (by omega), Bool.and_false]; rfl), HB.out⟩
    · go_enter Try.func33, Try.ntmps33
      go_wp2
      go_ret
      exact ⟨ret_bool (by rw [HE.out, inB_hi (n := yc) (by omega)]; rfl), HB.out⟩
  · go_enter Try.func33, Try.ntmps33
    go_wp2
    go_ret
    exact ⟨ret_bool (by rw [HE.out, inB_lo (n := yc) (by omega)]; rfl), HB.out⟩
end Go.Proofs.Ytpccbobomppdbaa
