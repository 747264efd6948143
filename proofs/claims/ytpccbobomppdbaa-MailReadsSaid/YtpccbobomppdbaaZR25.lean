/- Joined: mail.Decode. A mail is read out of its block, in a plain region, guarded or not. What must come of every program: chapter 13's lives. -/
import Derived.Test.YtpccbobomppdbaaZR22
import Derived.Test.YtpccbobomppdbaaZR23
import Derived.Test.YtpccbobomppdbaaZR24
import Derived.Test.YtpccbobomppdbaaZR12
import Derived.Deep.MidRow
import Derived.Test.YtpccbobomppdbaaZR19
namespace Go.Proofs.Ytpccbobomppdbaa
open Go.RowKit

theorem mdec_any (v : Value) (bs : List Nat) (w : World) (hv : Bs w v bs) (hl : ∀ b ∈ bs, b < 256) (ht : bs.length ≤ 140737488355328) :
    Calls Try.prog 16 #[v] w (RetDecM w (unM bs)) := by
  cases hy : hasM (kindM (bs, false)) 121 with
  | false => exact mdec_A v bs w hv hl ht hy
  | true =>
    by_cases he : (m4M (bs, false)).1 = []
    · exact mdec_B v bs w hv hl ht he hy
    · exact mdec_C v bs w hv hl ht he hy
end Go.Proofs.Ytpccbobomppdbaa

namespace Go.Proofs.Ytpccbobomppdbaa
open Go.RowKit

theorem Try.infoMail : (Try.prog.info? 29).map (·.size) = some 16 := by kernel_rfl
theorem mail_load {ops : Array Oper} {rest : List Oper} {o : Oper} {a : Act} {w : World} {Q : Exit → Act → World → Prop} (hgd : Region.wanted o (yielded ops a.tmps) = true) (x : Operand) (ho : o.op = .load 29 x)
    (g : Nat) (hx : a.eval x = .pointer (some ⟨g, 0, none⟩)) (cs : Array Value) (hg : w.heap[g]? = some (.cells cs 29 (0, 0))) (hs : cs.size = 16)
    (h : wpList Try.prog ops Q rest (a.put o.dst (.agg cs)) w) : wpList Try.prog ops Q (o :: rest) a w :=
  wpList_step fun K hK => by
    rw [if_pos hgd]
    exact wp_load_row 29 x ho g hx 29 cs (0, 0) _ hg Try.underlying29 rfl (by rw [hs]; exact Try.infoMail) (hK _ _ h)
theorem mail_exec {o : Oper} {ρ : Operand → Value} {w : World} (x : Operand) (ho : o.op = .load 29 x) (g : Nat) (hx : ρ x = .pointer (some ⟨g, 0, none⟩)) (cs : Array Value) (hg : w.heap[g]? = some (.cells cs 29 (0, 0))) (hs : cs.size = 16) :
    (execOp ρ o).run Try.prog w = .ok (.value (.agg cs)) w := by
  unfold execOp
  simp only [ho, hx, Instr.loadAt, Instr.sureAddr, Sem.run_bind, Sem.run_pure, Result.andThen_ok, run_loadVar_row w g 29 29 cs (0, 0) _ hg Try.underlying29 rfl (by rw [hs]; exact Try.infoMail)]
end Go.Proofs.Ytpccbobomppdbaa

namespace Go.Proofs.Ytpccbobomppdbaa
open Go.RowKit

def liveM : Ml := ⟨4, 65, [⟨⟨#[97]⟩, 5⟩], zeroK, 0, 0, 0, 0⟩
theorem liveM_may : mayM liveM = true := by kernel_rfl
theorem zeroMl_may : mayM zeroMl = false := by kernel_rfl
theorem liveM_i64 : I64 liveM.yN := by unfold I64; decide
theorem liveM_un : unM (encM liveM) = some liveM := (unM_iff (encM_lt _) _).2 ⟨liveM_may, liveM_i64, rfl⟩
theorem liveM_bd : BdL liveM.items := ⟨fun z hz => by
  obtain rfl : z = ⟨⟨#[97]⟩, 5⟩ := by simpa [liveM] using hz
  exact ⟨by decide, by decide, by decide⟩, by decide⟩
theorem zeroK_bd : BdL zeroK.items := ⟨fun z hz => (by cases hz), by decide⟩
set_option maxRecDepth 100000 in
set_option maxHeartbeats 2000000 in
theorem mlives_any (w : World) : Calls Try.prog 7 #[] w fun e W => e = .returned (.bool true) ∧ Below w.heap.size w W := by
  have kb0 := block_alloc (block_new w (.cells #[.string { data := #[97] }, .int .i64 5] 46)) (.cells #[.int .i64 4, .int .i64 65, .slice (some ⟨w.heap.size, 0, none⟩) 1 1, .int .i64 0, .int .i64 0, .int .i64 0, .int .i64 0, .int .i64 0, .int .i64 0, .int .i64 0, .string { data := #[] }, .slice none 0 0, .int .i64 0, .int .i64 0, .int .i64 0, .int .i64 0] 29)
  have ka0 := block_new (w.alloc (.cells #[.string { data := #[97] }, .int .i64 5] 46)) (.cells #[.int .i64 4, .int .i64 65, .slice (some ⟨w.heap.size, 0, none⟩) 1 1, .int .i64 0, .int .i64 0, .int .i64 0, .int .i64 0, .int .i64 0, .int .i64 0, .int .i64 0, .string { data := #[] }, .slice none 0 0, .int .i64 0, .int .i64 0, .int .i64 0, .int .i64 0] 29)
  have hb0 := ((Below.refl _ w).alloc (Nat.le_refl _) (.cells #[.string { data := #[97] }, .int .i64 5] 46)).alloc (by simp) (.cells #[.int .i64 4, .int .i64 65, .slice (some ⟨w.heap.size, 0, none⟩) 1 1, .int .i64 0, .int .i64 0, .int .i64 0, .int .i64 0, .int .i64 0, .int .i64 0, .int .i64 0, .string { data := #[] }, .slice none 0 0, .int .i64 0, .int .i64 0, .int .i64 0, .int .i64 0] 29)
  simp only [World.size_alloc] at ka0
  obtain ⟨W2, hW2⟩ : ∃ W2, (w.alloc (.cells #[.string { data := #[97] }, .int .i64 5] 46)).alloc (.cells #[.int .i64 4, .int .i64 65, .slice (some ⟨w.heap.size, 0, none⟩) 1 1, .int .i64 0, .int .i64 0, .int .i64 0, .int .i64 0, .int .i64 0, .int .i64 0, .int .i64 0, .string { data := #[] }, .slice none 0 0, .int .i64 0, .int .i64 0, .int .i64 0, .int .i64 0] 29) = W2 := ⟨_, rfl⟩
  rw [hW2] at kb0 ka0 hb0
  have HRA : Hid (Rd W2 2 (some ⟨w.heap.size, 0, none⟩) liveM.items.length (liveM.items.flatMap encI)) := Lib.hid (rd_oneA kb0 : Rd W2 2 (some ⟨w.heap.size, 0, none⟩) 1 (encI ⟨⟨#[97]⟩, 5⟩))
  have HB2 := Lib.hid hb0
  have HCA : Hid (∀ W, Below W2.heap.size W2 W → W.heap[w.heap.size + 1]? = some (.cells #[.int .i64 4, .int .i64 65, .slice (some ⟨w.heap.size, 0, none⟩) 1 1, .int .i64 0, .int .i64 0, .int .i64 0, .int .i64 0, .int .i64 0, .int .i64 0, .int .i64 0, .string { data := #[] }, .slice none 0 0, .int .i64 0, .int .i64 0, .int .i64 0, .int .i64 0] 29 (0, 0))) := Lib.hid (fun W hW => (hW.block _ (lt_of_block ka0)).trans ka0)
  have HW2 := Lib.hid hW2
  have hgz : liveM.ask.good.size ≤ 9223372036854775807 := by decide
  have HENC : Hid (Calls Try.prog 8 #[.agg #[.int .i64 4, .int .i64 65, .slice (some ⟨w.heap.size, 0, none⟩) 1 1, .int .i64 0, .int .i64 0, .int .i64 0, .int .i64 0, .int .i64 0, .int .i64 0, .int .i64 0, .string { data := #[] }, .slice none 0 0, .int .i64 0, .int .i64 0, .int .i64 0, .int .i64 0]] W2 fun e W => ∃ v, e = .returned (.tuple #[v, .int .i64 0]) ∧ Bs W v (encM liveM) ∧ Below W2.heap.size W2 W) := Lib.hid (menc_ok liveM (some ⟨w.heap.size, 0, none⟩) 1 none 0 W2 HRA.out Rd.nil liveM_bd zeroK_bd hgz liveM_may liveM_i64)
  have HMZ : Hid (∀ W, Calls Try.prog 14 #[.agg #[.int .i64 0, .int .i64 0, .slice none 0 0, .int .i64 0, .int .i64 0, .int .i64 0, .int .i64 0, .int .i64 0, .int .i64 0, .int .i64 0, .string { data := #[] }, .slice none 0 0, .int .i64 0, .int .i64 0, .int .i64 0, .int .i64 0]] W fun e W' => e = .returned (.bool false) ∧ Below W.heap.size W W') := Lib.hid (fun W => zeroMl_may ▸ mmay_any zeroMl none 0 none 0 W Rd.nil Rd.nil zeroK_bd zeroK_bd (by decide))
  have HML : Hid (∀ W, Below W2.heap.size W2 W → Calls Try.prog 14 #[.agg #[.int .i64 4, .int .i64 65, .slice (some ⟨w.heap.size, 0, none⟩) 1 1, .int .i64 0, .int .i64 0, .int .i64 0, .int .i64 0, .int .i64 0, .int .i64 0, .int .i64 0, .string { data := #[] }, .slice none 0 0, .int .i64 0, .int .i64 0, .int .i64 0, .int .i64 0]] W fun e W' => e = .returned (.bool true) ∧ Below W.heap.size W W') := Lib.hid (fun W hW => liveM_may ▸ mmay_any liveM (some ⟨w.heap.size, 0, none⟩) 1 none 0 W (HRA.out.below hW) Rd.nil liveM_bd zeroK_bd hgz)
  have HDEC : Hid (∀ W v, Bs W v (encM liveM) → Calls Try.prog 16 #[v] W (RetDecM W (some liveM))) := Lib.hid (fun W v hv => liveM_un ▸ mdec_any v (encM liveM) W hv (encM_lt _) (by have := encM_le (mayM_lim liveM_may); omega))
  have HS1 : Hid (∀ W (A4 : Option Addr) (c4 : Nat) (A5 : Option Addr) (c5 : Nat), Rd W 2 A4 liveM.items.length (liveM.items.flatMap encI) → Rd W 2 A5 0 [] → Below W2.heap.size W2 W → Calls Try.prog 9 #[.agg #[.int .i64 4, .int .i64 65, .slice A4 1 c4, .int .i64 0, .int .i64 0, .int .i64 0, .int .i64 0, .int .i64 0, .int .i64 0, .int .i64 0, .string { data := #[] }, .slice A5 0 c5, .int .i64 0, .int .i64 0, .int .i64 0, .int .i64 0], .agg #[.int .i64 4, .int .i64 65, .slice (some ⟨w.heap.size, 0, none⟩) 1 1, .int .i64 0, .int .i64 0, .int .i64 0, .int .i64 0, .int .i64 0, .int .i64 0, .int .i64 0, .string { data := #[] }, .slice none 0 0, .int .i64 0, .int .i64 0, .int .i64 0, .int .i64 0]] W fun e W' => e = .returned (.bool true) ∧ Below W.heap.size W W') := Lib.hid (fun W A4 c4 A5 c5 h4 h5 hW => (eqM_iff.2 (rfl : liveM = liveM)) ▸ xmsame_any liveM liveM A4 A5 c4 c5 (some ⟨w.heap.size, 0, none⟩) none 1 0 W h4 h5 (HRA.out.below hW) Rd.nil (by decide) (by decide))
  have HS2 : Hid (∀ W (A4 : Option Addr) (c4 : Nat) (A5 : Option Addr) (c5 : Nat), Rd W 2 A4 liveM.items.length (liveM.items.flatMap encI) → Rd W 2 A5 0 [] → Below W2.heap.size W2 W → Calls Try.prog 10 #[.agg #[.int .i64 4, .int .i64 65, .slice A4 1 c4, .int .i64 0, .int .i64 0, .int .i64 0, .int .i64 0, .int .i64 0, .int .i64 0, .int .i64 0, .string { data := #[] }, .slice A5 0 c5, .int .i64 0, .int .i64 0, .int .i64 0, .int .i64 0], .agg #[.int .i64 4, .int .i64 65, .slice (some ⟨w.heap.size, 0, none⟩) 1 1, .int .i64 0, .int .i64 0, .int .i64 0, .int .i64 0, .int .i64 0, .int .i64 0, .int .i64 0, .string { data := #[] }, .slice none 0 0, .int .i64 0, .int .i64 0, .int .i64 0, .int .i64 0]] W fun e W' => e = .returned (.bool true) ∧ Below W.heap.size W W') := Lib.hid (fun W A4 c4 A5 c5 h4 h5 hW => (eqM_iff.2 (rfl : liveM = liveM)) ▸ msame_any liveM liveM A4 A5 c4 c5 (some ⟨w.heap.size, 0, none⟩) none 1 0 W h4 h5 (HRA.out.below hW) Rd.nil (by decide) (by decide))
  have HHAS : Hid (∀ W, Calls Try.prog 11 #[.int .i64 4] W fun e W' => e = .returned (.string ⟨#[111, 105]⟩) ∧ W = W') := Lib.hid (fun W => (show txtM 4 = ⟨#[111, 105]⟩ by kernel_rfl) ▸ mhas_any 4 W)
  clear kb0 ka0 hb0 hW2 hgz
  obtain ⟨EN, hEN⟩ : ∃ EN, encM liveM = EN := ⟨_, rfl⟩
  rw [hEN] at HENC HDEC
  clear hEN
  go_enter Try.func7, Try.ntmps7
  have ka2 := HCA.out W2 (Below.refl _ _)
  rw [← HW2.out] at ka2
  go_wp2_with (first | (refine mail_load (by rfl) (.tmp 1) rfl _ rfl #[.int .i64 4, .int .i64 65, .slice (some ⟨w.heap.size, 0, none⟩) 1 1, .int .i64 0, .int .i64 0, .int .i64 0, .int .i64 0, .int .i64 0, .int .i64 0, .int .i64 0, .string { data := #[] }, .slice none 0 0, .int .i64 0, .int .i64 0, .int .i64 0, .int .i64 0] (ka2) rfl ?_))
  rw [HW2.out]
  refine HENC.out.mono ?_
  rintro e w3 ⟨v, rfl, hv, hb⟩
  have HV := Lib.hid hv
  have HB3 := Lib.hid hb
  obtain ⟨Ab, cb, rfl, _, _, _⟩ := hv
  obtain ⟨ne, hne⟩ : ∃ ne, EN.length = ne := ⟨_, rfl⟩
  rw [hne] at HV ⊢
  clear hb hne ka2
  go_wp2_with fail
  refine (HDEC.out w3 _ HV.out).mono ?_
  rintro e w4 ⟨hs, _⟩
  obtain ⟨A4, c4, A5, c5, he, hr4, hr5, hb4⟩ := hs liveM rfl
  have he2 : e = .returned (.tuple #[.agg #[.int .i64 4, .int .i64 65, .slice A4 1 c4, .int .i64 0, .int .i64 0, .int .i64 0, .int .i64 0, .int .i64 0, .int .i64 0, .int .i64 0, .string { data := #[] }, .slice A5 0 c5, .int .i64 0, .int .i64 0, .int .i64 0, .int .i64 0], .int .i64 0]) := he
  clear he
  subst he2
  have HB4 := Lib.hid (HB3.out.trans (hb4.mono HB3.out.size))
  have hb5 := (Below.refl w4.heap.size w4).alloc (Nat.le_refl _) (.cells #[.int .i64 4, .int .i64 65, .slice A4 1 c4, .int .i64 0, .int .i64 0, .int .i64 0, .int .i64 0, .int .i64 0, .int .i64 0, .int .i64 0, .string { data := #[] }, .slice A5 0 c5, .int .i64 0, .int .i64 0, .int .i64 0, .int .i64 0] 29)
  have kp := block_new w4 (.cells #[.int .i64 4, .int .i64 65, .slice A4 1 c4, .int .i64 0, .int .i64 0, .int .i64 0, .int .i64 0, .int .i64 0, .int .i64 0, .int .i64 0, .string { data := #[] }, .slice A5 0 c5, .int .i64 0, .int .i64 0, .int .i64 0, .int .i64 0] 29)
  have HB5 := Lib.hid (HB4.out.trans (hb5.mono HB4.out.size))
  have HR4 := Lib.hid (hr4.below hb5)
  have HR5 : Hid (Rd (w4.alloc (.cells #[.int .i64 4, .int .i64 65, .slice A4 1 c4, .int .i64 0, .int .i64 0, .int .i64 0, .int .i64 0, .int .i64 0, .int .i64 0, .int .i64 0, .string { data := #[] }, .slice A5 0 c5, .int .i64 0, .int .i64 0, .int .i64 0, .int .i64 0] 29)) 2 A5 0 []) := Lib.hid (hr5.below hb5)
  obtain ⟨pb, hpb⟩ : ∃ pb, w4.heap.size = pb := ⟨_, rfl⟩
  obtain ⟨W5, hW5⟩ : ∃ W5, w4.alloc (.cells #[.int .i64 4, .int .i64 65, .slice A4 1 c4, .int .i64 0, .int .i64 0, .int .i64 0, .int .i64 0, .int .i64 0, .int .i64 0, .int .i64 0, .string { data := #[] }, .slice A5 0 c5, .int .i64 0, .int .i64 0, .int .i64 0, .int .i64 0] 29) = W5 := ⟨_, rfl⟩
  rw [hW5] at HB5 HR4 HR5
  have kpr := kp
  rw [hW5, hpb] at kp
  have HCP : Hid (∀ W, Below W5.heap.size W5 W → W.heap[pb]? = some (.cells #[.int .i64 4, .int .i64 65, .slice A4 1 c4, .int .i64 0, .int .i64 0, .int .i64 0, .int .i64 0, .int .i64 0, .int .i64 0, .int .i64 0, .string { data := #[] }, .slice A5 0 c5, .int .i64 0, .int .i64 0, .int .i64 0, .int .i64 0] 29 (0, 0))) := Lib.hid (fun W hW => (hW.block _ (lt_of_block kp)).trans kp)
  have HC5 := Lib.hid (Below.refl W5.heap.size W5)
  have kar : (w4.alloc (.cells #[.int .i64 4, .int .i64 65, .slice A4 1 c4, .int .i64 0, .int .i64 0, .int .i64 0, .int .i64 0, .int .i64 0, .int .i64 0, .int .i64 0, .string { data := #[] }, .slice A5 0 c5, .int .i64 0, .int .i64 0, .int .i64 0, .int .i64 0] 29)).heap[w.heap.size + 1]? = some (.cells #[.int .i64 4, .int .i64 65, .slice (some ⟨w.heap.size, 0, none⟩) 1 1, .int .i64 0, .int .i64 0, .int .i64 0, .int .i64 0, .int .i64 0, .int .i64 0, .int .i64 0, .string { data := #[] }, .slice none 0 0, .int .i64 0, .int .i64 0, .int .i64 0, .int .i64 0] 29 (0, 0)) := by rw [hW5]; exact HCA.out W5 HB5.out
  have HW5 := Lib.hid hW5
  have HPB := Lib.hid hpb
  clear hs hr4 hr5 hb4 hb5 hpb hW5 kp
  go_wp2_with (first | (refine mail_load (by rfl) (.tmp 4) rfl _ rfl #[.int .i64 4, .int .i64 65, .slice A4 1 c4, .int .i64 0, .int .i64 0, .int .i64 0, .int .i64 0, .int .i64 0, .int .i64 0, .int .i64 0, .string { data := #[] }, .slice A5 0 c5, .int .i64 0, .int .i64 0, .int .i64 0, .int .i64 0] (kpr) rfl ?_) | (refine mail_load (by rfl) (.tmp 1) rfl _ rfl #[.int .i64 4, .int .i64 65, .slice (some ⟨w.heap.size, 0, none⟩) 1 1, .int .i64 0, .int .i64 0, .int .i64 0, .int .i64 0, .int .i64 0, .int .i64 0, .int .i64 0, .string { data := #[] }, .slice none 0 0, .int .i64 0, .int .i64 0, .int .i64 0, .int .i64 0] (kar) rfl ?_))
  rw [HW5.out]
  clear kpr kar
  refine (HS1.out W5 A4 c4 A5 c5 HR4.out HR5.out HB5.out).mono ?_
  rintro e w6 ⟨rfl, hb⟩
  have HB6 := Lib.hid (HB5.out.trans (hb.mono HB5.out.size))
  have HC6 := Lib.hid (HC5.out.trans (hb.mono HC5.out.size))
  clear hb
  rw [HPB.out]
  have ka6 := HCA.out w6 HB6.out
  have kp6 := HCP.out w6 HC6.out
  go_wp2_with (first | (refine mail_load (by rfl) (.tmp 4) rfl _ rfl #[.int .i64 4, .int .i64 65, .slice A4 1 c4, .int .i64 0, .int .i64 0, .int .i64 0, .int .i64 0, .int .i64 0, .int .i64 0, .int .i64 0, .string { data := #[] }, .slice A5 0 c5, .int .i64 0, .int .i64 0, .int .i64 0, .int .i64 0] (kp6) rfl ?_) | (refine mail_load (by rfl) (.tmp 1) rfl _ rfl #[.int .i64 4, .int .i64 65, .slice (some ⟨w.heap.size, 0, none⟩) 1 1, .int .i64 0, .int .i64 0, .int .i64 0, .int .i64 0, .int .i64 0, .int .i64 0, .int .i64 0, .string { data := #[] }, .slice none 0 0, .int .i64 0, .int .i64 0, .int .i64 0, .int .i64 0] (ka6) rfl ?_))
  refine (HS2.out w6 A4 c4 A5 c5 (HR4.out.below HC6.out) (HR5.out.below HC6.out) HB6.out).mono ?_
  rintro e w7 ⟨rfl, hb⟩
  have HB7 := Lib.hid (HB6.out.trans (hb.mono HB6.out.size))
  clear hb ka6 kp6
  have ka7 := HCA.out w7 HB7.out
  go_wp2_with (first | (refine mail_load (by rfl) (.tmp 1) rfl _ rfl #[.int .i64 4, .int .i64 65, .slice (some ⟨w.heap.size, 0, none⟩) 1 1, .int .i64 0, .int .i64 0, .int .i64 0, .int .i64 0, .int .i64 0, .int .i64 0, .int .i64 0, .string { data := #[] }, .slice none 0 0, .int .i64 0, .int .i64 0, .int .i64 0, .int .i64 0] (ka7) rfl ?_))
  refine (HML.out w7 HB7.out).mono ?_
  rintro e w8 ⟨rfl, hb⟩
  have HB8 := Lib.hid (HB7.out.trans (hb.mono HB7.out.size))
  clear hb ka7
  go_wp2_with fail
  refine (HHAS.out w8).mono ?_
  rintro e w9 ⟨rfl, rfl⟩
  go_wp2_with fail
  refine (answers_any 3 w8).mono ?_
  rintro e w9 ⟨rfl, rfl⟩
  go_wp2_with fail
  refine (HMZ.out w8).mono ?_
  rintro e w9 ⟨rfl, hb⟩
  have HB9 := Lib.hid (HB8.out.trans (hb.mono HB8.out.size))
  clear hb
  go_wp2
  go_ret
  exact ⟨ret_bool (by simp), HB2.out.trans (HB9.out.mono HB2.out.size)⟩
end Go.Proofs.Ytpccbobomppdbaa
