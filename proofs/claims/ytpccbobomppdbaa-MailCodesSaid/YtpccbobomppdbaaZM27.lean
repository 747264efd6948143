/- Joined: mail.Decode. A mail is read out of its block, in a plain region, guarded or not. What must come of every program: chapter 13's lives. The law MailKinds: the walk. From a walk to a row's statement, and how arguments that came in are opened. How arguments that came in are opened: slices of whatever elements, element by element; numbers; texts; their sizes. -/
import Derived.Test.YtpccbobomppdbaaZM24
import Derived.Test.YtpccbobomppdbaaZM25
import Derived.Test.YtpccbobomppdbaaZM26
import Derived.Test.YtpccbobomppdbaaZM13
import Derived.Deep.MidRow
import Derived.Test.YtpccbobomppdbaaZM21
import Derived.Test.YtpccbobomppdbaaRows
import Derived.Test.YtpccbobomppdbaaZM1
import Derived.ProofKit
import Derived.OpenShut
import Derived.ShutString
import Derived.ChangeOld
import Derived.Deep.Slices
import Derived.Deep.Fields
import Derived.Test.YtpccbobomppdbaaZM15
import Derived.SizedLaws
namespace Go.Proofs.Ytpccbobomppdbaa
open Go.RowKit

theorem mdec_any (v : Value) (bs : List Nat) (w : World) (hv : Bs w v bs) (hl : ∀ b ∈ bs, b < 256) (ht : bs.length ≤ 140737488355328) :
    Calls Try.prog 16 #[v] w (RetDecM w (unM bs)) := by
  cases hy : hasM (kindM (bs, false)) 121 with
  | false => exact mdec_A v bs w hv hl ht hy
  | true =>
    by_cases he : (m4M (bs, false)).1 = []
    · exact mdec_B v bs w hv hl ht he hy
    · exact mdec_C v bs w hv hl ht he hy
end Go.Proofs.Ytpccbobomppdbaa

namespace Go.Proofs.Ytpccbobomppdbaa
open Go.RowKit

theorem Try.infoMail : (Try.prog.info? 29).map (·.size) = some 16 := by kernel_rfl
theorem mail_load {ops : Array Oper} {rest : List Oper} {o : Oper} {a : Act} {w : World} {Q : Exit → Act → World → Prop} (hgd : Region.wanted o (yielded ops a.tmps) = true) (x : Operand) (ho : o.op = .load 29 x)
    (g : Nat) (hx : a.eval x = .pointer (some ⟨g, 0, none⟩)) (cs : Array Value) (hg : w.heap[g]? = some (.cells cs 29 (0, 0))) (hs : cs.size = 16)
    (h : wpList Try.prog ops Q rest (a.put o.dst (.agg cs)) w) : wpList Try.prog ops Q (o :: rest) a w :=
  wpList_step fun K hK => by
    rw [if_pos hgd]
    exact wp_load_row 29 x ho g hx 29 cs (0, 0) _ hg Try.underlying29 rfl (by rw [hs]; exact Try.infoMail) (hK _ _ h)
theorem mail_exec {o : Oper} {ρ : Operand → Value} {w : World} (x : Operand) (ho : o.op = .load 29 x) (g : Nat) (hx : ρ x = .pointer (some ⟨g, 0, none⟩)) (cs : Array Value) (hg : w.heap[g]? = some (.cells cs 29 (0, 0))) (hs : cs.size = 16) :
    (execOp ρ o).run Try.prog w = .ok (.value (.agg cs)) w := by
  unfold execOp
  simp only [ho, hx, Instr.loadAt, Instr.sureAddr, Sem.run_bind, Sem.run_pure, Result.andThen_ok, run_loadVar_row w g 29 29 cs (0, 0) _ hg Try.underlying29 rfl (by rw [hs]; exact Try.infoMail)]
end Go.Proofs.Ytpccbobomppdbaa

namespace Go.Proofs.Ytpccbobomppdbaa
open Go.RowKit

def liveM : Ml := ⟨4, 65, [⟨⟨#[97]⟩, 5⟩], zeroK, 0, 0, 0, 0⟩
theorem liveM_may : mayM liveM = true := by kernel_rfl
theorem zeroMl_may : mayM zeroMl = false := by kernel_rfl
theorem liveM_i64 : I64 liveM.yN := by unfold I64; decide
theorem liveM_un : unM (encM liveM) = some liveM := (unM_iff (encM_lt _) _).2 ⟨liveM_may, liveM_i64, rfl⟩
theorem liveM_bd : BdL liveM.items := ⟨fun z hz => by
  obtain rfl : z = ⟨⟨#[97]⟩, 5⟩ := by simpa [liveM] using hz
  exact ⟨by decide, by decide, by decide⟩, by decide⟩
theorem zeroK_bd : BdL zeroK.items := ⟨fun z hz => (by cases hz), by decide⟩
set_option maxRecDepth 100000 in
set_option maxHeartbeats 2000000 in
theorem mlives_any (w : World) : Calls Try.prog 7 #[] w fun e W => e = .returned (.bool true) ∧ Below w.heap.size w W := by
  have kb0 := block_alloc (block_new w (.cells #[.string { data := #[97] }, .int .i64 5] 46)) (.cells #[.int .i64 4, .int .i64 65, .slice (some ⟨w.heap.size, 0, none⟩) 1 1, .int .i64 0, .int .i64 0, .int .i64 0, .int .i64 0, .int .i64 0, .int .i64 0, .int .i64 0, .string { data := #[] }, .slice none 0 0, .int .i64 0, .int .i64 0, .int .i64 0, .int .i64 0] 29)
  have ka0 := block_new (w.alloc (.cells #[.string { data := #[97] }, .int .i64 5] 46)) (.cells #[.int .i64 4, .int .i64 65, .slice (some ⟨w.heap.size, 0, none⟩) 1 1, .int .i64 0, .int .i64 0, .int .i64 0, .int .i64 0, .int .i64 0, .int .i64 0, .int .i64 0, .string { data := #[] }, .slice none 0 0, .int .i64 0, .int .i64 0, .int .i64 0, .int .i64 0] 29)
  have hb0 := ((Below.refl _ w).alloc (Nat.le_refl _) (.cells #[.string { data := #[97] }, .int .i64 5] 46)).alloc (by simp) (.cells #[.int .i64 4, .int .i64 65, .slice (some ⟨w.heap.size, 0, none⟩) 1 1, .int .i64 0, .int .i64 0, .int .i64 0, .int .i64 0, .int .i64 0, .int .i64 0, .int .i64 0, .string { data := #[] }, .slice none 0 0, .int .i64 0, .int .i64 0, .int .i64 0, .int .i64 0] 29)
  simp only [World.size_alloc] at ka0
  obtain ⟨W2, hW2⟩ : ∃ W2, (w.alloc (.cells #[.string { data := #[97] }, .int .i64 5] 46)).alloc (.cells #[.int .i64 4, .int .i64 65, .slice (some ⟨w.heap.size, 0, none⟩) 1 1, .int .i64 0, .int .i64 0, .int .i64 0, .int .i64 0, .int .i64 0, .int .i64 0, .int .i64 0, .string { data := #[] }, .slice none 0 0, .int .i64 0, .int .i64 0, .int .i64 0, .int .i64 0] 29) = W2 := ⟨_, rfl⟩
  rw [hW2] at kb0 ka0 hb0
  have HRA : Hid (Rd W2 2 (some ⟨w.heap.size, 0, none⟩) liveM.items.length (liveM.items.flatMap encI)) := Lib.hid (rd_oneA kb0 : Rd W2 2 (some ⟨w.heap.size, 0, none⟩) 1 (encI ⟨⟨#[97]⟩, 5⟩))
  have HB2 := Lib.hid hb0
  have HCA : Hid (∀ W, Below W2.heap.size W2 W → W.heap[w.heap.size + 1]? = some (.cells #[.int .i64 4, .int .i64 65, .slice (some ⟨w.heap.size, 0, none⟩) 1 1, .int .i64 0, .int .i64 0, .int .i64 0, .int .i64 0, .int .i64 0, .int .i64 0, .int .i64 0, .string { data := #[] }, .slice none 0 0, .int .i64 0, .int .i64 0, .int .i64 0, .int .i64 0] 29 (0, 0))) := Lib.hid (fun W hW => (hW.block _ (lt_of_block ka0)).trans ka0)
  have HW2 := Lib.hid hW2
  have hgz : liveM.ask.good.size ≤ 9223372036854775807 := by decide
  have HENC : Hid (Calls Try.prog 8 #[.agg #[.int .i64 4, .int .i64 65, .slice (some ⟨w.heap.size, 0, none⟩) 1 1, .int .i64 0, .int .i64 0, .int .i64 0, .int .i64 0, .int .i64 0, .int .i64 0, .int .i64 0, .string { data := #[] }, .slice none 0 0, .int .i64 0, .int .i64 0, .int .i64 0, .int .i64 0]] W2 fun e W => ∃ v, e = .returned (.tuple #[v, .int .i64 0]) ∧ Bs W v (encM liveM) ∧ Below W2.heap.size W2 W) := Lib.hid (menc_ok liveM (some ⟨w.heap.size, 0, none⟩) 1 none 0 W2 HRA.out Rd.nil liveM_bd zeroK_bd hgz liveM_may liveM_i64)
  have HMZ : Hid (∀ W, Calls Try.prog 14 #[.agg #[.int .i64 0, .int .i64 0, .slice none 0 0, .int .i64 0, .int .i64 0, .int .i64 0, .int .i64 0, .int .i64 0, .int .i64 0, .int .i64 0, .string { data := #[] }, .slice none 0 0, .int .i64 0, .int .i64 0, .int .i64 0, .int .i64 0]] W fun e W' => e = .returned (.bool false) ∧ Below W.heap.size W W') := Lib.hid (fun W => zeroMl_may ▸ mmay_any zeroMl none 0 none 0 W Rd.nil Rd.nil zeroK_bd zeroK_bd (by decide))
  have HML : Hid (∀ W, Below W2.heap.size W2 W → Calls Try.prog 14 #[.agg #[.int .i64 4, .int .i64 65, .slice (some ⟨w.heap.size, 0, none⟩) 1 1, .int .i64 0, .int .i64 0, .int .i64 0, .int .i64 0, .int .i64 0, .int .i64 0, .int .i64 0, .string { data := #[] }, .slice none 0 0, .int .i64 0, .int .i64 0, .int .i64 0, .int .i64 0]] W fun e W' => e = .returned (.bool true) ∧ Below W.heap.size W W') := Lib.hid (fun W hW => liveM_may ▸ mmay_any liveM (some ⟨w.heap.size, 0, none⟩) 1 none 0 W (HRA.out.below hW) Rd.nil liveM_bd zeroK_bd hgz)
  have HDEC : Hid (∀ W v, Bs W v (encM liveM) → Calls Try.prog 16 #[v] W (RetDecM W (some liveM))) := Lib.hid (fun W v hv => liveM_un ▸ mdec_any v (encM liveM) W hv (encM_lt _) (by have := encM_le (mayM_lim liveM_may); omega))
  have HS1 : Hid (∀ W (A4 : Option Addr) (c4 : Nat) (A5 : Option Addr) (c5 : Nat), Rd W 2 A4 liveM.items.length (liveM.items.flatMap encI) → Rd W 2 A5 0 [] → Below W2.heap.size W2 W → Calls Try.prog 9 #[.agg #[.int .i64 4, .int .i64 65, .slice A4 1 c4, .int .i64 0, .int .i64 0, .int .i64 0, .int .i64 0, .int .i64 0, .int .i64 0, .int .i64 0, .string { data := #[] }, .slice A5 0 c5, .int .i64 0, .int .i64 0, .int .i64 0, .int .i64 0], .agg #[.int .i64 4, .int .i64 65, .slice (some ⟨w.heap.size, 0, none⟩) 1 1, .int .i64 0, .int .i64 0, .int .i64 0, .int .i64 0, .int .i64 0, .int .i64 0, .int .i64 0, .string { data := #[] }, .slice none 0 0, .int .i64 0, .int .i64 0, .int .i64 0, .int .i64 0]] W fun e W' => e = .returned (.bool true) ∧ Below W.heap.size W W') := Lib.hid (fun W A4 c4 A5 c5 h4 h5 hW => (eqM_iff.2 (rfl : liveM = liveM)) ▸ xmsame_any liveM liveM A4 A5 c4 c5 (some ⟨w.heap.size, 0, none⟩) none 1 0 W h4 h5 (HRA.out.below hW) Rd.nil (by decide) (by decide))
  have HS2 : Hid (∀ W (A4 : Option Addr) (c4 : Nat) (A5 : Option Addr) (c5 : Nat), Rd W 2 A4 liveM.items.length (liveM.items.flatMap encI) → Rd W 2 A5 0 [] → Below W2.heap.size W2 W → Calls Try.prog 10 #[.agg #[.int .i64 4, .int .i64 65, .slice A4 1 c4, .int .i64 0, .int .i64 0, .int .i64 0, .int .i64 0, .int .i64 0, .int .i64 0, .int .i64 0, .string { data := #[] }, .slice A5 0 c5, .int .i64 0, .int .i64 0, .int .i64 0, .int .i64 0], .agg #[.int .i64 4, .int .i64 65, .slice (some ⟨w.heap.size, 0, none⟩) 1 1, .int .i64 0, .int .i64 0, .int .i64 0, .int .i64 0, .int .i64 0, .int .i64 0, .int .i64 0, .string { data := #[] }, .slice none 0 0, .int .i64 0, .int .i64 0, .int .i64 0, .int .i64 0]] W fun e W' => e = .returned (.bool true) ∧ Below W.heap.size W W') := Lib.hid (fun W A4 c4 A5 c5 h4 h5 hW => (eqM_iff.2 (rfl : liveM = liveM)) ▸ msame_any liveM liveM A4 A5 c4 c5 (some ⟨w.heap.size, 0, none⟩) none 1 0 W h4 h5 (HRA.out.below hW) Rd.nil (by decide) (by decide))
  have HHAS : Hid (∀ W, Calls Try.prog 11 #[.int .i64 4] W fun e W' => e = .returned (.string ⟨#[111, 105]⟩) ∧ W = W') := Lib.hid (fun W => (show txtM 4 = ⟨#[111, 105]⟩ by kernel_rfl) ▸ mhas_any 4 W)
  clear kb0 ka0 hb0 hW2 hgz
  obtain ⟨EN, hEN⟩ : ∃ EN, encM liveM = EN := ⟨_, rfl⟩
  rw [hEN] at HENC HDEC
  clear hEN
  go_enter Try.func7, Try.ntmps7
  have ka2 := HCA.out W2 (Below.refl _ _)
  rw [← HW2.out] at ka2
  go_wp2_with (first | (refine mail_load (by rfl) (.tmp 1) rfl _ rfl #[.int .i64 4, .int .i64 65, .slice (some ⟨w.heap.size, 0, none⟩) 1 1, .int .i64 0, .int .i64 0, .int .i64 0, .int .i64 0, .int .i64 0, .int .i64 0, .int .i64 0, .string { data := #[] }, .slice none 0 0, .int .i64 0, .int .i64 0, .int .i64 0, .int .i64 0] (ka2) rfl ?_))
  rw [HW2.out]
  refine HENC.out.mono ?_
  rintro e w3 ⟨v, rfl, hv, hb⟩
  have HV := Lib.hid hv
  have HB3 := Lib.hid hb
  obtain ⟨Ab, cb, rfl, _, _, _⟩ := hv
  obtain ⟨ne, hne⟩ : ∃ ne, EN.length = ne := ⟨_, rfl⟩
  rw [hne] at HV ⊢
  clear hb hne ka2
  go_wp2_with fail
  refine (HDEC.out w3 _ HV.out).mono ?_
  rintro e w4 ⟨hs, _⟩
  obtain ⟨A4, c4, A5, c5, he, hr4, hr5, hb4⟩ := hs liveM rfl
  have he2 : e = .returned (.tuple #[.agg #[.int .i64 4, .int .i64 65, .slice A4 1 c4, .int .i64 0, .int .i64 0, .int .i64 0, .int .i64 0, .int .i64 0, .int .i64 0, .int .i64 0, .string { data := #[] }, .slice A5 0 c5, .int .i64 0, .int .i64 0, .int .i64 0, .int .i64 0], .int .i64 0]) := he
  clear he
  subst he2
  have HB4 := Lib.hid (HB3.out.trans (hb4.mono HB3.out.size))
  have hb5 := (Below.refl w4.heap.size w4).alloc (Nat.le_refl _) (.cells #[.int .i64 4, .int .i64 65, .slice A4 1 c4, .int .i64 0, .int .i64 0, .int .i64 0, .int .i64 0, .int .i64 0, .int .i64 0, .int .i64 0, .string { data := #[] }, .slice A5 0 c5, .int .i64 0, .int .i64 0, .int .i64 0, .int .i64 0] 29)
  have kp := block_new w4 (.cells #[.int .i64 4, .int .i64 65, .slice A4 1 c4, .int .i64 0, .int .i64 0, .int .i64 0, .int .i64 0, .int .i64 0, .int .i64 0, .int .i64 0, .string { data := #[] }, .slice A5 0 c5, .int .i64 0, .int .i64 0, .int .i64 0, .int .i64 0] 29)
  have HB5 := Lib.hid (HB4.out.trans (hb5.mono HB4.out.size))
  have HR4 := Lib.hid (hr4.below hb5)
  have HR5 : Hid (Rd (w4.alloc (.cells #[.int .i64 4, .int .i64 65, .slice A4 1 c4, .int .i64 0, .int .i64 0, .int .i64 0, .int .i64 0, .int .i64 0, .int .i64 0, .int .i64 0, .string { data := #[] }, .slice A5 0 c5, .int .i64 0, .int .i64 0, .int .i64 0, .int .i64 0] 29)) 2 A5 0 []) := Lib.hid (hr5.below hb5)
  obtain ⟨pb, hpb⟩ : ∃ pb, w4.heap.size = pb := ⟨_, rfl⟩
  obtain ⟨W5, hW5⟩ : ∃ W5, w4.alloc (.cells #[.int .i64 4, .int .i64 65, .slice A4 1 c4, .int .i64 0, .int .i64 0, .int .i64 0, .int .i64 0, .int .i64 0, .int .i64 0, .int .i64 0, .string { data := #[] }, .slice A5 0 c5, .int .i64 0, .int .i64 0, .int .i64 0, .int .i64 0] 29) = W5 := ⟨_, rfl⟩
  rw [hW5] at HB5 HR4 HR5
  have kpr := kp
  rw [hW5, hpb] at kp
  have HCP : Hid (∀ W, Below W5.heap.size W5 W → W.heap[pb]? = some (.cells #[.int .i64 4, .int .i64 65, .slice A4 1 c4, .int .i64 0, .int .i64 0, .int .i64 0, .int .i64 0, .int .i64 0, .int .i64 0, .int .i64 0, .string { data := #[] }, .slice A5 0 c5, .int .i64 0, .int .i64 0, .int .i64 0, .int .i64 0] 29 (0, 0))) := Lib.hid (fun W hW => (hW.block _ (lt_of_block kp)).trans kp)
  have HC5 := Lib.hid (Below.refl W5.heap.size W5)
  have kar : (w4.alloc (.cells #[.int .i64 4, .int .i64 65, .slice A4 1 c4, .int .i64 0, .int .i64 0, .int .i64 0, .int .i64 0, .int .i64 0, .int .i64 0, .int .i64 0, .string { data := #[] }, .slice A5 0 c5, .int .i64 0, .int .i64 0, .int .i64 0, .int .i64 0] 29)).heap[w.heap.size + 1]? = some (.cells #[.int .i64 4, .int .i64 65, .slice (some ⟨w.heap.size, 0, none⟩) 1 1, .int .i64 0, .int .i64 0, .int .i64 0, .int .i64 0, .int .i64 0, .int .i64 0, .int .i64 0, .string { data := #[] }, .slice none 0 0, .int .i64 0, .int .i64 0, .int .i64 0, .int .i64 0] 29 (0, 0)) := by rw [hW5]; exact HCA.out W5 HB5.out
  have HW5 := Lib.hid hW5
  have HPB := Lib.hid hpb
  clear hs hr4 hr5 hb4 hb5 hpb hW5 kp
  go_wp2_with (first | (refine mail_load (by rfl) (.tmp 4) rfl _ rfl #[.int .i64 4, .int .i64 65, .slice A4 1 c4, .int .i64 0, .int .i64 0, .int .i64 0, .int .i64 0, .int .i64 0, .int .i64 0, .int .i64 0, .string { data := #[] }, .slice A5 0 c5, .int .i64 0, .int .i64 0, .int .i64 0, .int .i64 0] (kpr) rfl ?_) | (refine mail_load (by rfl) (.tmp 1) rfl _ rfl #[.int .i64 4, .int .i64 65, .slice (some ⟨w.heap.size, 0, none⟩) 1 1, .int .i64 0, .int .i64 0, .int .i64 0, .int .i64 0, .int .i64 0, .int .i64 0, .int .i64 0, .string { data := #[] }, .slice none 0 0, .int .i64 0, .int .i64 0, .int .i64 0, .int .i64 0] (kar) rfl ?_))
  rw [HW5.out]
  clear kpr kar
  refine (HS1.out W5 A4 c4 A5 c5 HR4.out HR5.out HB5.out).mono ?_
  rintro e w6 ⟨rfl, hb⟩
  have HB6 := Lib.hid (HB5.out.trans (hb.mono HB5.out.size))
  have HC6 := Lib.hid (HC5.out.trans (hb.mono HC5.out.size))
  clear hb
  rw [HPB.out]
  have ka6 := HCA.out w6 HB6.out
  have kp6 := HCP.out w6 HC6.out
  go_wp2_with (first | (refine mail_load (by rfl) (.tmp 4) rfl _ rfl #[.int .i64 4, .int .i64 65, .slice A4 1 c4, .int .i64 0, .int .i64 0, .int .i64 0, .int .i64 0, .int .i64 0, .int .i64 0, .int .i64 0, .string { data := #[] }, .slice A5 0 c5, .int .i64 0, .int .i64 0, .int .i64 0, .int .i64 0] (kp6) rfl ?_) | (refine mail_load (by rfl) (.tmp 1) rfl _ rfl #[.int .i64 4, .int .i64 65, .slice (some ⟨w.heap.size, 0, none⟩) 1 1, .int .i64 0, .int .i64 0, .int .i64 0, .int .i64 0, .int .i64 0, .int .i64 0, .int .i64 0, .string { data := #[] }, .slice none 0 0, .int .i64 0, .int .i64 0, .int .i64 0, .int .i64 0] (ka6) rfl ?_))
  refine (HS2.out w6 A4 c4 A5 c5 (HR4.out.below HC6.out) (HR5.out.below HC6.out) HB6.out).mono ?_
  rintro e w7 ⟨rfl, hb⟩
  have HB7 := Lib.hid (HB6.out.trans (hb.mono HB6.out.size))
  clear hb ka6 kp6
  have ka7 := HCA.out w7 HB7.out
  go_wp2_with (first | (refine mail_load (by rfl) (.tmp 1) rfl _ rfl #[.int .i64 4, .int .i64 65, .slice (some ⟨w.heap.size, 0, none⟩) 1 1, .int .i64 0, .int .i64 0, .int .i64 0, .int .i64 0, .int .i64 0, .int .i64 0, .int .i64 0, .string { data := #[] }, .slice none 0 0, .int .i64 0, .int .i64 0, .int .i64 0, .int .i64 0] (ka7) rfl ?_))
  refine (HML.out w7 HB7.out).mono ?_
  rintro e w8 ⟨rfl, hb⟩
  have HB8 := Lib.hid (HB7.out.trans (hb.mono HB7.out.size))
  clear hb ka7
  go_wp2_with fail
  refine (HHAS.out w8).mono ?_
  rintro e w9 ⟨rfl, rfl⟩
  go_wp2_with fail
  refine (answers_any 3 w8).mono ?_
  rintro e w9 ⟨rfl, rfl⟩
  go_wp2_with fail
  refine (HMZ.out w8).mono ?_
  rintro e w9 ⟨rfl, hb⟩
  have HB9 := Lib.hid (HB8.out.trans (hb.mono HB8.out.size))
  clear hb
  go_wp2
  go_ret
  exact ⟨ret_bool (by simp), HB2.out.trans (HB9.out.mono HB2.out.size)⟩
end Go.Proofs.Ytpccbobomppdbaa

namespace Go.Proofs.Ytpccbobomppdbaa
open Go.RowKit

set_option maxRecDepth 100000 in
set_option maxHeartbeats 1000000 in
theorem mkl_any (k : Int) (w : World) :
    Calls Try.prog 4 #[.int .i64 k] w fun e W => e = .returned (.bool true) ∧ Below w.heap.size w W := by
  have HL := Lib.hid (mlives_any w)
  have HH := Lib.hid (fun W => mhas_any k W)
  have HX := Lib.hid (fun W => xmhas_any k W)
  have HA := Lib.hid (fun W => answers_any k W)
  obtain ⟨H, hH⟩ : ∃ H, txtM k = H := ⟨_, rfl⟩
  simp only [hH] at HH HX
  obtain ⟨a, ha⟩ : ∃ a, ansM k = a := ⟨_, rfl⟩
  have HAA := Lib.hid ha
  simp only [ha] at HA
  clear hH ha
  by_cases hk : k = 1 ∨ k = 3 ∨ k = 5 ∨ k = 7 ∨ k = 9 ∨ k = 11
  · have HAE : Hid (a = k + 1) := Lib.hid (by rw [← HAA.out]; unfold ansM; rw [if_pos hk])
    rcases hk with rfl | rfl | rfl | rfl | rfl | rfl
    all_goals
      have e := HAE.out
      simp only [Int.reduceAdd] at e
      subst e
      go_enter Try.func4, Try.ntmps4
      go_wp2_with fail
      refine HL.out.mono ?_
      rintro e w1 ⟨rfl, hb⟩
      have HB := Lib.hid hb
      clear hb
      go_wp2_with fail
      refine (HH.out w1).mono ?_
      rintro e w2 ⟨rfl, rfl⟩
      go_wp2_with fail
      refine (HX.out w1).mono ?_
      rintro e w3 ⟨rfl, hb⟩
      have HB3 := Lib.hid (HB.out.trans (hb.mono HB.out.size))
      clear hb
      go_wp2_with fail
      refine (HA.out w3).mono ?_
      rintro e w4 ⟨rfl, rfl⟩
      go_wp2
      go_ret
      exact ⟨ret_bool (by simp), HB3.out⟩
  · have e : a = 0 := by rw [← HAA.out]; unfold ansM; rw [if_neg hk]
    subst e
    have e1 : (k == 1) = false := by simp; omega
    have e3 : (k == 3) = false := by simp; omega
    have e5 : (k == 5) = false := by simp; omega
    have e7 : (k == 7) = false := by simp; omega
    have e9 : (k == 9) = false := by simp; omega
    have e11 : (k == 11) = false := by simp; omega
    clear hk
    go_enter Try.func4, Try.ntmps4
    go_wp2_with fail
    refine HL.out.mono ?_
    rintro e w1 ⟨rfl, hb⟩
    have HB := Lib.hid hb
    clear hb
    go_wp2_with fail
    refine (HH.out w1).mono ?_
    rintro e w2 ⟨rfl, rfl⟩
    go_wp2_with fail
    refine (HX.out w1).mono ?_
    rintro e w3 ⟨rfl, hb⟩
    have HB3 := Lib.hid (HB.out.trans (hb.mono HB.out.size))
    clear hb
    go_wp2_with fail
    refine (HA.out w3).mono ?_
    rintro e w4 ⟨rfl, rfl⟩
    go_wp2
    go_ret
    exact ⟨ret_bool (by simp), HB3.out⟩
end Go.Proofs.Ytpccbobomppdbaa

namespace Go.Proofs.Ytpccbobomppdbaa
open Go.ChangeShapes Go.WideShapes Go.ChangeAt Go.RowKit Go.Deep

theorem own : ownKnob Try.prog.godebug = none := by kernel_rfl
theorem laidOut : laidOutB Try.prog = true := by kernel_rfl

section
variable {H : Type} {enc : TypeId × Value → H} {P : Program}
theorem trodAll_below (hl : laidOutB P = true) {W W' : World} (hb : Below W.heap.size W W') : ∀ (ts : List TypeId), (∀ t ∈ ts, P.readableRec t = true ∧ t < P.types.size) → ∀ (vs : List Value) (ds : List (DataW H)) (ps : List MemPlace),
    DataW.TrodAll enc P W 0 (fun _ => true) true ts vs ds ps → (∀ x ∈ ps, x.block < W.heap.size) → DataW.TrodAll enc P W' 0 (fun b => decide (b < W.heap.size)) true ts vs ds ps
  | [], _, [], [], _, h, _ => h
  | [], _, _ :: _, _, _, h, _ => h.elim
  | [], _, [], _ :: _, _, h, _ => h.elim
  | _ :: _, _, [], _, _, h, _ => h.elim
  | _ :: _, _, _ :: _, [], _, h, _ => h.elim
  | t :: ts, hts, v :: vs, d :: ds, ps, h, hlt => by
    obtain ⟨p, q, h1, h2, rfl⟩ := h
    obtain ⟨hr, hrow⟩ := hts t (by simp)
    exact ⟨p, q, Below.trod hl hr hrow h1 hb (fun x hx => hlt x (by simp [hx])), trodAll_below hl hb ts (fun t ht => hts t (by simp [ht])) vs ds q h2 (fun x hx => hlt x (by simp [hx])), rfl⟩

/-- What a law owes behind its walk: it answered true, and nothing that was there has turned. -/
theorem post_true (hl : laidOutB P = true) {f : Func} {s : ChangeSpec} {W W' : World} {args : Array Value} {ds gs : List (DataW H)} {before : List MemPlace} {tb : TypeId}
    (hts : ∀ t ∈ f.params.toList, P.readableRec t = true ∧ t < P.types.size) (hrt : f.resultTypes = #[tb]) (hb : P.underlying tb = some .bool) (hvars : s.vars = [])
    (hres : (s.fn H (ds ++ gs)).results = [.lit (.bool true)]) (hargs : (s.fn H (ds ++ gs)).args = ds) (hsv : (s.fn H (ds ++ gs)).vars = [])
    (hW : DataW.Whole enc P f.params.toList s.vars false W args.toList ds gs before) (bel : Below W.heap.size W W') :
    s.post enc P f false true false false W args (.bool true) W' := by
  have hW' := hW
  obtain ⟨p, q, hA, hV, hpq, _⟩ := hW
  rw [hvars] at hV
  have hlt := hW'.lt
  obtain ⟨rfl, rfl⟩ := trodVars_none hV
  refine ⟨ds, [], before, [], p, [], hW', ?_, ?_, ?_, bel.frame _, fun h => by cases h⟩
  · rw [hres, hrt]
    exact trodAll_mk1 (shut_bool hb _)
  · rw [hargs]
    exact trodAll_below hl bel _ hts _ _ _ hA (fun x hx => hlt x (by rw [hpq]; simp [hx]))
  · rw [hvars, hsv]
    exact rfl
end

/-- A slice of integers that came in. -/
def IsRow (k : IntKind) (w : World) (a : Option Addr) (len cap : Nat) (zs : List Int) : Prop :=
  len ≤ cap ∧ cap ≤ maxLen ∧ Rd w 1 a len (zs.map (Value.int k)) ∧ ∀ n ∈ zs, (Lit.int k n).wf = true

theorem IsRow.length {k : IntKind} {w : World} {a : Option Addr} {len cap : Nat} {zs : List Int} (h : IsRow k w a len cap zs) : zs.length = len := by
  have := h.2.2.1.1
  simpa using this
theorem IsRow.at_ {k : IntKind} {w : World} {a : Option Addr} {len cap : Nat} {zs : List Int} (h : IsRow k w a len cap zs) (hi : 0 < len) : ∃ g o, a = some ⟨g, o, none⟩ ∧ g < w.heap.size ∧ ∀ i (h : i < zs.length), w.cell? ⟨g, o + i, none⟩ = some (.int k zs[i]) := by
  obtain ⟨g, o, ha, hg, hc⟩ := h.2.2.1.2 hi
  exact ⟨g, o, ha, hg, fun i hi => hc i _ (by simp [hi])⟩
theorem IsRow.below {k : IntKind} {w w' : World} {a : Option Addr} {len cap : Nat} {zs : List Int} (h : IsRow k w a len cap zs) (hb : Below w.heap.size w w') : IsRow k w' a len cap zs :=
  ⟨h.1, h.2.1, h.2.2.1.below hb, h.2.2.2⟩

section
variable {H : Type} {enc : TypeId × Value → H} {P : Program} {w : World}
theorem open_row {t e : TypeId} {k : IntKind} {v : Value} {base : Nat} {d : DataW H} {p : List MemPlace} (ht : P.underlying t = some (.slice e)) (he : P.underlying e = some (.int k)) (hC : P.cellsOf e = 1)
    (hv : Value.okWide P w .any base t v) (h : DataW.Trod enc P w 0 (fun _ => true) true t v d p) : ∃ a len cap zs, v = .slice a len cap ∧ IsRow k w a len cap zs := by
  obtain ⟨a0, len0, cap0, rfl⟩ := okWide_slice ht hv
  obtain ⟨fuel, hf⟩ := h
  rcases open_ints ht he hC hf with ⟨hcs, _⟩ | ⟨x, l, c, zs, hcs, _, hl, hm, hz, _, hcell, hwz⟩
  · simp [Value.cells] at hcs
    obtain ⟨rfl, rfl, rfl⟩ := hcs
    exact ⟨_, _, _, [], rfl, Nat.le_refl _, Nat.zero_le _, Rd.nil, by simp⟩
  · simp [Value.cells] at hcs
    obtain ⟨rfl, rfl, rfl⟩ := hcs
    have hz' : zs.length = cap0 := by simpa using hz
    refine ⟨_, _, _, zs.take len0, rfl, hl, hm, ⟨by simp; omega, fun hn => ?_⟩, fun n hn => hwz n (List.mem_of_mem_take hn)⟩
    obtain ⟨g, o, s⟩ := x
    have hc := hcell 0 (by omega)
    have hspot : s = none := by simpa [Addr.add] using World.cell?_spot hc
    subst hspot
    refine ⟨g, o, rfl, by simpa [Addr.add] using World.block_lt_of_cell? w _ hc, fun j u hu => ?_⟩
    have hj : j < zs.length ∧ j < len0 := by
      have := (List.getElem?_eq_some_iff.1 hu).1
      simp at this
      omega
    have hcj := hcell j hj.1
    rw [List.getElem?_map, List.getElem?_take, if_pos hj.2, List.getElem?_eq_getElem hj.1] at hu
    simp only [Option.map_some, Option.some.injEq] at hu
    rw [← hu]
    have e : (⟨g, o, none⟩ : Addr).add j = ⟨g, o + j, none⟩ := by unfold Addr.add; split <;> simp_all
    rw [e] at hcj
    rw [hcj]
    simp [List.getD, hj.1]
end

end Go.Proofs.Ytpccbobomppdbaa

namespace Go.Proofs.Ytpccbobomppdbaa
open Go.ChangeShapes Go.WideShapes Go.ChangeAt Go.RowKit Go.Deep

theorem add_none (g o j : Nat) : (⟨g, o, none⟩ : Addr).add j = ⟨g, o + j, none⟩ := by unfold Addr.add; split <;> simp_all
theorem flatMap_at' {α : Type} (enc : α → List Value) (size : Nat) (h : ∀ x, (enc x).length = size) (zs : List α) (i j : Nat) (hi : i < zs.length) (hj : j < size) : (zs.flatMap enc)[i * size + j]? = (enc zs[i])[j]? := by
  induction zs generalizing i with
  | nil => simp at hi
  | cons z zs ih =>
    cases i with
    | zero =>
      rw [List.flatMap_cons, List.getElem?_append_left (by rw [h]; omega)]
      simp
    | succ i =>
      rw [List.flatMap_cons, List.getElem?_append_right (by rw [h, Nat.succ_mul]; omega), h, show (i + 1) * size + j - size = i * size + j from by rw [Nat.succ_mul]; omega, ih i (by simpa using hi)]
      simp
theorem flatMap_len' {α : Type} (enc : α → List Value) (size : Nat) (h : ∀ x, (enc x).length = size) (zs : List α) : (zs.flatMap enc).length = zs.length * size := by
  induction zs with
  | nil => simp
  | cons z zs ih => rw [List.flatMap_cons, List.length_append, h, ih, List.length_cons, Nat.succ_mul]; omega

section
variable {H : Type} {enc : TypeId × Value → H} {P : Program} {w : World} {base : Nat} {held : Bool}
theorem choose_list {α : Type} (p : Nat → α → Prop) : ∀ n, (∀ i, i < n → ∃ z, p i z) → ∃ zs : List α, zs.length = n ∧ ∀ i (h : i < zs.length), p i zs[i]
  | 0, _ => ⟨[], rfl, fun i h => absurd h (by simp)⟩
  | n + 1, h => by
    obtain ⟨zs, hl, hz⟩ := choose_list p n (fun i hi => h i (by omega))
    obtain ⟨z, hp⟩ := h n (by omega)
    refine ⟨zs ++ [z], by simp [hl], fun i hi => ?_⟩
    by_cases hin : i < zs.length
    · rw [List.getElem_append_left hin]; exact hz i hin
    · have : i = n := by simp at hi; omega
      subst this
      rw [List.getElem_append_right (by omega)]
      simpa [hl] using hp
/-- A slice, opened: 'hel' opens an element. -/
theorem open_list {α : Type} {t e : TypeId} {size fuel : Nat} {cs : List Value} {x : DataW H × List MemPlace} (ht : P.underlying t = some (.slice e)) (hC : P.cellsOf e = size) (hs : 0 < size) (encE : α → List Value) (Good : α → Prop) (hlen : ∀ z, (encE z).length = size)
    (hel : ∀ n cs x, DataW.trod enc P w base (fun _ => true) held n e cs = some x → (∀ m ∈ x.1.weights P e, m ≤ reachBytes) → ∃ z, cs = encE z ∧ Good z)
    (h : DataW.trod enc P w base (fun _ => true) held fuel t cs = some x) (hw : ∀ m ∈ x.1.weights P t, m ≤ reachBytes) :
    ∃ (A : Option Addr) (c : Nat) (zs : List α), cs = [.slice A zs.length c] ∧ zs.length ≤ c ∧ c * P.bytesOf e ≤ reachBytes ∧ c ≤ maxLen ∧ SlA A c ∧ Rd w size A zs.length (zs.flatMap encE) ∧ ∀ z ∈ zs, Good z := by
  rcases open_slice ht h with ⟨hcs, hx⟩ | ⟨a, len, cap, m, n, D, Pl, hcs, hb, hl, hm, hmm, hx, hi⟩
  · exact ⟨none, 0, [], hcs, Nat.le_refl _, by simp, Nat.zero_le _, .inl rfl, Rd.nil, by simp⟩
  · have hmc : m = cap := by simpa using hmm
    subst hmc
    subst hx
    have hwe : ∀ q, q ∈ DataW.weightsAll P e ((List.range len).map D) → q ≤ reachBytes := fun q hq => hw q (by simp [DataW.weights, ht, hq])
    have hall : ∀ (l : List (DataW H)) (d : DataW H), d ∈ l → ∀ q ∈ d.weights P e, q ∈ DataW.weightsAll P e l := by
      intro l
      induction l with
      | nil => intro d hd; simp at hd
      | cons d' l ih =>
        intro d hd q hq
        rw [DataW.weightsAll]
        rcases List.mem_cons.1 hd with e | e
        · subst e; exact List.mem_append_left _ hq
        · exact List.mem_append_right _ (ih d e q hq)
    rw [hC] at hi
    have hcell : ∀ i, i < m → ∃ cs', w.cells? base (a.add (i * size)) size = some cs' ∧ DataW.trod enc P w base (fun _ => true) held n e cs' = some (D i, Pl i) := hi
    obtain ⟨zs, hzl, hz⟩ := choose_list (fun i (z : α) => w.cells? base (a.add (i * size)) size = some (encE z) ∧ Good z) len (fun i hil => by
      obtain ⟨cs', h1, h2⟩ := hcell i (by omega)
      obtain ⟨z, rfl, hg⟩ := hel n cs' _ h2 (fun q hq => hwe q (hall _ (D i) (List.mem_map.2 ⟨i, by simpa using hil, rfl⟩) q hq))
      exact ⟨z, h1, hg⟩)
    have hspot : 0 < m → ∃ g o, a = ⟨g, o, none⟩ ∧ g < w.heap.size := fun h0 => by
      obtain ⟨cs', h1, _⟩ := hcell 0 h0
      obtain ⟨_, hcl, hat⟩ := World.cells?_some h1
      have h2 := hat 0 hs
      obtain ⟨g, o, s⟩ := a
      have hc0 : cs'[0]? = some (cs'[0]'(by omega)) := List.getElem?_eq_getElem (by omega)
      rw [hc0] at h2
      have e0 : (⟨g, o, s⟩ : Addr).add (0 * size) = ⟨g, o, s⟩ := by cases s <;> simp [Addr.add]
      rw [e0] at h2
      have e1 : (⟨g, o, s⟩ : Addr).add 0 = ⟨g, o, s⟩ := by cases s <;> simp [Addr.add]
      rw [e1] at h2
      have hsp : s = none := by simpa using World.cell?_spot h2
      subst hsp
      exact ⟨g, o, rfl, by simpa using World.block_lt_of_cell? w _ h2⟩
    subst hzl
    refine ⟨some a, m, zs, hcs, hl, ?_, hm, ?_, ⟨flatMap_len' encE size hlen zs, fun h0 => ?_⟩, fun z hzm => ?_⟩
    · have e0 : zs.length + (m - zs.length) = m := by omega
      exact hw (m * P.bytesOf e) (by simp [DataW.weights, ht, e0])
    · by_cases h0 : m = 0
      · exact .inl h0
      · obtain ⟨g, o, rfl, _⟩ := hspot (by omega)
        exact .inr ⟨g, o, rfl⟩
    · obtain ⟨g, o, rfl, hg⟩ := hspot (by omega)
      refine ⟨g, o, rfl, hg, fun j u hu => ?_⟩
      have hj : j < zs.length * size := by
        have := (List.getElem?_eq_some_iff.1 hu).1
        rwa [flatMap_len' encE size hlen] at this
      have hji : j / size < zs.length := by rw [Nat.div_lt_iff_lt_mul hs]; exact hj
      obtain ⟨h1, _⟩ := hz (j / size) hji
      obtain ⟨_, hcl, hat⟩ := World.cells?_some h1
      have h2 := hat (j % size) (Nat.mod_lt _ hs)
      have e1 : j / size * size + j % size = j := by rw [Nat.mul_comm]; exact Nat.div_add_mod j size
      have h3 := flatMap_at' encE size hlen zs (j / size) (j % size) hji (Nat.mod_lt _ hs)
      rw [e1, hu] at h3
      rw [← h3, add_add, e1] at h2
      rwa [add_none] at h2
    · obtain ⟨i, hil, rfl⟩ := List.getElem_of_mem hzm
      exact (hz i hil).2

theorem trod_str {t : TypeId} {fuel : Nat} {cs : List Value} {x : DataW H × List MemPlace} (ht : P.underlying t = some .string) (h : DataW.trod enc P w base (fun _ => true) held fuel t cs = some x) (hw : ∀ m ∈ x.1.weights P t, m ≤ reachBytes) :
    ∃ s : ByteArray, cs = [.string s] ∧ s.size ≤ 140737488351232 := by
  obtain ⟨s, h1, h2, _⟩ := DataW.trod_string ht h
  refine ⟨s, h1, ?_⟩
  have := hw s.data.toList.length (by rw [h2]; simp [DataW.weights])
  unfold reachBytes at this
  have e : s.data.toList.length = s.size := by simp
  omega
theorem trod_i64 {t : TypeId} {fuel : Nat} {cs : List Value} {x : DataW H × List MemPlace} (ht : P.underlying t = some (.int .i64)) (h : DataW.trod enc P w base (fun _ => true) held fuel t cs = some x) : ∃ n : Int, cs = [.int .i64 n] ∧ -9223372036854775808 ≤ n ∧ n ≤ 9223372036854775807 := by
  obtain ⟨n, h1, _, h2⟩ := DataW.trod_int ht h
  exact ⟨n, h1, bounds_i64 h2⟩
theorem open_i64 {t : TypeId} {v : Value} {b0 : Nat} {d : DataW H} {p : List MemPlace} (ht : P.underlying t = some (.int .i64))
    (hv : Value.okWide P w .any b0 t v) (h : DataW.Trod enc P w base (fun _ => true) held t v d p) : ∃ n : Int, v = .int .i64 n ∧ -9223372036854775808 ≤ n ∧ n ≤ 9223372036854775807 := by
  obtain ⟨fuel, hf⟩ := h
  obtain ⟨n, h1, h2⟩ := trod_i64 ht hf
  refine ⟨n, ?_, h2⟩
  obtain ⟨m, rfl⟩ := okWide_int ht hv
  simpa [Value.cells] using h1
/-- The weights of one argument. -/
theorem weights_at {ts : List TypeId} {ds : List (DataW H)} (h : (DataW.weightsEach P ts ds).all (· ≤ reachBytes) = true) {j : Nat} {t : TypeId} {d : DataW H} (ht : ts[j]? = some t) (hd : ds[j]? = some d) : ∀ m ∈ d.weights P t, m ≤ reachBytes := by
  intro m hm
  have := List.all_eq_true.1 h m (DataW.weights_mem_each ht hd m hm)
  simpa using this
end
end Go.Proofs.Ytpccbobomppdbaa
