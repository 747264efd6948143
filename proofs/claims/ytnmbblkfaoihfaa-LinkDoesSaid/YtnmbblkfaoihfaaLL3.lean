/- The law LinkDoes: every call of an end, in every order. The walk. -/
import Derived.Test.YtnmbblkfaoihfaaLTwo
import Derived.Test.YtnmbblkfaoihfaaLLives
namespace Go.Proofs.Ytnmbblkfaoihfaa
open Go.RowKit

/-- An operation that came in. -/
structure LOp where
  kind : Int
  now : Int
  seq : Int
  ack : Int
  A : Option Addr
  c : Nat
  bs : List Nat
def encO (z : LOp) : List Value := [.int .i64 z.kind, .int .i64 z.now, .int .i64 z.seq, .int .i64 z.ack, .slice z.A z.bs.length z.c]
theorem encO_len (z : LOp) : (encO z).length = 5 := rfl
theorem flatO_at (zs : List LOp) (k j : Nat) (hk : k < zs.length) (hj : j < 5) : (zs.flatMap encO)[k * 5 + j]? = (encO zs[k])[j]? := by
  induction zs generalizing k with
  | nil => simp at hk
  | cons z zs ih =>
    cases k with
    | zero => rw [List.flatMap_cons, List.getElem?_append_left (by rw [encO_len]; omega)]; simp
    | succ k => rw [List.flatMap_cons, List.getElem?_append_right (by rw [encO_len]; omega), encO_len, show (k + 1) * 5 + j - 5 = k * 5 + j by omega, ih k (by simpa using hk)]; simp
def OkO (w : World) (z : LOp) : Prop := (-9223372036854775808 ≤ z.now ∧ z.now ≤ 9223372036854775807) ∧ IsBy w z.A z.c z.bs
/-- The packet of an operation. -/
def pkO (z : LOp) : LPk := ⟨z.seq, z.ack, z.bs⟩
theorem own_none1 (w : World) : (w.alloc (.cells #[] 5)).ownsRow w.heap.size 5 1 (.slice (some ⟨w.heap.size, 0, none⟩) 0 0) 0 [] := own_of_cells w #[] 0 (Nat.zero_le _) rfl

/-- What lies behind the region that sends. -/
def RD13 (w : World) (b : Nat) (z : LOp) (p q : Nat) (s1 s : LSt) (P : LPk) (_g51 : Nat) (_A55 : Option Addr) (_c55 : Nat) (A58 : Option Addr) (c58 g8 : Nat) (W : World) : Prop :=
  W.heap[b]? = some (.cells #[.int .i64 z.kind, .int .i64 z.now, .int .i64 z.seq, .int .i64 z.ack, .slice z.A z.bs.length z.c] 57 (0, 0)) ∧ W.heap[g8]? = some (.cells #[.int .i64 P.seq, .int .i64 P.ack, .slice A58 P.body.length c58] 43 (0, 0)) ∧ ByO W (.slice A58 P.body.length c58) P.body ∧ Two w p q s1 s W

set_option maxRecDepth 100000 in
set_option maxHeartbeats 4000000 in
theorem does_any (A0 : Option Addr) (c0 : Nat) (zs : List LOp) (w : World) (hn : zs.length ≤ 140737488355328) (hrd : Rd w 5 A0 zs.length (zs.flatMap encO)) (hin : ∀ z ∈ zs, OkO w z) :
    Calls Try.prog 6 #[.slice A0 zs.length c0] w fun e w' => e = .returned (.bool true) ∧ Below w.heap.size w w' := by
  obtain ⟨i1, hi1, hy0, hy1, hy2⟩ := info_parts Try.infoByte
  have HRD := Lib.hid hrd
  have HIN := Lib.hid hin
  clear hrd hin
  go_enter Try.func6, Try.ntmps6
  go_wp2_with fail
  refine (lnew_any w).mono ?_
  rintro e w1 ⟨rfl, hE1, hb1⟩
  have H1 := Lib.hid hE1
  have HB1 := Lib.hid hb1
  clear hE1 hb1
  go_wp2_with fail
  refine (lives_any _).mono ?_
  rintro e w3 ⟨rfl, hb3⟩
  have hA := (Below.refl _ w1).alloc (Nat.le_refl _) (.cells #[.slice none 0 0, .int .i64 0, .int .i64 0] 55)
  have htwo : Two w w.heap.size w1.heap.size ⟨[], 0, 0⟩ ⟨[], 0, 0⟩ w3 := by
    have h2 : Two w w.heap.size w1.heap.size ⟨[], 0, 0⟩ ⟨[], 0, 0⟩ (w1.alloc (.cells #[.slice none 0 0, .int .i64 0, .int .i64 0] 55)) :=
      ⟨none, none, H1.out.below hA, ⟨.slice none 0 0, block_new _ _, [], rfl, World.ownsRow_nil _ _ _ _, rfl, by simp⟩, Nat.le_refl _, HB1.out.size, by simp, by simp, HB1.out.trans (hA.mono HB1.out.size)⟩
    exact h2.keep hb3
  obtain ⟨p, hp⟩ : ∃ p, w.heap.size = p := ⟨_, rfl⟩
  obtain ⟨q, hq⟩ : ∃ q, w1.heap.size = q := ⟨_, rfl⟩
  have HTW : Hid (Two w p q ⟨[], 0, 0⟩ ⟨[], 0, 0⟩ w3) := Lib.hid (hp ▸ hq ▸ htwo)
  rw [hp, hq]
  clear htwo hA hb3 H1 HB1 hp hq
  go_wp2_with fail
  go_loopw [5] (fun iv wr => ∃ (k : Nat) (s : LSt), k ≤ zs.length ∧ iv = .int .i64 k ∧ InvL s k ∧ Two w p q s s wr) (fun iv _ => zs.length - (intOf iv).toNat)
  case atStart => exact ⟨0, ⟨[], 0, 0⟩, Nat.zero_le _, rfl, ⟨by simp, by simp, by simp, by simp, by simp, by simp⟩, HTW.out⟩
  case round =>
    obtain ⟨k, s, hk, rfl, hinv, htw⟩ := hrel
    have HI := Lib.hid hinv
    have HT := Lib.hid htw
    clear hinv htw HTW
    by_cases hlt : k < zs.length
    · obtain ⟨g, o, rfl, hg, hcell⟩ := HRD.out.2 (by omega)
      have hat := fun j (hj : j < 5) => flatO_at zs k j hlt hj
      have hbl := HT.out.below
      have hz := HIN.out zs[k] (List.getElem_mem _)
      obtain ⟨z, hzk⟩ : ∃ z, zs[k] = z := ⟨_, rfl⟩
      rw [hzk] at hz
      have HZK := Lib.hid hzk
      have k0 : wr.cell? ⟨g, o + k * 5, none⟩ = some (.int .i64 z.kind) := (hbl.cell (p := ⟨g, o + k * 5, none⟩) hg).trans (hcell (k * 5 + 0) _ ((hat 0 (by omega)).trans (by rw [hzk]; rfl)))
      have k1 : wr.cell? ⟨g, o + k * 5 + 1, none⟩ = some (.int .i64 z.now) := (hbl.cell (p := ⟨g, o + k * 5 + 1, none⟩) hg).trans (hcell (k * 5 + 1) _ ((hat 1 (by omega)).trans (by rw [hzk]; rfl)))
      have k2 : wr.cell? ⟨g, o + k * 5 + 2, none⟩ = some (.int .i64 z.seq) := (hbl.cell (p := ⟨g, o + k * 5 + 2, none⟩) hg).trans (hcell (k * 5 + 2) _ ((hat 2 (by omega)).trans (by rw [hzk]; rfl)))
      have k3 : wr.cell? ⟨g, o + k * 5 + 3, none⟩ = some (.int .i64 z.ack) := (hbl.cell (p := ⟨g, o + k * 5 + 3, none⟩) hg).trans (hcell (k * 5 + 3) _ ((hat 3 (by omega)).trans (by rw [hzk]; rfl)))
      have k4 : wr.cell? ⟨g, o + k * 5 + 4, none⟩ = some (.slice z.A z.bs.length z.c) := (hbl.cell (p := ⟨g, o + k * 5 + 4, none⟩) hg).trans (hcell (k * 5 + 4) _ ((hat 4 (by omega)).trans (by rw [hzk]; rfl)))
      have HZ := Lib.hid hz
      have hnow := hz.1
      clear hat hcell hzk hz hbl
      by_cases hlong : 10000 < z.bs.length
      · go_wp2_with fail
        go_roundw
        case rel => exact ⟨k + 1, s, hlt, by go_num, by have := HI.out.next; simpa using this, HT.out.keep ((Below.refl _ wr).alloc (Nat.le_refl _) _)⟩
        case measure => simp [intOf]; omega
      have hb0 := block_new wr (.cells #[.int .i64 z.kind, .int .i64 z.now, .int .i64 z.seq, .int .i64 z.ack, .slice z.A z.bs.length z.c] 57)
      have HT0 := Lib.hid (HT.out.keep ((Below.refl _ wr).alloc (Nat.le_refl _) (.cells #[.int .i64 z.kind, .int .i64 z.now, .int .i64 z.seq, .int .i64 z.ack, .slice z.A z.bs.length z.c] 57)))
      have HB0 := Lib.hid hb0
      clear hb0
      by_cases h1 : z.kind = 1
      · skip
        have hq1 : (z.kind == 1) = true := by simp [h1]
        clear h1
        go_wp2_with fail
        clear k0 k1 k2 k3 k4
        obtain ⟨b, hb⟩ : ∃ b, wr.heap.size = b := ⟨_, rfl⟩
        obtain ⟨W0, hW0⟩ : ∃ W0, wr.alloc (.cells #[.int .i64 z.kind, .int .i64 z.now, .int .i64 z.seq, .int .i64 z.ack, .slice z.A z.bs.length z.c] 57) = W0 := ⟨_, rfl⟩
        rw [hW0, hb] at HB0
        rw [hW0] at HT0
        rw [hW0, hb]
        clear hW0 hb
        have hblt := lt_of_block HB0.out
        have hs : 0 ≤ s.sent ∧ s.sent < 9223372036854775807 := by have := HI.out; unfold InvL at this; omega
        have hmk : 0 ≤ s.mark ∧ s.mark < 9223372036854775807 := by have := HI.out; unfold InvL at this; omega
        have hsl : s.l.length ≤ 64 := HI.out.2.2.2.2.1
        obtain ⟨P, hP⟩ : ∃ P, sendP s z.bs = P := ⟨_, rfl⟩
        obtain ⟨E, hE⟩ : ∃ E, sendE s z.bs = E := ⟨_, rfl⟩
        obtain ⟨s1, hs1⟩ : ∃ s1, sendS s z.bs z.now = s1 := ⟨_, rfl⟩
        have HINV : Hid (InvL s1 (k + 1)) := Lib.hid (hs1 ▸ HI.out.send z.bs z.now)
        have HS : Hid (∀ W A c, Two w p q s s W → ByO W (.slice A z.bs.length c) z.bs → Calls Try.prog 19 #[.pointer (some ⟨p, 0, none⟩), .slice A z.bs.length c, .int .i64 z.now] W fun e W' => (∃ v, e = .returned (.tuple #[v, .int .i64 E]) ∧ IsP W' v P) ∧ Two w p q s1 s W' ∧ KeepT W W') := Lib.hid (fun W A c ht hb => by
          subst hP; subst hE; subst hs1
          exact ht.send A c z.bs z.now hb hs hnow)
        have HX : Hid (∀ W, Two w p q s1 s W → Calls Try.prog 22 #[.pointer (some ⟨q, 0, none⟩), .slice z.A z.bs.length z.c, .int .i64 z.now] W fun e W' => (∃ v, e = .returned (.tuple #[v, .int .i64 E]) ∧ IsP W' v P) ∧ Two w p q s1 s1 W' ∧ KeepT W W') := Lib.hid (fun W ht => by
          subst hP; subst hE; subst hs1
          exact ht.xsend z.A z.c z.bs z.now HZ.out.2 hs hnow)
        clear hP hE hs1
        have b4 := cell_at HB0.out 4
        have b1 := cell_at HB0.out 1
        apply wp_region_mid6 (M := RD13 w b z p q s1 s P) (hm := by kernel_rfl)
        case h =>
          refine ok_split 12 8 (by decide) ?_ ?_
          · simp only [addAfter, addL]
            refine ok_flow (fun W => Below W0.heap.size W0 W) Nil_ [0, 2, 3, 4, 6, 7, 1, 5, 8, 9, 10, 11, 12, 13, 14] (fun _ => trivial) rfl (fun _ _ _ _ _ h => callsIn_wide.2 h) (by kernel_rfl) (by kernel_rfl) ((Below.refl _ W0).drew) (trivial) ?_
            refine flow_val ?_ rfl (by kernel_rfl) (by rfl) (fun W hW => ?_) ?_
            rotate_left 1
            · go_simp <;> with_reducible rfl
            simp only [Act.put, List.setIfInBounds_toArray, List.set_cons_succ, List.set_cons_zero]
            refine flow_val ?_ rfl (by kernel_rfl) (by rfl) (fun W hW => ?_) ?_
            rotate_left 1
            · go_simp <;> with_reducible rfl
            simp only [Act.put, List.setIfInBounds_toArray, List.set_cons_succ, List.set_cons_zero]
            refine flow_val ?_ rfl (by kernel_rfl) (by rfl) (fun W hW => ?_) ?_
            rotate_left 1
            · go_simp <;> with_reducible rfl
            simp only [Act.put, List.setIfInBounds_toArray, List.set_cons_succ, List.set_cons_zero]
            refine flow_val ?_ rfl (by kernel_rfl) (by rfl) (fun W hW => ?_) ?_
            rotate_left 1
            · have c1 : W.cell? ⟨b, 4, none⟩ = some (.slice z.A z.bs.length z.c) := (hW.cell (p := ⟨b, 4, none⟩) hblt).trans b4; go_simp <;> with_reducible rfl
            simp only [Act.put, List.setIfInBounds_toArray, List.set_cons_succ, List.set_cons_zero]
            refine flow_val ?_ rfl (by kernel_rfl) (by rfl) (fun W hW => ?_) ?_
            rotate_left 1
            · go_simp <;> with_reducible rfl
            simp only [Act.put, List.setIfInBounds_toArray, List.set_cons_succ, List.set_cons_zero]
            refine flow_val ?_ rfl (by kernel_rfl) (by rfl) (fun W hW => ?_) ?_
            rotate_left 1
            · have c1 : W.cell? ⟨b, 1, none⟩ = some (.int .i64 z.now) := (hW.cell (p := ⟨b, 1, none⟩) hblt).trans b1; go_simp <;> with_reducible rfl
            simp only [Act.put, List.setIfInBounds_toArray, List.set_cons_succ, List.set_cons_zero]
            refine flow_gmake (fun v W => ∃ g51, v = .slice (some ⟨g51, 0, none⟩) 0 0 ∧ W.ownsRow W0.heap.size 5 1 (.slice (some ⟨g51, 0, none⟩) 0 0) 0 []) rfl (by kernel_rfl) (by rfl) (by kernel_rfl) (fun W hW hC => ?_) ?_
            · have hbb : Below W.heap.size W (W.alloc (.cells #[] 5)) := (Below.refl _ W).alloc (Nat.le_refl _) _
              exact ⟨_, _, by go_simp <;> with_reducible rfl, hW.trans (hbb.mono hW.size), ⟨_, rfl, own_low (own_of_cells W #[] 0 (Nat.zero_le _) rfl) hW.size⟩⟩
            rintro v51 ⟨_, _, g51, rfl, _⟩
            simp only [Act.put, List.setIfInBounds_toArray, List.set_cons_succ, List.set_cons_zero]
            refine flow_gmake (fun v W => ByO W v z.bs) rfl (by kernel_rfl) (by rfl) (by kernel_rfl) (fun W hW hC => ?_) ?_
            · obtain ⟨g2, e2, ho2⟩ := hC
              rw [← e2] at ho2
              have hby := HZ.out.2.below (HT0.out.below.trans (hW.1.mono HT0.out.below.size))
              refine exec_append_rd (.tmp 51) (.tmp 54) 41 rfl W0.heap.size 5 i1 (.int .u8 0) 1 1 Try.underlying41 hi1 hy0 hy1 hy2 rfl (by decide) (.slice (some ⟨g51, 0, none⟩) 0 0) 0 [] rfl ho2 z.A z.bs.length z.c (z.bs.map u8v) rfl hby.2.2.1 (u8_one' _) (by unfold maxLen; omega) (by omega) hW.1.size (fun v' w' x2 x3 => ?_)
              have fx : Fr W0.heap.size [5] [] W w' := (Fr.refl W).grown x3 (fun j hj => by
                obtain ⟨hb, cs, hc⟩ := own_block ho2 hj
                exact ⟨hb, .inr ⟨cs, _, _, hc, by simp⟩⟩)
              exact ⟨⟨hW.1.trans (fx.below hW.1.size), trivial⟩, ⟨own_low (by simpa using x2) (Nat.zero_le _), HZ.out.2.2.2.2.1⟩⟩
            rintro v55 ⟨_, _, hv55⟩
            simp only [Act.put, List.setIfInBounds_toArray, List.set_cons_succ, List.set_cons_zero]
            obtain ⟨A55, c55, rfl, _, _, _, _⟩ := own_slice hv55.1
            clear hv55
            refine flow_bcall (fun W => W.heap[b]? = some (.cells #[.int .i64 z.kind, .int .i64 z.now, .int .i64 z.seq, .int .i64 z.ack, .slice z.A z.bs.length z.c] 57 (0, 0))) (fun v W => ∃ va, v = .tuple #[va, .int .i64 E] ∧ IsP W va P ∧ Two w p q s1 s W) rfl (by kernel_rfl) (by rfl) (by kernel_rfl) (by kernel_rfl) (fun W hW hC => ⟨_, _, _, by go_simp, (HS.out W A55 c55 (HT0.out.keep hW.1.1) hC).mono fun e w1 ⟨⟨v, he, hp⟩, ht, hk⟩ => ⟨_, he, hk.op ((hW.1.1.block _ hblt).trans HB0.out), ⟨v, rfl, hp, ht⟩⟩⟩) ?_
            rintro v58 ⟨_, _, va, rfl, ⟨bv, rfl, hbv⟩, _⟩
            simp only [Act.put, List.setIfInBounds_toArray, List.set_cons_succ, List.set_cons_zero]
            obtain ⟨A58, c58, rfl, _, _, _, _⟩ := own_slice hbv.1
            clear hbv
            refine flow_val ?_ rfl (by kernel_rfl) (by rfl) (fun W hW => ?_) ?_
            rotate_left 1
            · go_simp <;> with_reducible rfl
            simp only [Act.put, List.setIfInBounds_toArray, List.set_cons_succ, List.set_cons_zero]
            refine flow_val ?_ rfl (by kernel_rfl) (by rfl) (fun W hW => ?_) ?_
            rotate_left 1
            · go_simp <;> with_reducible rfl
            simp only [Act.put, List.setIfInBounds_toArray, List.set_cons_succ, List.set_cons_zero]
            refine flow_val ?_ rfl (by kernel_rfl) (by rfl) (fun W hW => ?_) ?_
            rotate_left 1
            · go_simp <;> with_reducible rfl
            simp only [Act.put, List.setIfInBounds_toArray, List.set_cons_succ, List.set_cons_zero]
            refine flow_gmake (fun v W => ∃ g, v = .pointer (some ⟨g, 0, none⟩) ∧ W.heap[g]? = some (.cells #[.int .i64 0, .int .i64 0, .slice none 0 0] 43 (0, 0)) ∧ w.heap.size ≤ g ∧ ByO W (.slice A58 P.body.length c58) P.body ∧ Two w p q s1 s W) rfl (by kernel_rfl) (by rfl) (by kernel_rfl) (fun W hW hC => ?_) ?_
            · obtain ⟨va, e1, ⟨bv, e2, hb⟩, ht⟩ := hC
              subst e2
              simp at e1
              subst e1
              have hbb : Below W.heap.size W (W.alloc (.cells #[.int .i64 0, .int .i64 0, .slice none 0 0] 43)) := (Below.refl _ W).alloc (Nat.le_refl _) _
              exact ⟨_, _, by go_simp <;> with_reducible rfl, ⟨(hbb.block _ (lt_of_block hW.1)).trans hW.1, trivial⟩, ⟨_, rfl, block_new _ _, ht.below.size, hb.below hbb, ht.keep hbb⟩⟩
            rintro v8 ⟨_, _, g8, rfl, _, hg8, _, _⟩
            simp only [Act.put, List.setIfInBounds_toArray, List.set_cons_succ, List.set_cons_zero]
            refine flow_store (fun W => W.heap[g8]? = some (.cells #[.int .i64 P.seq, .int .i64 P.ack, .slice A58 P.body.length c58] 43 (0, 0)) ∧ ByO W (.slice A58 P.body.length c58) P.body ∧ Two w p q s1 s W) rfl (by kernel_rfl) (by rfl) (by kernel_rfl) (fun W hW hC => ?_) ?_
            · have hop := hW.1.1
              obtain ⟨g2, e2, h8, _, hb, ht⟩ := hC
              injection e2 with e2
              injection e2 with e2
              injection e2 with e2 _ _
              subst e2
              have q0 := cell_at h8 0
              have q1 := cell_at h8 1
              have q2 := cell_at h8 2
              have z0 := frozen_at h8 0
              have z1 := frozen_at h8 1
              have z2 := frozen_at h8 2
              have H8 := Lib.hid h8
              have HOP := Lib.hid hop
              have HBY := Lib.hid hb
              have HTT := Lib.hid ht
              clear h8 hop hb ht hW
              refine ⟨_, by go_simp <;> with_reducible rfl, ⟨⟨?_, trivial⟩, trivial⟩, ?_, ?_, ?_⟩
              · obtain ⟨W5, hW5, _, _, _, f5, _⟩ := pkt_store H8.out (.int .i64 P.seq) (.int .i64 P.ack) (.slice A58 P.body.length c58)
                rw [hW5]; exact f5.keep HOP.out (by simp) (by simp; exact block_ne HOP.out H8.out (by decide))
              · simpa using block_set (block_set (block_set H8.out 0 (.int .i64 P.seq)) 1 (.int .i64 P.ack)) 2 (.slice A58 P.body.length c58)
              · obtain ⟨W5, hW5, _, _, _, f5, _⟩ := pkt_store H8.out (.int .i64 P.seq) (.int .i64 P.ack) (.slice A58 P.body.length c58)
                rw [hW5]; exact HBY.out.far f5 H8.out (by decide)
              · obtain ⟨W5, hW5, _, _, _, f5, _⟩ := pkt_store H8.out (.int .i64 P.seq) (.int .i64 P.ack) (.slice A58 P.body.length c58)
                rw [hW5]; exact HTT.out.far f5 H8.out (by decide) (by decide) (by decide) (by decide) (by decide) hg8
            simp only [Act.put]
            refine flow_val ?_ rfl (by kernel_rfl) (by rfl) (fun W hW => ?_) ?_
            rotate_left 1
            · go_simp <;> with_reducible rfl
            simp only [Act.put, List.setIfInBounds_toArray, List.set_cons_succ, List.set_cons_zero]
            refine flow_end ?_
            rintro W ⟨hR, _⟩ hC
            exact .inl ⟨by trivial, g51, A55, c55, A58, c58, g8, rfl, hR.1.1, hC⟩
          · refine ok_split 12 5 (by decide) ?_ ?_
            · simp only [addAfter, addL]
              refine ok_flow (fun W => Below W0.heap.size W0 W) Nil_ [0, 2, 3, 4, 6, 7, 1, 5, 12, 8, 9, 10, 11, 13, 14] (fun _ => trivial) rfl (fun _ _ _ _ _ h => callsIn_wide.2 h) (by kernel_rfl) (by kernel_rfl) ((Below.refl _ W0).drew) (trivial) ?_
              refine flow_val ?_ rfl (by kernel_rfl) (by rfl) (fun W hW => ?_) ?_
              rotate_left 1
              · go_simp <;> with_reducible rfl
              simp only [Act.put, List.setIfInBounds_toArray, List.set_cons_succ, List.set_cons_zero]
              refine flow_val ?_ rfl (by kernel_rfl) (by rfl) (fun W hW => ?_) ?_
              rotate_left 1
              · go_simp <;> with_reducible rfl
              simp only [Act.put, List.setIfInBounds_toArray, List.set_cons_succ, List.set_cons_zero]
              refine flow_val ?_ rfl (by kernel_rfl) (by rfl) (fun W hW => ?_) ?_
              rotate_left 1
              · go_simp <;> with_reducible rfl
              simp only [Act.put, List.setIfInBounds_toArray, List.set_cons_succ, List.set_cons_zero]
              refine flow_val ?_ rfl (by kernel_rfl) (by rfl) (fun W hW => ?_) ?_
              rotate_left 1
              · have c1 : W.cell? ⟨b, 4, none⟩ = some (.slice z.A z.bs.length z.c) := (hW.cell (p := ⟨b, 4, none⟩) hblt).trans b4; go_simp <;> with_reducible rfl
              simp only [Act.put, List.setIfInBounds_toArray, List.set_cons_succ, List.set_cons_zero]
              refine flow_val ?_ rfl (by kernel_rfl) (by rfl) (fun W hW => ?_) ?_
              rotate_left 1
              · go_simp <;> with_reducible rfl
              simp only [Act.put, List.setIfInBounds_toArray, List.set_cons_succ, List.set_cons_zero]
              refine flow_val ?_ rfl (by kernel_rfl) (by rfl) (fun W hW => ?_) ?_
              rotate_left 1
              · have c1 : W.cell? ⟨b, 1, none⟩ = some (.int .i64 z.now) := (hW.cell (p := ⟨b, 1, none⟩) hblt).trans b1; go_simp <;> with_reducible rfl
              simp only [Act.put, List.setIfInBounds_toArray, List.set_cons_succ, List.set_cons_zero]
              refine flow_gmake (fun v W => ∃ g51, v = .slice (some ⟨g51, 0, none⟩) 0 0 ∧ W.ownsRow W0.heap.size 5 1 (.slice (some ⟨g51, 0, none⟩) 0 0) 0 []) rfl (by kernel_rfl) (by rfl) (by kernel_rfl) (fun W hW hC => ?_) ?_
              · have hbb : Below W.heap.size W (W.alloc (.cells #[] 5)) := (Below.refl _ W).alloc (Nat.le_refl _) _
                exact ⟨_, _, by go_simp <;> with_reducible rfl, hW.trans (hbb.mono hW.size), ⟨_, rfl, own_low (own_of_cells W #[] 0 (Nat.zero_le _) rfl) hW.size⟩⟩
              rintro v51 ⟨_, _, g51, rfl, _⟩
              simp only [Act.put, List.setIfInBounds_toArray, List.set_cons_succ, List.set_cons_zero]
              refine flow_gmake (fun v W => ByO W v z.bs) rfl (by kernel_rfl) (by rfl) (by kernel_rfl) (fun W hW hC => ?_) ?_
              · obtain ⟨g2, e2, ho2⟩ := hC
                rw [← e2] at ho2
                have hby := HZ.out.2.below (HT0.out.below.trans (hW.1.mono HT0.out.below.size))
                refine exec_append_rd (.tmp 51) (.tmp 54) 41 rfl W0.heap.size 5 i1 (.int .u8 0) 1 1 Try.underlying41 hi1 hy0 hy1 hy2 rfl (by decide) (.slice (some ⟨g51, 0, none⟩) 0 0) 0 [] rfl ho2 z.A z.bs.length z.c (z.bs.map u8v) rfl hby.2.2.1 (u8_one' _) (by unfold maxLen; omega) (by omega) hW.1.size (fun v' w' x2 x3 => ?_)
                have fx : Fr W0.heap.size [5] [] W w' := (Fr.refl W).grown x3 (fun j hj => by
                  obtain ⟨hb, cs, hc⟩ := own_block ho2 hj
                  exact ⟨hb, .inr ⟨cs, _, _, hc, by simp⟩⟩)
                exact ⟨⟨hW.1.trans (fx.below hW.1.size), trivial⟩, ⟨own_low (by simpa using x2) (Nat.zero_le _), HZ.out.2.2.2.2.1⟩⟩
              rintro v55 ⟨_, _, hv55⟩
              simp only [Act.put, List.setIfInBounds_toArray, List.set_cons_succ, List.set_cons_zero]
              obtain ⟨A55, c55, rfl, _, _, _, _⟩ := own_slice hv55.1
              clear hv55
              refine flow_gmake (fun v W => ∃ g8, v = .pointer (some ⟨g8, 0, none⟩) ∧ W.heap[g8]? = some (.cells #[.int .i64 0, .int .i64 0, .slice none 0 0] 43 (0, 0)) ∧ w.heap.size ≤ g8 ∧ ByO W (.slice A55 z.bs.length c55) z.bs) rfl (by kernel_rfl) (by rfl) (by kernel_rfl) (fun W hW hC => ?_) ?_
              · have hbb : Below W.heap.size W (W.alloc (.cells #[.int .i64 0, .int .i64 0, .slice none 0 0] 43)) := (Below.refl _ W).alloc (Nat.le_refl _) _
                have hC2 : ByO W (.slice A55 z.bs.length c55) z.bs := hC
                exact ⟨_, _, by go_simp <;> with_reducible rfl, ⟨⟨hW.1.1.trans (hbb.mono hW.1.1.size), trivial⟩, trivial⟩, ⟨_, rfl, block_new _ _, by have := hW.1.1.size; have := HT0.out.below.size; omega, hC2.below hbb⟩⟩
              rintro v8 ⟨_, _, g8, rfl, _, hg8, _⟩
              simp only [Act.put, List.setIfInBounds_toArray, List.set_cons_succ, List.set_cons_zero]
              refine flow_bcall (fun W => W.heap[b]? = some (.cells #[.int .i64 z.kind, .int .i64 z.now, .int .i64 z.seq, .int .i64 z.ack, .slice z.A z.bs.length z.c] 57 (0, 0))) (fun v W => ∃ va, v = .tuple #[va, .int .i64 E] ∧ IsP W va P ∧ Two w p q s1 s W ∧ W.heap[g8]? = some (.cells #[.int .i64 0, .int .i64 0, .slice none 0 0] 43 (0, 0))) rfl (by kernel_rfl) (by rfl) (by kernel_rfl) (by kernel_rfl) (fun W hW hC => ⟨_, _, _, by go_simp, (HS.out W A55 c55 (HT0.out.keep hW.1.1.1) (by obtain ⟨_, _, _, _, h2⟩ := hC; exact h2)).mono fun e w1 ⟨⟨v, he, hp⟩, ht, hk⟩ => ⟨_, he, hk.op ((hW.1.1.1.block _ hblt).trans HB0.out), ⟨v, rfl, hp, ht, hk.cells (by obtain ⟨g2, e2, h2, _⟩ := hC; injection e2 with e2; injection e2 with e2; injection e2 with e2 _ _; subst e2; exact h2)⟩⟩⟩) ?_
              rintro v58 ⟨_, _, va, rfl, ⟨bv, rfl, hbv⟩, _⟩
              simp only [Act.put, List.setIfInBounds_toArray, List.set_cons_succ, List.set_cons_zero]
              obtain ⟨A58, c58, rfl, _, _, _, _⟩ := own_slice hbv.1
              clear hbv
              refine flow_val ?_ rfl (by kernel_rfl) (by rfl) (fun W hW => ?_) ?_
              rotate_left 1
              · go_simp <;> with_reducible rfl
              simp only [Act.put, List.setIfInBounds_toArray, List.set_cons_succ, List.set_cons_zero]
              refine flow_val ?_ rfl (by kernel_rfl) (by rfl) (fun W hW => ?_) ?_
              rotate_left 1
              · go_simp <;> with_reducible rfl
              simp only [Act.put, List.setIfInBounds_toArray, List.set_cons_succ, List.set_cons_zero]
              refine flow_val ?_ rfl (by kernel_rfl) (by rfl) (fun W hW => ?_) ?_
              rotate_left 1
              · go_simp <;> with_reducible rfl
              simp only [Act.put, List.setIfInBounds_toArray, List.set_cons_succ, List.set_cons_zero]
              refine flow_store (fun W => W.heap[g8]? = some (.cells #[.int .i64 P.seq, .int .i64 P.ack, .slice A58 P.body.length c58] 43 (0, 0)) ∧ ByO W (.slice A58 P.body.length c58) P.body ∧ Two w p q s1 s W) rfl (by kernel_rfl) (by rfl) (by kernel_rfl) (fun W hW hC => ?_) ?_
              · have hop := hW.1
                obtain ⟨va, e1, ⟨bv, e2, hb⟩, ht, h8⟩ := hC
                subst e2
                simp at e1
                subst e1
                have q0 := cell_at h8 0
                have q1 := cell_at h8 1
                have q2 := cell_at h8 2
                have z0 := frozen_at h8 0
                have z1 := frozen_at h8 1
                have z2 := frozen_at h8 2
                have H8 := Lib.hid h8
                have HOP := Lib.hid hop
                have HBY := Lib.hid hb
                have HTT := Lib.hid ht
                clear h8 hop hb ht hW
                refine ⟨_, by go_simp <;> with_reducible rfl, ⟨?_, trivial⟩, ?_, ?_, ?_⟩
                · obtain ⟨W5, hW5, _, _, _, f5, _⟩ := pkt_store H8.out (.int .i64 P.seq) (.int .i64 P.ack) (.slice A58 P.body.length c58)
                  rw [hW5]; exact f5.keep HOP.out (by simp) (by simp; exact block_ne HOP.out H8.out (by decide))
                · simpa using block_set (block_set (block_set H8.out 0 (.int .i64 P.seq)) 1 (.int .i64 P.ack)) 2 (.slice A58 P.body.length c58)
                · obtain ⟨W5, hW5, _, _, _, f5, _⟩ := pkt_store H8.out (.int .i64 P.seq) (.int .i64 P.ack) (.slice A58 P.body.length c58)
                  rw [hW5]; exact HBY.out.far f5 H8.out (by decide)
                · obtain ⟨W5, hW5, _, _, _, f5, _⟩ := pkt_store H8.out (.int .i64 P.seq) (.int .i64 P.ack) (.slice A58 P.body.length c58)
                  rw [hW5]; exact HTT.out.far f5 H8.out (by decide) (by decide) (by decide) (by decide) (by decide) hg8
              simp only [Act.put]
              refine flow_val ?_ rfl (by kernel_rfl) (by rfl) (fun W hW => ?_) ?_
              rotate_left 1
              · go_simp <;> with_reducible rfl
              simp only [Act.put, List.setIfInBounds_toArray, List.set_cons_succ, List.set_cons_zero]
              refine flow_end ?_
              rintro W ⟨hR, _⟩ hC
              exact .inl ⟨by trivial, g51, A55, c55, A58, c58, g8, rfl, hR.1, hC⟩
            · refine ok_split 12 1 (by decide) ?_ ?_
              · simp only [addAfter, addL]
                refine ok_flow (fun W => Below W0.heap.size W0 W) Nil_ [0, 2, 3, 4, 6, 7, 1, 12, 5, 8, 9, 10, 11, 13, 14] (fun _ => trivial) rfl (fun _ _ _ _ _ h => callsIn_wide.2 h) (by kernel_rfl) (by kernel_rfl) ((Below.refl _ W0).drew) (trivial) ?_
                refine flow_val ?_ rfl (by kernel_rfl) (by rfl) (fun W hW => ?_) ?_
                rotate_left 1
                · go_simp <;> with_reducible rfl
                simp only [Act.put, List.setIfInBounds_toArray, List.set_cons_succ, List.set_cons_zero]
                refine flow_val ?_ rfl (by kernel_rfl) (by rfl) (fun W hW => ?_) ?_
                rotate_left 1
                · go_simp <;> with_reducible rfl
                simp only [Act.put, List.setIfInBounds_toArray, List.set_cons_succ, List.set_cons_zero]
                refine flow_val ?_ rfl (by kernel_rfl) (by rfl) (fun W hW => ?_) ?_
                rotate_left 1
                · go_simp <;> with_reducible rfl
                simp only [Act.put, List.setIfInBounds_toArray, List.set_cons_succ, List.set_cons_zero]
                refine flow_val ?_ rfl (by kernel_rfl) (by rfl) (fun W hW => ?_) ?_
                rotate_left 1
                · have c1 : W.cell? ⟨b, 4, none⟩ = some (.slice z.A z.bs.length z.c) := (hW.cell (p := ⟨b, 4, none⟩) hblt).trans b4; go_simp <;> with_reducible rfl
                simp only [Act.put, List.setIfInBounds_toArray, List.set_cons_succ, List.set_cons_zero]
                refine flow_val ?_ rfl (by kernel_rfl) (by rfl) (fun W hW => ?_) ?_
                rotate_left 1
                · go_simp <;> with_reducible rfl
                simp only [Act.put, List.setIfInBounds_toArray, List.set_cons_succ, List.set_cons_zero]
                refine flow_val ?_ rfl (by kernel_rfl) (by rfl) (fun W hW => ?_) ?_
                rotate_left 1
                · have c1 : W.cell? ⟨b, 1, none⟩ = some (.int .i64 z.now) := (hW.cell (p := ⟨b, 1, none⟩) hblt).trans b1; go_simp <;> with_reducible rfl
                simp only [Act.put, List.setIfInBounds_toArray, List.set_cons_succ, List.set_cons_zero]
                refine flow_gmake (fun v W => ∃ g51, v = .slice (some ⟨g51, 0, none⟩) 0 0 ∧ W.ownsRow W0.heap.size 5 1 (.slice (some ⟨g51, 0, none⟩) 0 0) 0 []) rfl (by kernel_rfl) (by rfl) (by kernel_rfl) (fun W hW hC => ?_) ?_
                · have hbb : Below W.heap.size W (W.alloc (.cells #[] 5)) := (Below.refl _ W).alloc (Nat.le_refl _) _
                  exact ⟨_, _, by go_simp <;> with_reducible rfl, hW.trans (hbb.mono hW.size), ⟨_, rfl, own_low (own_of_cells W #[] 0 (Nat.zero_le _) rfl) hW.size⟩⟩
                rintro v51 ⟨_, _, g51, rfl, _⟩
                simp only [Act.put, List.setIfInBounds_toArray, List.set_cons_succ, List.set_cons_zero]
                refine flow_gmake (fun v W => ∃ g8, v = .pointer (some ⟨g8, 0, none⟩) ∧ W.heap[g8]? = some (.cells #[.int .i64 0, .int .i64 0, .slice none 0 0] 43 (0, 0)) ∧ w.heap.size ≤ g8 ∧ W.ownsRow W0.heap.size 5 1 (.slice (some ⟨g51, 0, none⟩) 0 0) 0 []) rfl (by kernel_rfl) (by rfl) (by kernel_rfl) (fun W hW hC => ?_) ?_
                · have hbb : Below W.heap.size W (W.alloc (.cells #[.int .i64 0, .int .i64 0, .slice none 0 0] 43)) := (Below.refl _ W).alloc (Nat.le_refl _) _
                  have hC2 : W.ownsRow W0.heap.size 5 1 (.slice (some ⟨g51, 0, none⟩) 0 0) 0 [] := by
                    obtain ⟨g2, e2, ho2⟩ := hC
                    rw [e2]; exact ho2
                  exact ⟨_, _, by go_simp <;> with_reducible rfl, ⟨hW.1.trans (hbb.mono hW.1.size), trivial⟩, ⟨_, rfl, block_new _ _, by have := hW.1.size; have := HT0.out.below.size; omega, (Fr.of_below (B := 0) (T := []) (S := []) hbb).own hC2 (by simp) (by simp)⟩⟩
                rintro v8 ⟨_, _, g8, rfl, _, hg8, _⟩
                simp only [Act.put, List.setIfInBounds_toArray, List.set_cons_succ, List.set_cons_zero]
                refine flow_gmake (fun v W => ByO W v z.bs ∧ W.heap[g8]? = some (.cells #[.int .i64 0, .int .i64 0, .slice none 0 0] 43 (0, 0))) rfl (by kernel_rfl) (by rfl) (by kernel_rfl) (fun W hW hC => ?_) ?_
                · have hz8 : W.heap[g8]? = some (.cells #[.int .i64 0, .int .i64 0, .slice none 0 0] 43 (0, 0)) := by
                      obtain ⟨g2, e2, h2, _⟩ := hC; injection e2 with e2; injection e2 with e2; injection e2 with e2 _ _; subst e2; exact h2
                  have ho2 : W.ownsRow W0.heap.size 5 1 (.slice (some ⟨g51, 0, none⟩) 0 0) 0 [] := by
                      obtain ⟨_, _, _, _, h2⟩ := hC; exact h2
                  have hby := HZ.out.2.below (HT0.out.below.trans (hW.1.1.mono HT0.out.below.size))
                  refine exec_append_rd (.tmp 51) (.tmp 54) 41 rfl W0.heap.size 5 i1 (.int .u8 0) 1 1 Try.underlying41 hi1 hy0 hy1 hy2 rfl (by decide) (.slice (some ⟨g51, 0, none⟩) 0 0) 0 [] rfl ho2 z.A z.bs.length z.c (z.bs.map u8v) rfl hby.2.2.1 (u8_one' _) (by unfold maxLen; omega) (by omega) hW.1.1.size (fun v' w' x2 x3 => ?_)
                  have fx : Fr W0.heap.size [5] [] W w' := (Fr.refl W).grown x3 (fun j hj => by
                    obtain ⟨hb, cs, hc⟩ := own_block ho2 hj
                    exact ⟨hb, .inr ⟨cs, _, _, hc, by simp⟩⟩)
                  exact ⟨⟨⟨hW.1.1.trans (fx.below hW.1.1.size), trivial⟩, trivial⟩, ⟨⟨own_low (by simpa using x2) (Nat.zero_le _), HZ.out.2.2.2.2.1⟩, fx.keep hz8 (by decide) (by simp)⟩⟩
                rintro v55 ⟨_, _, hv55, _⟩
                simp only [Act.put, List.setIfInBounds_toArray, List.set_cons_succ, List.set_cons_zero]
                obtain ⟨A55, c55, rfl, _, _, _, _⟩ := own_slice hv55.1
                clear hv55
                refine flow_bcall (fun W => W.heap[b]? = some (.cells #[.int .i64 z.kind, .int .i64 z.now, .int .i64 z.seq, .int .i64 z.ack, .slice z.A z.bs.length z.c] 57 (0, 0))) (fun v W => ∃ va, v = .tuple #[va, .int .i64 E] ∧ IsP W va P ∧ Two w p q s1 s W ∧ W.heap[g8]? = some (.cells #[.int .i64 0, .int .i64 0, .slice none 0 0] 43 (0, 0))) rfl (by kernel_rfl) (by rfl) (by kernel_rfl) (by kernel_rfl) (fun W hW hC => ⟨_, _, _, by go_simp, (HS.out W A55 c55 (HT0.out.keep hW.1.1.1) hC.1).mono fun e w1 ⟨⟨v, he, hp⟩, ht, hk⟩ => ⟨_, he, hk.op ((hW.1.1.1.block _ hblt).trans HB0.out), ⟨v, rfl, hp, ht, hk.cells (hC.2)⟩⟩⟩) ?_
                rintro v58 ⟨_, _, va, rfl, ⟨bv, rfl, hbv⟩, _⟩
                simp only [Act.put, List.setIfInBounds_toArray, List.set_cons_succ, List.set_cons_zero]
                obtain ⟨A58, c58, rfl, _, _, _, _⟩ := own_slice hbv.1
                clear hbv
                refine flow_val ?_ rfl (by kernel_rfl) (by rfl) (fun W hW => ?_) ?_
                rotate_left 1
                · go_simp <;> with_reducible rfl
                simp only [Act.put, List.setIfInBounds_toArray, List.set_cons_succ, List.set_cons_zero]
                refine flow_val ?_ rfl (by kernel_rfl) (by rfl) (fun W hW => ?_) ?_
                rotate_left 1
                · go_simp <;> with_reducible rfl
                simp only [Act.put, List.setIfInBounds_toArray, List.set_cons_succ, List.set_cons_zero]
                refine flow_val ?_ rfl (by kernel_rfl) (by rfl) (fun W hW => ?_) ?_
                rotate_left 1
                · go_simp <;> with_reducible rfl
                simp only [Act.put, List.setIfInBounds_toArray, List.set_cons_succ, List.set_cons_zero]
                refine flow_store (fun W => W.heap[g8]? = some (.cells #[.int .i64 P.seq, .int .i64 P.ack, .slice A58 P.body.length c58] 43 (0, 0)) ∧ ByO W (.slice A58 P.body.length c58) P.body ∧ Two w p q s1 s W) rfl (by kernel_rfl) (by rfl) (by kernel_rfl) (fun W hW hC => ?_) ?_
                · have hop := hW.1
                  obtain ⟨va, e1, ⟨bv, e2, hb⟩, ht, h8⟩ := hC
                  subst e2
                  simp at e1
                  subst e1
                  have q0 := cell_at h8 0
                  have q1 := cell_at h8 1
                  have q2 := cell_at h8 2
                  have z0 := frozen_at h8 0
                  have z1 := frozen_at h8 1
                  have z2 := frozen_at h8 2
                  have H8 := Lib.hid h8
                  have HOP := Lib.hid hop
                  have HBY := Lib.hid hb
                  have HTT := Lib.hid ht
                  clear h8 hop hb ht hW
                  refine ⟨_, by go_simp <;> with_reducible rfl, ⟨?_, trivial⟩, ?_, ?_, ?_⟩
                  · obtain ⟨W5, hW5, _, _, _, f5, _⟩ := pkt_store H8.out (.int .i64 P.seq) (.int .i64 P.ack) (.slice A58 P.body.length c58)
                    rw [hW5]; exact f5.keep HOP.out (by simp) (by simp; exact block_ne HOP.out H8.out (by decide))
                  · simpa using block_set (block_set (block_set H8.out 0 (.int .i64 P.seq)) 1 (.int .i64 P.ack)) 2 (.slice A58 P.body.length c58)
                  · obtain ⟨W5, hW5, _, _, _, f5, _⟩ := pkt_store H8.out (.int .i64 P.seq) (.int .i64 P.ack) (.slice A58 P.body.length c58)
                    rw [hW5]; exact HBY.out.far f5 H8.out (by decide)
                  · obtain ⟨W5, hW5, _, _, _, f5, _⟩ := pkt_store H8.out (.int .i64 P.seq) (.int .i64 P.ack) (.slice A58 P.body.length c58)
                    rw [hW5]; exact HTT.out.far f5 H8.out (by decide) (by decide) (by decide) (by decide) (by decide) hg8
                simp only [Act.put]
                refine flow_val ?_ rfl (by kernel_rfl) (by rfl) (fun W hW => ?_) ?_
                rotate_left 1
                · go_simp <;> with_reducible rfl
                simp only [Act.put, List.setIfInBounds_toArray, List.set_cons_succ, List.set_cons_zero]
                refine flow_end ?_
                rintro W ⟨hR, _⟩ hC
                exact .inl ⟨by trivial, g51, A55, c55, A58, c58, g8, rfl, hR.1, hC⟩
              · simp only [addAfter, addL]
                refine ok_flow (fun W => Below W0.heap.size W0 W) Nil_ [0, 2, 3, 4, 6, 7, 12, 1, 5, 8, 9, 10, 11, 13, 14] (fun _ => trivial) rfl (fun _ _ _ _ _ h => callsIn_wide.2 h) (by kernel_rfl) (by kernel_rfl) ((Below.refl _ W0).drew) (trivial) ?_
                refine flow_val ?_ rfl (by kernel_rfl) (by rfl) (fun W hW => ?_) ?_
                rotate_left 1
                · go_simp <;> with_reducible rfl
                simp only [Act.put, List.setIfInBounds_toArray, List.set_cons_succ, List.set_cons_zero]
                refine flow_val ?_ rfl (by kernel_rfl) (by rfl) (fun W hW => ?_) ?_
                rotate_left 1
                · go_simp <;> with_reducible rfl
                simp only [Act.put, List.setIfInBounds_toArray, List.set_cons_succ, List.set_cons_zero]
                refine flow_val ?_ rfl (by kernel_rfl) (by rfl) (fun W hW => ?_) ?_
                rotate_left 1
                · go_simp <;> with_reducible rfl
                simp only [Act.put, List.setIfInBounds_toArray, List.set_cons_succ, List.set_cons_zero]
                refine flow_val ?_ rfl (by kernel_rfl) (by rfl) (fun W hW => ?_) ?_
                rotate_left 1
                · have c1 : W.cell? ⟨b, 4, none⟩ = some (.slice z.A z.bs.length z.c) := (hW.cell (p := ⟨b, 4, none⟩) hblt).trans b4; go_simp <;> with_reducible rfl
                simp only [Act.put, List.setIfInBounds_toArray, List.set_cons_succ, List.set_cons_zero]
                refine flow_val ?_ rfl (by kernel_rfl) (by rfl) (fun W hW => ?_) ?_
                rotate_left 1
                · go_simp <;> with_reducible rfl
                simp only [Act.put, List.setIfInBounds_toArray, List.set_cons_succ, List.set_cons_zero]
                refine flow_val ?_ rfl (by kernel_rfl) (by rfl) (fun W hW => ?_) ?_
                rotate_left 1
                · have c1 : W.cell? ⟨b, 1, none⟩ = some (.int .i64 z.now) := (hW.cell (p := ⟨b, 1, none⟩) hblt).trans b1; go_simp <;> with_reducible rfl
                simp only [Act.put, List.setIfInBounds_toArray, List.set_cons_succ, List.set_cons_zero]
                refine flow_gmake (fun v W => ∃ g8, v = .pointer (some ⟨g8, 0, none⟩) ∧ W.heap[g8]? = some (.cells #[.int .i64 0, .int .i64 0, .slice none 0 0] 43 (0, 0)) ∧ w.heap.size ≤ g8) rfl (by kernel_rfl) (by rfl) (by kernel_rfl) (fun W hW hC => ?_) ?_
                · have hbb : Below W.heap.size W (W.alloc (.cells #[.int .i64 0, .int .i64 0, .slice none 0 0] 43)) := (Below.refl _ W).alloc (Nat.le_refl _) _
                  exact ⟨_, _, by go_simp <;> with_reducible rfl, hW.trans (hbb.mono hW.size), ⟨_, rfl, block_new _ _, by have := hW.size; have := HT0.out.below.size; omega⟩⟩
                rintro v8 ⟨_, _, g8, rfl, _, hg8⟩
                simp only [Act.put, List.setIfInBounds_toArray, List.set_cons_succ, List.set_cons_zero]
                refine flow_gmake (fun v W => ∃ g51, v = .slice (some ⟨g51, 0, none⟩) 0 0 ∧ W.ownsRow W0.heap.size 5 1 (.slice (some ⟨g51, 0, none⟩) 0 0) 0 [] ∧ W.heap[g8]? = some (.cells #[.int .i64 0, .int .i64 0, .slice none 0 0] 43 (0, 0))) rfl (by kernel_rfl) (by rfl) (by kernel_rfl) (fun W hW hC => ?_) ?_
                · have hbb : Below W.heap.size W (W.alloc (.cells #[] 5)) := (Below.refl _ W).alloc (Nat.le_refl _) _
                  obtain ⟨g2, e2, hC⟩ := hC
                  injection e2 with e2
                  injection e2 with e2
                  injection e2 with e2 _ _
                  subst e2
                  exact ⟨_, _, by go_simp <;> with_reducible rfl, ⟨hW.1.trans (hbb.mono hW.1.size), trivial⟩, ⟨_, rfl, own_low (own_of_cells W #[] 0 (Nat.zero_le _) rfl) hW.1.size, (hbb.block _ (lt_of_block hC.1)).trans hC.1⟩⟩
                rintro v51 ⟨_, _, g51, rfl, _, _⟩
                simp only [Act.put, List.setIfInBounds_toArray, List.set_cons_succ, List.set_cons_zero]
                refine flow_gmake (fun v W => ByO W v z.bs ∧ W.heap[g8]? = some (.cells #[.int .i64 0, .int .i64 0, .slice none 0 0] 43 (0, 0))) rfl (by kernel_rfl) (by rfl) (by kernel_rfl) (fun W hW hC => ?_) ?_
                · have hz8 : W.heap[g8]? = some (.cells #[.int .i64 0, .int .i64 0, .slice none 0 0] 43 (0, 0)) := by
                      obtain ⟨_, _, _, h2⟩ := hC; exact h2
                  have ho2 : W.ownsRow W0.heap.size 5 1 (.slice (some ⟨g51, 0, none⟩) 0 0) 0 [] := by
                      obtain ⟨g2, e2, ho2, _⟩ := hC; rw [e2]; exact ho2
                  have hby := HZ.out.2.below (HT0.out.below.trans (hW.1.1.mono HT0.out.below.size))
                  refine exec_append_rd (.tmp 51) (.tmp 54) 41 rfl W0.heap.size 5 i1 (.int .u8 0) 1 1 Try.underlying41 hi1 hy0 hy1 hy2 rfl (by decide) (.slice (some ⟨g51, 0, none⟩) 0 0) 0 [] rfl ho2 z.A z.bs.length z.c (z.bs.map u8v) rfl hby.2.2.1 (u8_one' _) (by unfold maxLen; omega) (by omega) hW.1.1.size (fun v' w' x2 x3 => ?_)
                  have fx : Fr W0.heap.size [5] [] W w' := (Fr.refl W).grown x3 (fun j hj => by
                    obtain ⟨hb, cs, hc⟩ := own_block ho2 hj
                    exact ⟨hb, .inr ⟨cs, _, _, hc, by simp⟩⟩)
                  exact ⟨⟨⟨hW.1.1.trans (fx.below hW.1.1.size), trivial⟩, trivial⟩, ⟨⟨own_low (by simpa using x2) (Nat.zero_le _), HZ.out.2.2.2.2.1⟩, fx.keep hz8 (by decide) (by simp)⟩⟩
                rintro v55 ⟨_, _, hv55, _⟩
                simp only [Act.put, List.setIfInBounds_toArray, List.set_cons_succ, List.set_cons_zero]
                obtain ⟨A55, c55, rfl, _, _, _, _⟩ := own_slice hv55.1
                clear hv55
                refine flow_bcall (fun W => W.heap[b]? = some (.cells #[.int .i64 z.kind, .int .i64 z.now, .int .i64 z.seq, .int .i64 z.ack, .slice z.A z.bs.length z.c] 57 (0, 0))) (fun v W => ∃ va, v = .tuple #[va, .int .i64 E] ∧ IsP W va P ∧ Two w p q s1 s W ∧ W.heap[g8]? = some (.cells #[.int .i64 0, .int .i64 0, .slice none 0 0] 43 (0, 0))) rfl (by kernel_rfl) (by rfl) (by kernel_rfl) (by kernel_rfl) (fun W hW hC => ⟨_, _, _, by go_simp, (HS.out W A55 c55 (HT0.out.keep hW.1.1.1) hC.1).mono fun e w1 ⟨⟨v, he, hp⟩, ht, hk⟩ => ⟨_, he, hk.op ((hW.1.1.1.block _ hblt).trans HB0.out), ⟨v, rfl, hp, ht, hk.cells (hC.2)⟩⟩⟩) ?_
                rintro v58 ⟨_, _, va, rfl, ⟨bv, rfl, hbv⟩, _⟩
                simp only [Act.put, List.setIfInBounds_toArray, List.set_cons_succ, List.set_cons_zero]
                obtain ⟨A58, c58, rfl, _, _, _, _⟩ := own_slice hbv.1
                clear hbv
                refine flow_val ?_ rfl (by kernel_rfl) (by rfl) (fun W hW => ?_) ?_
                rotate_left 1
                · go_simp <;> with_reducible rfl
                simp only [Act.put, List.setIfInBounds_toArray, List.set_cons_succ, List.set_cons_zero]
                refine flow_val ?_ rfl (by kernel_rfl) (by rfl) (fun W hW => ?_) ?_
                rotate_left 1
                · go_simp <;> with_reducible rfl
                simp only [Act.put, List.setIfInBounds_toArray, List.set_cons_succ, List.set_cons_zero]
                refine flow_val ?_ rfl (by kernel_rfl) (by rfl) (fun W hW => ?_) ?_
                rotate_left 1
                · go_simp <;> with_reducible rfl
                simp only [Act.put, List.setIfInBounds_toArray, List.set_cons_succ, List.set_cons_zero]
                refine flow_store (fun W => W.heap[g8]? = some (.cells #[.int .i64 P.seq, .int .i64 P.ack, .slice A58 P.body.length c58] 43 (0, 0)) ∧ ByO W (.slice A58 P.body.length c58) P.body ∧ Two w p q s1 s W) rfl (by kernel_rfl) (by rfl) (by kernel_rfl) (fun W hW hC => ?_) ?_
                · have hop := hW.1
                  obtain ⟨va, e1, ⟨bv, e2, hb⟩, ht, h8⟩ := hC
                  subst e2
                  simp at e1
                  subst e1
                  have q0 := cell_at h8 0
                  have q1 := cell_at h8 1
                  have q2 := cell_at h8 2
                  have z0 := frozen_at h8 0
                  have z1 := frozen_at h8 1
                  have z2 := frozen_at h8 2
                  have H8 := Lib.hid h8
                  have HOP := Lib.hid hop
                  have HBY := Lib.hid hb
                  have HTT := Lib.hid ht
                  clear h8 hop hb ht hW
                  refine ⟨_, by go_simp <;> with_reducible rfl, ⟨?_, trivial⟩, ?_, ?_, ?_⟩
                  · obtain ⟨W5, hW5, _, _, _, f5, _⟩ := pkt_store H8.out (.int .i64 P.seq) (.int .i64 P.ack) (.slice A58 P.body.length c58)
                    rw [hW5]; exact f5.keep HOP.out (by simp) (by simp; exact block_ne HOP.out H8.out (by decide))
                  · simpa using block_set (block_set (block_set H8.out 0 (.int .i64 P.seq)) 1 (.int .i64 P.ack)) 2 (.slice A58 P.body.length c58)
                  · obtain ⟨W5, hW5, _, _, _, f5, _⟩ := pkt_store H8.out (.int .i64 P.seq) (.int .i64 P.ack) (.slice A58 P.body.length c58)
                    rw [hW5]; exact HBY.out.far f5 H8.out (by decide)
                  · obtain ⟨W5, hW5, _, _, _, f5, _⟩ := pkt_store H8.out (.int .i64 P.seq) (.int .i64 P.ack) (.slice A58 P.body.length c58)
                    rw [hW5]; exact HTT.out.far f5 H8.out (by decide) (by decide) (by decide) (by decide) (by decide) hg8
                simp only [Act.put]
                refine flow_val ?_ rfl (by kernel_rfl) (by rfl) (fun W hW => ?_) ?_
                rotate_left 1
                · go_simp <;> with_reducible rfl
                simp only [Act.put, List.setIfInBounds_toArray, List.set_cons_succ, List.set_cons_zero]
                refine flow_end ?_
                rintro W ⟨hR, _⟩ hC
                exact .inl ⟨by trivial, g51, A55, c55, A58, c58, g8, rfl, hR.1, hC⟩
        case hk =>
          rintro g51 A55 c55 A58 c58 g8 W4 ⟨hop, h8, hb8, ht4⟩
          have b4 := cell_at hop 4
          have b1 := cell_at hop 1
          have HOP := Lib.hid hop
          have H8 := Lib.hid h8
          have HB8 := Lib.hid hb8
          have HT4 := Lib.hid ht4
          have hb4 := lt_of_block hop
          clear hop h8 hb8 ht4
          go_wp2_with fail
          refine (HX.out W4 HT4.out).mono ?_
          rintro e w5 ⟨⟨v5, rfl, bv5, rfl, hb5⟩, ht5, hk5⟩
          obtain ⟨A5, c5, rfl, _, _, _, _⟩ := own_slice hb5.1
          have h8 := hk5.cells H8.out
          have d0 := cell_at h8 0
          have d1 := cell_at h8 1
          have d2 := cell_at h8 2
          have h8l := lt_of_block h8
          have hA := (Below.refl _ w5).alloc (Nat.le_refl _) (.cells #[.int .i64 P.seq, .int .i64 P.ack, .slice A5 P.body.length c5] 43)
          have HBa := Lib.hid ((hk5.1 _ _ HB8.out).below hA)
          have HBb := Lib.hid (hb5.below hA)
          have HT5 := Lib.hid (ht5.keep hA)
          clear hb5 ht5 hk5 h8 hA H8 HB8 HT4 b4 b1
          go_wp2_with fail
          refine (same_eq P A58 A5 c58 c5 _ HBa.out.bs HBb.out.bs HBa.out.2).mono ?_
          rintro e w6 ⟨rfl, hb6⟩
          have HT6 := Lib.hid (HT5.out.keep hb6)
          clear hb6 HT5 d0 d1 d2
          go_wp2_with fail
          obtain ⟨Aq, cq, hqb⟩ := HT6.out.cells
          have HTD := Lib.hid (HT6.out.keep (Below.refl _ (w6)).drew)
          have d0 := cell_at hqb 0
          have d1 := cell_at hqb 1
          have d2 := cell_at hqb 2
          clear hqb
          refine wp_region_flow (fun W => W = (w6).drew) [0, 1, 2, 3, 4, 5, 6, 7, 8, 9, 10, 11, 12, 13, 14, 15, 16, 17, 18, 19, 20, 21, 22, 23, 24, 25, 26, 27, 28, 29] (by kernel_rfl) (by kernel_rfl) (by kernel_rfl) (rfl) ?_
          refine flow_val ?_ rfl (by kernel_rfl) (by rfl) (fun W hW => ?_) ?_
          rotate_left 1
          · go_simp <;> with_reducible rfl
          simp only [Act.put, List.setIfInBounds_toArray, List.set_cons_succ, List.set_cons_zero]
          refine flow_val ?_ rfl (by kernel_rfl) (by rfl) (fun W hW => ?_) ?_
          rotate_left 1
          · go_simp <;> with_reducible rfl
          simp only [Act.put, List.setIfInBounds_toArray, List.set_cons_succ, List.set_cons_zero]
          refine flow_val ?_ rfl (by kernel_rfl) (by rfl) (fun W hW => ?_) ?_
          rotate_left 1
          · go_simp <;> with_reducible rfl
          simp only [Act.put, List.setIfInBounds_toArray, List.set_cons_succ, List.set_cons_zero]
          refine flow_val ?_ rfl (by kernel_rfl) (by rfl) (fun W hW => ?_) ?_
          rotate_left 1
          · go_simp <;> with_reducible rfl
          simp only [Act.put, List.setIfInBounds_toArray, List.set_cons_succ, List.set_cons_zero]
          refine flow_quiet (.int .i64 s1.l.length) rfl (by kernel_rfl) (by rfl) (fun W hW => ⟨_, _, by go_simp, (hW.symm ▸ HTD.out : Two w p q s1 s1 W).open_⟩) ?_
          simp only [Act.put, List.setIfInBounds_toArray, List.set_cons_succ, List.set_cons_zero]
          refine flow_val ?_ rfl (by kernel_rfl) (by rfl) (fun W hW => ?_) ?_
          rotate_left 1
          · go_simp <;> with_reducible rfl
          simp only [Act.put, List.setIfInBounds_toArray, List.set_cons_succ, List.set_cons_zero]
          refine flow_val ?_ rfl (by kernel_rfl) (by rfl) (fun W hW => ?_) ?_
          rotate_left 1
          · go_simp <;> with_reducible rfl
          simp only [Act.put, List.setIfInBounds_toArray, List.set_cons_succ, List.set_cons_zero]
          refine flow_val ?_ rfl (by kernel_rfl) (by rfl) (fun W hW => ?_) ?_
          rotate_left 1
          · go_simp <;> with_reducible rfl
          simp only [Act.put, List.setIfInBounds_toArray, List.set_cons_succ, List.set_cons_zero]
          refine flow_val ?_ rfl (by kernel_rfl) (by rfl) (fun W hW => ?_) ?_
          rotate_left 1
          · subst hW; have c1 : ((w6).drew).cell? ⟨q, 0, none⟩ = some (.slice Aq s1.l.length cq) := d0; go_simp <;> with_reducible rfl
          simp only [Act.put, List.setIfInBounds_toArray, List.set_cons_succ, List.set_cons_zero]
          refine flow_val ?_ rfl (by kernel_rfl) (by rfl) (fun W hW => ?_) ?_
          rotate_left 1
          · go_simp <;> with_reducible rfl
          simp only [Act.put, List.setIfInBounds_toArray, List.set_cons_succ, List.set_cons_zero]
          refine flow_val ?_ rfl (by kernel_rfl) (by rfl) (fun W hW => ?_) ?_
          rotate_left 1
          · go_simp <;> with_reducible rfl
          simp only [Act.put, List.setIfInBounds_toArray, List.set_cons_succ, List.set_cons_zero]
          refine flow_val ?_ rfl (by kernel_rfl) (by rfl) (fun W hW => ?_) ?_
          rotate_left 1
          · go_simp <;> with_reducible rfl
          simp only [Act.put, List.setIfInBounds_toArray, List.set_cons_succ, List.set_cons_zero]
          refine flow_val ?_ rfl (by kernel_rfl) (by rfl) (fun W hW => ?_) ?_
          rotate_left 1
          · go_simp <;> with_reducible rfl
          simp only [Act.put, List.setIfInBounds_toArray, List.set_cons_succ, List.set_cons_zero]
          refine flow_val ?_ rfl (by kernel_rfl) (by rfl) (fun W hW => ?_) ?_
          rotate_left 1
          · go_simp <;> with_reducible rfl
          simp only [Act.put, List.setIfInBounds_toArray, List.set_cons_succ, List.set_cons_zero]
          refine flow_quiet (.int .i64 s1.mark) rfl (by kernel_rfl) (by rfl) (fun W hW => ⟨_, _, by go_simp, (hW.symm ▸ HTD.out : Two w p q s1 s1 W).mark⟩) ?_
          simp only [Act.put, List.setIfInBounds_toArray, List.set_cons_succ, List.set_cons_zero]
          refine flow_val ?_ rfl (by kernel_rfl) (by rfl) (fun W hW => ?_) ?_
          rotate_left 1
          · go_simp <;> with_reducible rfl
          simp only [Act.put, List.setIfInBounds_toArray, List.set_cons_succ, List.set_cons_zero]
          refine flow_val ?_ rfl (by kernel_rfl) (by rfl) (fun W hW => ?_) ?_
          rotate_left 1
          · go_simp <;> with_reducible rfl
          simp only [Act.put, List.setIfInBounds_toArray, List.set_cons_succ, List.set_cons_zero]
          refine flow_val ?_ rfl (by kernel_rfl) (by rfl) (fun W hW => ?_) ?_
          rotate_left 1
          · go_simp <;> with_reducible rfl
          simp only [Act.put, List.setIfInBounds_toArray, List.set_cons_succ, List.set_cons_zero]
          refine flow_val ?_ rfl (by kernel_rfl) (by rfl) (fun W hW => ?_) ?_
          rotate_left 1
          · subst hW; have c1 : ((w6).drew).cell? ⟨q, 2, none⟩ = some (.int .i64 s1.mark) := d2; go_simp <;> with_reducible rfl
          simp only [Act.put, List.setIfInBounds_toArray, List.set_cons_succ, List.set_cons_zero]
          refine flow_val ?_ rfl (by kernel_rfl) (by rfl) (fun W hW => ?_) ?_
          rotate_left 1
          · go_simp <;> with_reducible rfl
          simp only [Act.put, List.setIfInBounds_toArray, List.set_cons_succ, List.set_cons_zero]
          refine flow_val ?_ rfl (by kernel_rfl) (by rfl) (fun W hW => ?_) ?_
          rotate_left 1
          · go_simp <;> with_reducible rfl
          simp only [Act.put, List.setIfInBounds_toArray, List.set_cons_succ, List.set_cons_zero]
          refine flow_val ?_ rfl (by kernel_rfl) (by rfl) (fun W hW => ?_) ?_
          rotate_left 1
          · go_simp <;> with_reducible rfl
          simp only [Act.put, List.setIfInBounds_toArray, List.set_cons_succ, List.set_cons_zero]
          refine flow_val ?_ rfl (by kernel_rfl) (by rfl) (fun W hW => ?_) ?_
          rotate_left 1
          · go_simp <;> with_reducible rfl
          simp only [Act.put, List.setIfInBounds_toArray, List.set_cons_succ, List.set_cons_zero]
          refine flow_quiet (.int .i64 s1.sent) rfl (by kernel_rfl) (by rfl) (fun W hW => ⟨_, _, by go_simp, (hW.symm ▸ HTD.out : Two w p q s1 s1 W).sent⟩) ?_
          simp only [Act.put, List.setIfInBounds_toArray, List.set_cons_succ, List.set_cons_zero]
          refine flow_val ?_ rfl (by kernel_rfl) (by rfl) (fun W hW => ?_) ?_
          rotate_left 1
          · go_simp <;> with_reducible rfl
          simp only [Act.put, List.setIfInBounds_toArray, List.set_cons_succ, List.set_cons_zero]
          refine flow_val ?_ rfl (by kernel_rfl) (by rfl) (fun W hW => ?_) ?_
          rotate_left 1
          · go_simp <;> with_reducible rfl
          simp only [Act.put, List.setIfInBounds_toArray, List.set_cons_succ, List.set_cons_zero]
          refine flow_val ?_ rfl (by kernel_rfl) (by rfl) (fun W hW => ?_) ?_
          rotate_left 1
          · go_simp <;> with_reducible rfl
          simp only [Act.put, List.setIfInBounds_toArray, List.set_cons_succ, List.set_cons_zero]
          refine flow_val ?_ rfl (by kernel_rfl) (by rfl) (fun W hW => ?_) ?_
          rotate_left 1
          · subst hW; have c1 : ((w6).drew).cell? ⟨q, 1, none⟩ = some (.int .i64 s1.sent) := d1; go_simp <;> with_reducible rfl
          simp only [Act.put, List.setIfInBounds_toArray, List.set_cons_succ, List.set_cons_zero]
          refine flow_val ?_ rfl (by kernel_rfl) (by rfl) (fun W hW => ?_) ?_
          rotate_left 1
          · go_simp <;> with_reducible rfl
          simp only [Act.put, List.setIfInBounds_toArray, List.set_cons_succ, List.set_cons_zero]
          refine flow_val ?_ rfl (by kernel_rfl) (by rfl) (fun W hW => ?_) ?_
          rotate_left 1
          · go_simp <;> with_reducible rfl
          simp only [Act.put, List.setIfInBounds_toArray, List.set_cons_succ, List.set_cons_zero]
          refine flow_done ?_
          intro W hW
          subst hW
          clear d0 d1 d2
          go_wp2_with fail
          go_roundw
          case rel => exact ⟨k + 1, s1, hlt, by go_num, by have := HINV.out; simpa using this, HTD.out⟩
          case measure => simp [intOf]; omega
      have hq1 : (z.kind == 1) = false := by simp [h1]
      by_cases h2 : z.kind = 2
      · skip
        have hq2 : (z.kind == 2) = true := by simp [h2]
        clear h2
        go_wp2_with fail
        clear k0 k1 k2 k3 k4
        obtain ⟨b, hb⟩ : ∃ b, wr.heap.size = b := ⟨_, rfl⟩
        obtain ⟨W0, hW0⟩ : ∃ W0, wr.alloc (.cells #[.int .i64 z.kind, .int .i64 z.now, .int .i64 z.seq, .int .i64 z.ack, .slice z.A z.bs.length z.c] 57) = W0 := ⟨_, rfl⟩
        rw [hW0, hb] at HB0
        rw [hW0] at HT0
        rw [hW0, hb]
        clear hW0 hb
        have hblt := lt_of_block HB0.out
        have hs : 0 ≤ s.sent ∧ s.sent < 9223372036854775807 := by have := HI.out; unfold InvL at this; omega
        have hmk : 0 ≤ s.mark ∧ s.mark < 9223372036854775807 := by have := HI.out; unfold InvL at this; omega
        have hsl : s.l.length ≤ 64 := HI.out.2.2.2.2.1
        obtain ⟨Q, hQ⟩ : ∃ Q, tickP s z.now = Q := ⟨_, rfl⟩
        obtain ⟨s1, hs1⟩ : ∃ s1, tickS s z.now = s1 := ⟨_, rfl⟩
        have HINV : Hid (InvL s1 (k + 1)) := Lib.hid (hs1 ▸ HI.out.tick z.now)
        have HS : Hid (∀ W, Two w p q s s W → Calls Try.prog 21 #[.pointer (some ⟨p, 0, none⟩), .int .i64 z.now] W fun e W' => (∃ v, e = .returned v ∧ IsPs W.heap.size W' v Q) ∧ Two w p q s1 s W' ∧ KeepT W W') := Lib.hid (fun W ht => by
          subst hQ; subst hs1
          exact ht.tick z.now (by omega) (fun x hx => by have := HI.out.2.2.2.2.2 x hx; omega) hnow)
        have HX : Hid (∀ W, Two w p q s1 s W → Calls Try.prog 24 #[.pointer (some ⟨q, 0, none⟩), .int .i64 z.now] W fun e W' => (∃ v, e = .returned v ∧ IsPs W.heap.size W' v Q) ∧ Two w p q s1 s1 W' ∧ KeepT W W') := Lib.hid (fun W ht => by
          subst hQ; subst hs1
          exact ht.xtick z.now (by omega) (fun x hx => by have := HI.out.2.2.2.2.2 x hx; omega) hnow)
        have hQl : Q.length ≤ 64 := by
          rw [← hQ]
          unfold tickP
          rw [List.length_map]
          exact Nat.le_trans (List.length_filter_le _ _) hsl
        clear hQ hs1
        refine wp_region_flow2 (fun W => W.heap[b]? = some (.cells #[.int .i64 z.kind, .int .i64 z.now, .int .i64 z.seq, .int .i64 z.ack, .slice z.A z.bs.length z.c] 57 (0, 0))) (fun W => Two w p q s s W) [0, 1, 2, 4, 5, 6, 3, 7, 8, 9] (by kernel_rfl) (by kernel_rfl) (by kernel_rfl) (HB0.out) (HT0.out.keep (Below.refl _ W0).drew) ?_
        refine flow_val ?_ rfl (by kernel_rfl) (by rfl) (fun W hW => ?_) ?_
        rotate_left 1
        · go_simp <;> with_reducible rfl
        simp only [Act.put, List.setIfInBounds_toArray, List.set_cons_succ, List.set_cons_zero]
        refine flow_val ?_ rfl (by kernel_rfl) (by rfl) (fun W hW => ?_) ?_
        rotate_left 1
        · go_simp <;> with_reducible rfl
        simp only [Act.put, List.setIfInBounds_toArray, List.set_cons_succ, List.set_cons_zero]
        refine flow_val ?_ rfl (by kernel_rfl) (by rfl) (fun W hW => ?_) ?_
        rotate_left 1
        · have c1 : W.cell? ⟨b, 1, none⟩ = some (.int .i64 z.now) := cell_at hW 1; go_simp <;> with_reducible rfl
        simp only [Act.put, List.setIfInBounds_toArray, List.set_cons_succ, List.set_cons_zero]
        refine flow_val ?_ rfl (by kernel_rfl) (by rfl) (fun W hW => ?_) ?_
        rotate_left 1
        · go_simp <;> with_reducible rfl
        simp only [Act.put, List.setIfInBounds_toArray, List.set_cons_succ, List.set_cons_zero]
        refine flow_val ?_ rfl (by kernel_rfl) (by rfl) (fun W hW => ?_) ?_
        rotate_left 1
        · go_simp <;> with_reducible rfl
        simp only [Act.put, List.setIfInBounds_toArray, List.set_cons_succ, List.set_cons_zero]
        refine flow_val ?_ rfl (by kernel_rfl) (by rfl) (fun W hW => ?_) ?_
        rotate_left 1
        · have c1 : W.cell? ⟨b, 1, none⟩ = some (.int .i64 z.now) := cell_at hW 1; go_simp <;> with_reducible rfl
        simp only [Act.put, List.setIfInBounds_toArray, List.set_cons_succ, List.set_cons_zero]
        refine flow_gcall (fun v W => IsPs 0 W v Q ∧ Two w p q s1 s W) rfl (by kernel_rfl) (by rfl) (by kernel_rfl) (fun W hW hC => ⟨_, _, _, by go_simp, (HS.out W hC).mono fun e w1 ⟨⟨v, he, hp⟩, ht, hk⟩ => ⟨v, he, hk.op hW, hp.low, ht⟩⟩) ?_
        rintro v84 ⟨_, _, ⟨_, _, ho84, _⟩, _⟩
        simp only [Act.put, List.setIfInBounds_toArray, List.set_cons_succ, List.set_cons_zero]
        obtain ⟨A84, c84, rfl, _, _, _, _⟩ := own_slice ho84
        clear ho84
        refine flow_gcall (fun v W => IsPs 0 W (.slice A84 Q.length c84) Q ∧ IsPs 0 W v Q ∧ Two w p q s1 s1 W) rfl (by kernel_rfl) (by rfl) (by kernel_rfl) (fun W hW hC => ⟨_, _, _, by go_simp, (HX.out W hC.2).mono fun e w1 ⟨⟨v, he, hp⟩, ht, hk⟩ => ⟨v, he, ⟨hk.op hW.1, trivial⟩, hk.pks hC.1, hp.low, ht⟩⟩) ?_
        rintro v88 ⟨_, _, _, ⟨_, _, ho88, _⟩, _⟩
        simp only [Act.put, List.setIfInBounds_toArray, List.set_cons_succ, List.set_cons_zero]
        obtain ⟨A88, c88, rfl, _, _, _, _⟩ := own_slice ho88
        clear ho88
        refine flow_val ?_ rfl (by kernel_rfl) (by rfl) (fun W hW => ?_) ?_
        rotate_left 1
        · go_simp <;> with_reducible rfl
        simp only [Act.put, List.setIfInBounds_toArray, List.set_cons_succ, List.set_cons_zero]
        refine flow_val ?_ rfl (by kernel_rfl) (by rfl) (fun W hW => ?_) ?_
        rotate_left 1
        · go_simp <;> with_reducible rfl
        simp only [Act.put, List.setIfInBounds_toArray, List.set_cons_succ, List.set_cons_zero]
        refine flow_done2 ?_
        rintro W4 _ ⟨⟨z1, hz1, ho1, hb1⟩, ⟨z2, hz2, ho2, hb2⟩, ht4⟩
        have HZ1 := Lib.hid hz1
        have HZ2 := Lib.hid hz2
        have HO1 := Lib.hid ho1
        have HO2 := Lib.hid ho2
        have HBY1 := Lib.hid hb1
        have HBY2 := Lib.hid hb2
        have HT4 := Lib.hid ht4
        obtain ⟨m, hm⟩ : ∃ m, Q.length = m := ⟨_, rfl⟩
        rw [hm] at HO1 HO2 hQl
        rw [hm]
        have HM := Lib.hid hm
        clear hz1 hz2 ho1 ho2 hb1 hb2 ht4 hm HT0 HB0
        go_wp2_with fail
        go_loopw [7, 14] (fun okv kv wr => ∃ kk : Nat, kk ≤ m ∧ okv = .bool true ∧ kv = .int .i64 kk ∧ Below W4.heap.size W4 wr) (fun _ kv _ => m - (intOf kv).toNat)
        case atStart => exact ⟨0, Nat.zero_le _, rfl, rfl, Below.refl _ _⟩
        case round =>
          obtain ⟨kk, hkk, rfl, rfl, hbl⟩ := hrel
          have HBL := Lib.hid hbl
          clear hbl
          by_cases hlm : kk < m
          · obtain ⟨g1, d1, e1⟩ := own_pos HO1.out (by omega)
            injection e1 with e1 _ e2
            subst e1; subst e2
            obtain ⟨g2, d2, e1⟩ := own_pos HO2.out (by omega)
            injection e1 with e1 _ e2
            subst e1; subst e2
            obtain ⟨_, _, e1, _, _, hrd1, _⟩ := own_slice HO1.out
            injection e1 with e1 _ e2
            subst e1; subst e2
            obtain ⟨_, _, e1, _, _, hrd2, _⟩ := own_slice HO2.out
            injection e1 with e1 _ e2
            subst e1; subst e2
            obtain ⟨_, _, e1, hl1, hc1⟩ := hrd1.2 (by omega)
            injection e1 with e1
            injection e1 with e1 e2
            subst e1; subst e2
            obtain ⟨_, _, e1, hl2, hc2⟩ := hrd2.2 (by omega)
            injection e1 with e1
            injection e1 with e1 e2
            subst e1; subst e2
            simp only [Nat.zero_add] at hc1 hc2
            have hn1 : kk < z1.length := by have := congrArg List.length HZ1.out; have := HM.out; simp at *; omega
            have hn2 : kk < z2.length := by have := congrArg List.length HZ2.out; have := HM.out; simp at *; omega
            have hkQ : kk < Q.length := by have := HM.out; omega
            obtain ⟨P, hP⟩ : ∃ P, Q[kk] = P := ⟨_, rfl⟩
            have e1 : z1[kk].1 = P := by
              have h1 : (z1.map (·.1))[kk]'(by simpa using hn1) = Q[kk] := by simp only [HZ1.out]
              rw [hP] at h1
              simpa using h1
            have e2 : z2[kk].1 = P := by
              have h1 : (z2.map (·.1))[kk]'(by simpa using hn2) = Q[kk] := by simp only [HZ2.out]
              rw [hP] at h1
              simpa using h1
            have y1 := (HBY1.out z1[kk] (List.getElem_mem _)).below HBL.out
            have y2 := (HBY2.out z2[kk] (List.getElem_mem _)).below HBL.out
            rw [e1] at y1
            rw [e2] at y2
            obtain ⟨X1, x1, f1, _, _, _, _⟩ := own_slice y1.1
            obtain ⟨X2, x2, f2, _, _, _, _⟩ := own_slice y2.1
            rw [f1] at y1
            rw [f2] at y2
            have hat1 := fun j (hj : j < 3) => flatP_at z1 kk j hn1 hj
            have hat2 := fun j (hj : j < 3) => flatP_at z2 kk j hn2 hj
            have k10 : wr.cell? ⟨g1, kk * 3, none⟩ = some (.int .i64 P.seq) := (HBL.out.cell (p := ⟨g1, kk * 3, none⟩) hl1).trans (hc1 (kk * 3 + 0) _ ((hat1 0 (by omega)).trans (by simp only [encP, e1]; rfl)))
            have k11 : wr.cell? ⟨g1, kk * 3 + 1, none⟩ = some (.int .i64 P.ack) := (HBL.out.cell (p := ⟨g1, kk * 3 + 1, none⟩) hl1).trans (hc1 (kk * 3 + 1) _ ((hat1 1 (by omega)).trans (by simp only [encP, e1]; rfl)))
            have k12 : wr.cell? ⟨g1, kk * 3 + 2, none⟩ = some (.slice X1 P.body.length x1) := (HBL.out.cell (p := ⟨g1, kk * 3 + 2, none⟩) hl1).trans (hc1 (kk * 3 + 2) _ ((hat1 2 (by omega)).trans (by simp only [encP, f1]; rfl)))
            have k20 : wr.cell? ⟨g2, kk * 3, none⟩ = some (.int .i64 P.seq) := (HBL.out.cell (p := ⟨g2, kk * 3, none⟩) hl2).trans (hc2 (kk * 3 + 0) _ ((hat2 0 (by omega)).trans (by simp only [encP, e2]; rfl)))
            have k21 : wr.cell? ⟨g2, kk * 3 + 1, none⟩ = some (.int .i64 P.ack) := (HBL.out.cell (p := ⟨g2, kk * 3 + 1, none⟩) hl2).trans (hc2 (kk * 3 + 1) _ ((hat2 1 (by omega)).trans (by simp only [encP, e2]; rfl)))
            have k22 : wr.cell? ⟨g2, kk * 3 + 2, none⟩ = some (.slice X2 P.body.length x2) := (HBL.out.cell (p := ⟨g2, kk * 3 + 2, none⟩) hl2).trans (hc2 (kk * 3 + 2) _ ((hat2 2 (by omega)).trans (by simp only [encP, f2]; rfl)))
            have hgl1 : g1 < wr.heap.size := by have := HBL.out.size; omega
            have hgl2 : g2 < wr.heap.size := by have := HBL.out.size; omega
            have HY1 := Lib.hid y1
            have HY2 := Lib.hid y2
            clear hat1 hat2 hc1 hc2 e1 e2 f1 f2 y1 y2 hP hrd1 hrd2
            go_wp2_with fail
            refine wp_region_flow (fun W => Below wr.heap.size wr W) [0, 1, 2, 3, 4, 5, 6, 7, 8, 9] (by kernel_rfl) (by kernel_rfl) (by kernel_rfl) ((Below.refl _ wr).drew) ?_
            refine flow_val ?_ rfl (by kernel_rfl) (by rfl) (fun W hW => ?_) ?_
            rotate_left 1
            · go_simp <;> with_reducible rfl
            simp only [Act.put, List.setIfInBounds_toArray, List.set_cons_succ, List.set_cons_zero]
            refine flow_val ?_ rfl (by kernel_rfl) (by rfl) (fun W hW => ?_) ?_
            rotate_left 1
            · go_simp <;> with_reducible rfl
            simp only [Act.put, List.setIfInBounds_toArray, List.set_cons_succ, List.set_cons_zero]
            refine flow_val ?_ rfl (by kernel_rfl) (by rfl) (fun W hW => ?_) ?_
            rotate_left 1
            · go_simp <;> with_reducible rfl
            simp only [Act.put, List.setIfInBounds_toArray, List.set_cons_succ, List.set_cons_zero]
            refine flow_val ?_ rfl (by kernel_rfl) (by rfl) (fun W hW => ?_) ?_
            rotate_left 1
            · have c10 : W.cell? ⟨g1, kk * 3, none⟩ = some (.int .i64 P.seq) := (hW.cell (p := ⟨g1, kk * 3, none⟩) hgl1).trans k10; have c11 : W.cell? ⟨g1, kk * 3 + 1, none⟩ = some (.int .i64 P.ack) := (hW.cell (p := ⟨g1, kk * 3 + 1, none⟩) hgl1).trans k11; have c12 : W.cell? ⟨g1, kk * 3 + 2, none⟩ = some (.slice X1 P.body.length x1) := (hW.cell (p := ⟨g1, kk * 3 + 2, none⟩) hgl1).trans k12; go_simp <;> with_reducible rfl
            simp only [Act.put, List.setIfInBounds_toArray, List.set_cons_succ, List.set_cons_zero]
            refine flow_val ?_ rfl (by kernel_rfl) (by rfl) (fun W hW => ?_) ?_
            rotate_left 1
            · go_simp <;> with_reducible rfl
            simp only [Act.put, List.setIfInBounds_toArray, List.set_cons_succ, List.set_cons_zero]
            refine flow_val ?_ rfl (by kernel_rfl) (by rfl) (fun W hW => ?_) ?_
            rotate_left 1
            · go_simp <;> with_reducible rfl
            simp only [Act.put, List.setIfInBounds_toArray, List.set_cons_succ, List.set_cons_zero]
            refine flow_val ?_ rfl (by kernel_rfl) (by rfl) (fun W hW => ?_) ?_
            rotate_left 1
            · go_simp <;> with_reducible rfl
            simp only [Act.put, List.setIfInBounds_toArray, List.set_cons_succ, List.set_cons_zero]
            refine flow_val ?_ rfl (by kernel_rfl) (by rfl) (fun W hW => ?_) ?_
            rotate_left 1
            · have c20 : W.cell? ⟨g2, kk * 3, none⟩ = some (.int .i64 P.seq) := (hW.cell (p := ⟨g2, kk * 3, none⟩) hgl2).trans k20; have c21 : W.cell? ⟨g2, kk * 3 + 1, none⟩ = some (.int .i64 P.ack) := (hW.cell (p := ⟨g2, kk * 3 + 1, none⟩) hgl2).trans k21; have c22 : W.cell? ⟨g2, kk * 3 + 2, none⟩ = some (.slice X2 P.body.length x2) := (hW.cell (p := ⟨g2, kk * 3 + 2, none⟩) hgl2).trans k22; go_simp <;> with_reducible rfl
            simp only [Act.put, List.setIfInBounds_toArray, List.set_cons_succ, List.set_cons_zero]
            refine flow_call (.bool true) rfl (by kernel_rfl) (by rfl) (by kernel_rfl) (fun W hW => ⟨_, _, _, by go_simp, (same_eq P X1 X2 x1 x2 W (HY1.out.bs.below hW) (HY2.out.bs.below hW) HY1.out.2).mono fun e w1 ⟨he, hb⟩ => ⟨he, hW.trans (hb.mono hW.size)⟩⟩) ?_
            simp only [Act.put, List.setIfInBounds_toArray, List.set_cons_succ, List.set_cons_zero]
            refine flow_val ?_ rfl (by kernel_rfl) (by rfl) (fun W hW => ?_) ?_
            rotate_left 1
            · go_simp <;> with_reducible rfl
            simp only [Act.put, List.setIfInBounds_toArray, List.set_cons_succ, List.set_cons_zero]
            refine flow_done ?_
            rintro W ⟨hW, _⟩
            have HW := Lib.hid hW
            clear hW k10 k11 k12 k20 k21 k22
            go_wp2_with fail
            go_roundw
            case rel => exact ⟨kk + 1, hlm, rfl, by go_num, HBL.out.trans (HW.out.mono HBL.out.size)⟩
            case measure => simp [intOf]; omega
          · have HT5 := Lib.hid (HT4.out.keep HBL.out)
            clear HO1 HO2
            go_wp2_with fail
            obtain ⟨Aq, cq, hqb⟩ := HT5.out.cells
            have HTD := Lib.hid (HT5.out.keep (Below.refl _ (wr)).drew)
            have d0 := cell_at hqb 0
            have d1 := cell_at hqb 1
            have d2 := cell_at hqb 2
            clear hqb
            refine wp_region_flow (fun W => W = (wr).drew) [0, 1, 2, 3, 4, 5, 6, 7, 8, 9, 10, 11, 12, 13, 14, 15, 16, 17, 18, 19, 20, 21, 22, 23, 24, 25, 26, 27, 28, 29] (by kernel_rfl) (by kernel_rfl) (by kernel_rfl) (rfl) ?_
            refine flow_val ?_ rfl (by kernel_rfl) (by rfl) (fun W hW => ?_) ?_
            rotate_left 1
            · go_simp <;> with_reducible rfl
            simp only [Act.put, List.setIfInBounds_toArray, List.set_cons_succ, List.set_cons_zero]
            refine flow_val ?_ rfl (by kernel_rfl) (by rfl) (fun W hW => ?_) ?_
            rotate_left 1
            · go_simp <;> with_reducible rfl
            simp only [Act.put, List.setIfInBounds_toArray, List.set_cons_succ, List.set_cons_zero]
            refine flow_val ?_ rfl (by kernel_rfl) (by rfl) (fun W hW => ?_) ?_
            rotate_left 1
            · go_simp <;> with_reducible rfl
            simp only [Act.put, List.setIfInBounds_toArray, List.set_cons_succ, List.set_cons_zero]
            refine flow_val ?_ rfl (by kernel_rfl) (by rfl) (fun W hW => ?_) ?_
            rotate_left 1
            · go_simp <;> with_reducible rfl
            simp only [Act.put, List.setIfInBounds_toArray, List.set_cons_succ, List.set_cons_zero]
            refine flow_quiet (.int .i64 s1.l.length) rfl (by kernel_rfl) (by rfl) (fun W hW => ⟨_, _, by go_simp, (hW.symm ▸ HTD.out : Two w p q s1 s1 W).open_⟩) ?_
            simp only [Act.put, List.setIfInBounds_toArray, List.set_cons_succ, List.set_cons_zero]
            refine flow_val ?_ rfl (by kernel_rfl) (by rfl) (fun W hW => ?_) ?_
            rotate_left 1
            · go_simp <;> with_reducible rfl
            simp only [Act.put, List.setIfInBounds_toArray, List.set_cons_succ, List.set_cons_zero]
            refine flow_val ?_ rfl (by kernel_rfl) (by rfl) (fun W hW => ?_) ?_
            rotate_left 1
            · go_simp <;> with_reducible rfl
            simp only [Act.put, List.setIfInBounds_toArray, List.set_cons_succ, List.set_cons_zero]
            refine flow_val ?_ rfl (by kernel_rfl) (by rfl) (fun W hW => ?_) ?_
            rotate_left 1
            · go_simp <;> with_reducible rfl
            simp only [Act.put, List.setIfInBounds_toArray, List.set_cons_succ, List.set_cons_zero]
            refine flow_val ?_ rfl (by kernel_rfl) (by rfl) (fun W hW => ?_) ?_
            rotate_left 1
            · subst hW; have c1 : ((wr).drew).cell? ⟨q, 0, none⟩ = some (.slice Aq s1.l.length cq) := d0; go_simp <;> with_reducible rfl
            simp only [Act.put, List.setIfInBounds_toArray, List.set_cons_succ, List.set_cons_zero]
            refine flow_val ?_ rfl (by kernel_rfl) (by rfl) (fun W hW => ?_) ?_
            rotate_left 1
            · go_simp <;> with_reducible rfl
            simp only [Act.put, List.setIfInBounds_toArray, List.set_cons_succ, List.set_cons_zero]
            refine flow_val ?_ rfl (by kernel_rfl) (by rfl) (fun W hW => ?_) ?_
            rotate_left 1
            · go_simp <;> with_reducible rfl
            simp only [Act.put, List.setIfInBounds_toArray, List.set_cons_succ, List.set_cons_zero]
            refine flow_val ?_ rfl (by kernel_rfl) (by rfl) (fun W hW => ?_) ?_
            rotate_left 1
            · go_simp <;> with_reducible rfl
            simp only [Act.put, List.setIfInBounds_toArray, List.set_cons_succ, List.set_cons_zero]
            refine flow_val ?_ rfl (by kernel_rfl) (by rfl) (fun W hW => ?_) ?_
            rotate_left 1
            · go_simp <;> with_reducible rfl
            simp only [Act.put, List.setIfInBounds_toArray, List.set_cons_succ, List.set_cons_zero]
            refine flow_val ?_ rfl (by kernel_rfl) (by rfl) (fun W hW => ?_) ?_
            rotate_left 1
            · go_simp <;> with_reducible rfl
            simp only [Act.put, List.setIfInBounds_toArray, List.set_cons_succ, List.set_cons_zero]
            refine flow_quiet (.int .i64 s1.mark) rfl (by kernel_rfl) (by rfl) (fun W hW => ⟨_, _, by go_simp, (hW.symm ▸ HTD.out : Two w p q s1 s1 W).mark⟩) ?_
            simp only [Act.put, List.setIfInBounds_toArray, List.set_cons_succ, List.set_cons_zero]
            refine flow_val ?_ rfl (by kernel_rfl) (by rfl) (fun W hW => ?_) ?_
            rotate_left 1
            · go_simp <;> with_reducible rfl
            simp only [Act.put, List.setIfInBounds_toArray, List.set_cons_succ, List.set_cons_zero]
            refine flow_val ?_ rfl (by kernel_rfl) (by rfl) (fun W hW => ?_) ?_
            rotate_left 1
            · go_simp <;> with_reducible rfl
            simp only [Act.put, List.setIfInBounds_toArray, List.set_cons_succ, List.set_cons_zero]
            refine flow_val ?_ rfl (by kernel_rfl) (by rfl) (fun W hW => ?_) ?_
            rotate_left 1
            · go_simp <;> with_reducible rfl
            simp only [Act.put, List.setIfInBounds_toArray, List.set_cons_succ, List.set_cons_zero]
            refine flow_val ?_ rfl (by kernel_rfl) (by rfl) (fun W hW => ?_) ?_
            rotate_left 1
            · subst hW; have c1 : ((wr).drew).cell? ⟨q, 2, none⟩ = some (.int .i64 s1.mark) := d2; go_simp <;> with_reducible rfl
            simp only [Act.put, List.setIfInBounds_toArray, List.set_cons_succ, List.set_cons_zero]
            refine flow_val ?_ rfl (by kernel_rfl) (by rfl) (fun W hW => ?_) ?_
            rotate_left 1
            · go_simp <;> with_reducible rfl
            simp only [Act.put, List.setIfInBounds_toArray, List.set_cons_succ, List.set_cons_zero]
            refine flow_val ?_ rfl (by kernel_rfl) (by rfl) (fun W hW => ?_) ?_
            rotate_left 1
            · go_simp <;> with_reducible rfl
            simp only [Act.put, List.setIfInBounds_toArray, List.set_cons_succ, List.set_cons_zero]
            refine flow_val ?_ rfl (by kernel_rfl) (by rfl) (fun W hW => ?_) ?_
            rotate_left 1
            · go_simp <;> with_reducible rfl
            simp only [Act.put, List.setIfInBounds_toArray, List.set_cons_succ, List.set_cons_zero]
            refine flow_val ?_ rfl (by kernel_rfl) (by rfl) (fun W hW => ?_) ?_
            rotate_left 1
            · go_simp <;> with_reducible rfl
            simp only [Act.put, List.setIfInBounds_toArray, List.set_cons_succ, List.set_cons_zero]
            refine flow_quiet (.int .i64 s1.sent) rfl (by kernel_rfl) (by rfl) (fun W hW => ⟨_, _, by go_simp, (hW.symm ▸ HTD.out : Two w p q s1 s1 W).sent⟩) ?_
            simp only [Act.put, List.setIfInBounds_toArray, List.set_cons_succ, List.set_cons_zero]
            refine flow_val ?_ rfl (by kernel_rfl) (by rfl) (fun W hW => ?_) ?_
            rotate_left 1
            · go_simp <;> with_reducible rfl
            simp only [Act.put, List.setIfInBounds_toArray, List.set_cons_succ, List.set_cons_zero]
            refine flow_val ?_ rfl (by kernel_rfl) (by rfl) (fun W hW => ?_) ?_
            rotate_left 1
            · go_simp <;> with_reducible rfl
            simp only [Act.put, List.setIfInBounds_toArray, List.set_cons_succ, List.set_cons_zero]
            refine flow_val ?_ rfl (by kernel_rfl) (by rfl) (fun W hW => ?_) ?_
            rotate_left 1
            · go_simp <;> with_reducible rfl
            simp only [Act.put, List.setIfInBounds_toArray, List.set_cons_succ, List.set_cons_zero]
            refine flow_val ?_ rfl (by kernel_rfl) (by rfl) (fun W hW => ?_) ?_
            rotate_left 1
            · subst hW; have c1 : ((wr).drew).cell? ⟨q, 1, none⟩ = some (.int .i64 s1.sent) := d1; go_simp <;> with_reducible rfl
            simp only [Act.put, List.setIfInBounds_toArray, List.set_cons_succ, List.set_cons_zero]
            refine flow_val ?_ rfl (by kernel_rfl) (by rfl) (fun W hW => ?_) ?_
            rotate_left 1
            · go_simp <;> with_reducible rfl
            simp only [Act.put, List.setIfInBounds_toArray, List.set_cons_succ, List.set_cons_zero]
            refine flow_val ?_ rfl (by kernel_rfl) (by rfl) (fun W hW => ?_) ?_
            rotate_left 1
            · go_simp <;> with_reducible rfl
            simp only [Act.put, List.setIfInBounds_toArray, List.set_cons_succ, List.set_cons_zero]
            refine flow_done ?_
            intro W hW
            subst hW
            clear d0 d1 d2
            go_wp2_with fail
            go_roundw
            case rel => exact ⟨k + 1, s1, hlt, by go_num, by have := HINV.out; simpa using this, HTD.out⟩
            case measure => simp [intOf]; omega
      have hq2 : (z.kind == 2) = false := by simp [h2]
      by_cases h3 : z.kind = 3
      · skip
        have hq3 : (z.kind == 3) = true := by simp [h3]
        clear h3
        go_wp2_with fail
        clear k0 k1 k2 k3 k4
        obtain ⟨b, hb⟩ : ∃ b, wr.heap.size = b := ⟨_, rfl⟩
        obtain ⟨W0, hW0⟩ : ∃ W0, wr.alloc (.cells #[.int .i64 z.kind, .int .i64 z.now, .int .i64 z.seq, .int .i64 z.ack, .slice z.A z.bs.length z.c] 57) = W0 := ⟨_, rfl⟩
        rw [hW0, hb] at HB0
        rw [hW0] at HT0
        rw [hW0, hb]
        clear hW0 hb
        have hblt := lt_of_block HB0.out
        have hs : 0 ≤ s.sent ∧ s.sent < 9223372036854775807 := by have := HI.out; unfold InvL at this; omega
        have hmk : 0 ≤ s.mark ∧ s.mark < 9223372036854775807 := by have := HI.out; unfold InvL at this; omega
        have hsl : s.l.length ≤ 64 := HI.out.2.2.2.2.1
        obtain ⟨P, hP⟩ : ∃ P, onP s (pkO z) = P := ⟨_, rfl⟩
        obtain ⟨B, hB⟩ : ∃ B, onB s (pkO z) = B := ⟨_, rfl⟩
        obtain ⟨N, hN⟩ : ∃ N, onI s (pkO z) = N := ⟨_, rfl⟩
        obtain ⟨s1, hs1⟩ : ∃ s1, onS s (pkO z) = s1 := ⟨_, rfl⟩
        have HINV : Hid (InvL s1 (k + 1)) := Lib.hid (hs1 ▸ HI.out.on (pkO z))
        have HS : Hid (∀ W, Two w p q s s W → Calls Try.prog 20 #[.pointer (some ⟨p, 0, none⟩), .agg #[.int .i64 z.seq, .int .i64 z.ack, .slice z.A z.bs.length z.c]] W fun e W' => (∃ bv v3, e = .returned (.tuple #[bv, .bool N, v3]) ∧ ByO W' bv B ∧ IsP W' v3 P) ∧ Two w p q s1 s W' ∧ KeepT W W') := Lib.hid (fun W ht => by
          subst hP; subst hB; subst hN; subst hs1
          exact ht.on (pkO z) z.A z.c HZ.out.2 (by show z.bs.length ≤ _; omega) hmk)
        have HX : Hid (∀ W, Two w p q s1 s W → Calls Try.prog 25 #[.pointer (some ⟨q, 0, none⟩), .agg #[.int .i64 z.seq, .int .i64 z.ack, .slice z.A z.bs.length z.c]] W fun e W' => (∃ bv v3, e = .returned (.tuple #[bv, .bool N, v3]) ∧ Bs W' bv B ∧ IsP W' v3 P) ∧ Two w p q s1 s1 W' ∧ KeepT W W') := Lib.hid (fun W ht => by
          subst hP; subst hB; subst hN; subst hs1
          exact ht.xon (pkO z) z.A z.c HZ.out.2 (by show z.bs.length ≤ _; omega) (by omega) hmk)
        clear hP hB hN hs1
        refine (HS.out W0 HT0.out).mono ?_
        rintro e w4 ⟨⟨bv4, v4, rfl, hb4, bx4, rfl, hx4⟩, ht4, hk4⟩
        obtain ⟨A4, c4, rfl, _, _, _, _⟩ := own_slice hb4.1
        obtain ⟨X4, d4, rfl, _, _, _, _⟩ := own_slice hx4.1
        have hop := hk4.op HB0.out
        have b2 := cell_at hop 2
        have b3 := cell_at hop 3
        have b4 := cell_at hop 4
        have hopl := lt_of_block hop
        have hA := (Below.refl _ w4).alloc (Nat.le_refl _) (.cells #[.int .i64 P.seq, .int .i64 P.ack, .slice X4 P.body.length d4] 43)
        have HB4 := Lib.hid (hb4.below hA)
        have HX4 := Lib.hid (hx4.below hA)
        have HT4 := Lib.hid (ht4.keep hA)
        have HN4 := Lib.hid (block_new w4 (.cells #[.int .i64 P.seq, .int .i64 P.ack, .slice X4 P.body.length d4] 43))
        clear hb4 hx4 ht4 hk4 hop hA HB0 HT0
        go_wp2_with fail
        obtain ⟨n4, hn4⟩ : ∃ n4, w4.heap.size = n4 := ⟨_, rfl⟩
        obtain ⟨W5, hW5⟩ : ∃ W5, w4.alloc (.cells #[.int .i64 P.seq, .int .i64 P.ack, .slice X4 P.body.length d4] 43) = W5 := ⟨_, rfl⟩
        rw [hW5] at HB4 HX4 HT4
        rw [hW5, hn4] at HN4
        rw [hW5, hn4]
        clear hW5 hn4 b2 b3 b4 hopl
        refine (HX.out W5 HT4.out).mono ?_
        rintro e w6 ⟨⟨bv6, v6, rfl, hb6, bx6, rfl, hx6⟩, ht6, hk6⟩
        obtain ⟨A6, c6, rfl, _, _, _⟩ := id hb6
        obtain ⟨X6, d6, rfl, _, _, _, _⟩ := own_slice hx6.1
        have hn6 := hk6.cells HN4.out
        have d0 := cell_at hn6 0
        have d1 := cell_at hn6 1
        have d2 := cell_at hn6 2
        have hn6l := lt_of_block hn6
        have hA := (Below.refl _ w6).alloc (Nat.le_refl _) (.cells #[.int .i64 P.seq, .int .i64 P.ack, .slice X6 P.body.length d6] 43)
        have h256 := HB4.out.2
        have r1 := run_str _ A4 B.length c4 B (bs_rd ((hk6.1 _ _ HB4.out).below hA).bs) h256
        have r2 := run_str _ A6 B.length c6 B (bs_rd (hb6.below hA)) h256
        obtain ⟨S, hS⟩ : ∃ S, strOf B = S := ⟨_, rfl⟩
        rw [hS] at r1 r2
        have HX4' := Lib.hid ((hk6.1 _ _ HX4.out).below hA)
        have HX6 := Lib.hid (hx6.below hA)
        have HT6 := Lib.hid (ht6.keep hA)
        clear hb6 hx6 ht6 hk6 hn6 hA hS h256 HB4 HX4 HT4 HN4
        go_wp2_with fail
        refine (same_eq P X4 X6 d4 d6 _ HX4'.out.bs HX6.out.bs HX4'.out.2).mono ?_
        rintro e w7 ⟨rfl, hb7⟩
        have HT7 := Lib.hid (HT6.out.keep hb7)
        clear hb7 HT6 d0 d1 d2 r1 r2
        go_wp2_with fail
        obtain ⟨Aq, cq, hqb⟩ := HT7.out.cells
        have HTD := Lib.hid (HT7.out.keep (Below.refl _ (w7)).drew)
        have d0 := cell_at hqb 0
        have d1 := cell_at hqb 1
        have d2 := cell_at hqb 2
        clear hqb
        refine wp_region_flow (fun W => W = (w7).drew) [0, 1, 2, 3, 4, 5, 6, 7, 8, 9, 10, 11, 12, 13, 14, 15, 16, 17, 18, 19, 20, 21, 22, 23, 24, 25, 26, 27, 28, 29] (by kernel_rfl) (by kernel_rfl) (by kernel_rfl) (rfl) ?_
        refine flow_val ?_ rfl (by kernel_rfl) (by rfl) (fun W hW => ?_) ?_
        rotate_left 1
        · go_simp <;> with_reducible rfl
        simp only [Act.put, List.setIfInBounds_toArray, List.set_cons_succ, List.set_cons_zero]
        refine flow_val ?_ rfl (by kernel_rfl) (by rfl) (fun W hW => ?_) ?_
        rotate_left 1
        · go_simp <;> with_reducible rfl
        simp only [Act.put, List.setIfInBounds_toArray, List.set_cons_succ, List.set_cons_zero]
        refine flow_val ?_ rfl (by kernel_rfl) (by rfl) (fun W hW => ?_) ?_
        rotate_left 1
        · go_simp <;> with_reducible rfl
        simp only [Act.put, List.setIfInBounds_toArray, List.set_cons_succ, List.set_cons_zero]
        refine flow_val ?_ rfl (by kernel_rfl) (by rfl) (fun W hW => ?_) ?_
        rotate_left 1
        · go_simp <;> with_reducible rfl
        simp only [Act.put, List.setIfInBounds_toArray, List.set_cons_succ, List.set_cons_zero]
        refine flow_quiet (.int .i64 s1.l.length) rfl (by kernel_rfl) (by rfl) (fun W hW => ⟨_, _, by go_simp, (hW.symm ▸ HTD.out : Two w p q s1 s1 W).open_⟩) ?_
        simp only [Act.put, List.setIfInBounds_toArray, List.set_cons_succ, List.set_cons_zero]
        refine flow_val ?_ rfl (by kernel_rfl) (by rfl) (fun W hW => ?_) ?_
        rotate_left 1
        · go_simp <;> with_reducible rfl
        simp only [Act.put, List.setIfInBounds_toArray, List.set_cons_succ, List.set_cons_zero]
        refine flow_val ?_ rfl (by kernel_rfl) (by rfl) (fun W hW => ?_) ?_
        rotate_left 1
        · go_simp <;> with_reducible rfl
        simp only [Act.put, List.setIfInBounds_toArray, List.set_cons_succ, List.set_cons_zero]
        refine flow_val ?_ rfl (by kernel_rfl) (by rfl) (fun W hW => ?_) ?_
        rotate_left 1
        · go_simp <;> with_reducible rfl
        simp only [Act.put, List.setIfInBounds_toArray, List.set_cons_succ, List.set_cons_zero]
        refine flow_val ?_ rfl (by kernel_rfl) (by rfl) (fun W hW => ?_) ?_
        rotate_left 1
        · subst hW; have c1 : ((w7).drew).cell? ⟨q, 0, none⟩ = some (.slice Aq s1.l.length cq) := d0; go_simp <;> with_reducible rfl
        simp only [Act.put, List.setIfInBounds_toArray, List.set_cons_succ, List.set_cons_zero]
        refine flow_val ?_ rfl (by kernel_rfl) (by rfl) (fun W hW => ?_) ?_
        rotate_left 1
        · go_simp <;> with_reducible rfl
        simp only [Act.put, List.setIfInBounds_toArray, List.set_cons_succ, List.set_cons_zero]
        refine flow_val ?_ rfl (by kernel_rfl) (by rfl) (fun W hW => ?_) ?_
        rotate_left 1
        · go_simp <;> with_reducible rfl
        simp only [Act.put, List.setIfInBounds_toArray, List.set_cons_succ, List.set_cons_zero]
        refine flow_val ?_ rfl (by kernel_rfl) (by rfl) (fun W hW => ?_) ?_
        rotate_left 1
        · go_simp <;> with_reducible rfl
        simp only [Act.put, List.setIfInBounds_toArray, List.set_cons_succ, List.set_cons_zero]
        refine flow_val ?_ rfl (by kernel_rfl) (by rfl) (fun W hW => ?_) ?_
        rotate_left 1
        · go_simp <;> with_reducible rfl
        simp only [Act.put, List.setIfInBounds_toArray, List.set_cons_succ, List.set_cons_zero]
        refine flow_val ?_ rfl (by kernel_rfl) (by rfl) (fun W hW => ?_) ?_
        rotate_left 1
        · go_simp <;> with_reducible rfl
        simp only [Act.put, List.setIfInBounds_toArray, List.set_cons_succ, List.set_cons_zero]
        refine flow_quiet (.int .i64 s1.mark) rfl (by kernel_rfl) (by rfl) (fun W hW => ⟨_, _, by go_simp, (hW.symm ▸ HTD.out : Two w p q s1 s1 W).mark⟩) ?_
        simp only [Act.put, List.setIfInBounds_toArray, List.set_cons_succ, List.set_cons_zero]
        refine flow_val ?_ rfl (by kernel_rfl) (by rfl) (fun W hW => ?_) ?_
        rotate_left 1
        · go_simp <;> with_reducible rfl
        simp only [Act.put, List.setIfInBounds_toArray, List.set_cons_succ, List.set_cons_zero]
        refine flow_val ?_ rfl (by kernel_rfl) (by rfl) (fun W hW => ?_) ?_
        rotate_left 1
        · go_simp <;> with_reducible rfl
        simp only [Act.put, List.setIfInBounds_toArray, List.set_cons_succ, List.set_cons_zero]
        refine flow_val ?_ rfl (by kernel_rfl) (by rfl) (fun W hW => ?_) ?_
        rotate_left 1
        · go_simp <;> with_reducible rfl
        simp only [Act.put, List.setIfInBounds_toArray, List.set_cons_succ, List.set_cons_zero]
        refine flow_val ?_ rfl (by kernel_rfl) (by rfl) (fun W hW => ?_) ?_
        rotate_left 1
        · subst hW; have c1 : ((w7).drew).cell? ⟨q, 2, none⟩ = some (.int .i64 s1.mark) := d2; go_simp <;> with_reducible rfl
        simp only [Act.put, List.setIfInBounds_toArray, List.set_cons_succ, List.set_cons_zero]
        refine flow_val ?_ rfl (by kernel_rfl) (by rfl) (fun W hW => ?_) ?_
        rotate_left 1
        · go_simp <;> with_reducible rfl
        simp only [Act.put, List.setIfInBounds_toArray, List.set_cons_succ, List.set_cons_zero]
        refine flow_val ?_ rfl (by kernel_rfl) (by rfl) (fun W hW => ?_) ?_
        rotate_left 1
        · go_simp <;> with_reducible rfl
        simp only [Act.put, List.setIfInBounds_toArray, List.set_cons_succ, List.set_cons_zero]
        refine flow_val ?_ rfl (by kernel_rfl) (by rfl) (fun W hW => ?_) ?_
        rotate_left 1
        · go_simp <;> with_reducible rfl
        simp only [Act.put, List.setIfInBounds_toArray, List.set_cons_succ, List.set_cons_zero]
        refine flow_val ?_ rfl (by kernel_rfl) (by rfl) (fun W hW => ?_) ?_
        rotate_left 1
        · go_simp <;> with_reducible rfl
        simp only [Act.put, List.setIfInBounds_toArray, List.set_cons_succ, List.set_cons_zero]
        refine flow_quiet (.int .i64 s1.sent) rfl (by kernel_rfl) (by rfl) (fun W hW => ⟨_, _, by go_simp, (hW.symm ▸ HTD.out : Two w p q s1 s1 W).sent⟩) ?_
        simp only [Act.put, List.setIfInBounds_toArray, List.set_cons_succ, List.set_cons_zero]
        refine flow_val ?_ rfl (by kernel_rfl) (by rfl) (fun W hW => ?_) ?_
        rotate_left 1
        · go_simp <;> with_reducible rfl
        simp only [Act.put, List.setIfInBounds_toArray, List.set_cons_succ, List.set_cons_zero]
        refine flow_val ?_ rfl (by kernel_rfl) (by rfl) (fun W hW => ?_) ?_
        rotate_left 1
        · go_simp <;> with_reducible rfl
        simp only [Act.put, List.setIfInBounds_toArray, List.set_cons_succ, List.set_cons_zero]
        refine flow_val ?_ rfl (by kernel_rfl) (by rfl) (fun W hW => ?_) ?_
        rotate_left 1
        · go_simp <;> with_reducible rfl
        simp only [Act.put, List.setIfInBounds_toArray, List.set_cons_succ, List.set_cons_zero]
        refine flow_val ?_ rfl (by kernel_rfl) (by rfl) (fun W hW => ?_) ?_
        rotate_left 1
        · subst hW; have c1 : ((w7).drew).cell? ⟨q, 1, none⟩ = some (.int .i64 s1.sent) := d1; go_simp <;> with_reducible rfl
        simp only [Act.put, List.setIfInBounds_toArray, List.set_cons_succ, List.set_cons_zero]
        refine flow_val ?_ rfl (by kernel_rfl) (by rfl) (fun W hW => ?_) ?_
        rotate_left 1
        · go_simp <;> with_reducible rfl
        simp only [Act.put, List.setIfInBounds_toArray, List.set_cons_succ, List.set_cons_zero]
        refine flow_val ?_ rfl (by kernel_rfl) (by rfl) (fun W hW => ?_) ?_
        rotate_left 1
        · go_simp <;> with_reducible rfl
        simp only [Act.put, List.setIfInBounds_toArray, List.set_cons_succ, List.set_cons_zero]
        refine flow_done ?_
        intro W hW
        subst hW
        clear d0 d1 d2
        go_wp2_with fail
        go_roundw
        case rel => exact ⟨k + 1, s1, hlt, by go_num, by have := HINV.out; simpa using this, HTD.out⟩
        case measure => simp [intOf]; omega
      have hq3 : (z.kind == 3) = false := by simp [h3]
      clear h1 h2 h3
      go_wp2_with fail
      obtain ⟨Aq, cq, hqb⟩ := HT0.out.cells
      have HTD := Lib.hid (HT0.out.keep (Below.refl _ (wr.alloc (.cells #[.int .i64 z.kind, .int .i64 z.now, .int .i64 z.seq, .int .i64 z.ack, .slice z.A z.bs.length z.c] 57))).drew)
      have d0 := cell_at hqb 0
      have d1 := cell_at hqb 1
      have d2 := cell_at hqb 2
      clear hqb
      refine wp_region_flow (fun W => W = (wr.alloc (.cells #[.int .i64 z.kind, .int .i64 z.now, .int .i64 z.seq, .int .i64 z.ack, .slice z.A z.bs.length z.c] 57)).drew) [0, 1, 2, 3, 4, 5, 6, 7, 8, 9, 10, 11, 12, 13, 14, 15, 16, 17, 18, 19, 20, 21, 22, 23, 24, 25, 26, 27, 28, 29] (by kernel_rfl) (by kernel_rfl) (by kernel_rfl) (rfl) ?_
      refine flow_val ?_ rfl (by kernel_rfl) (by rfl) (fun W hW => ?_) ?_
      rotate_left 1
      · go_simp <;> with_reducible rfl
      simp only [Act.put, List.setIfInBounds_toArray, List.set_cons_succ, List.set_cons_zero]
      refine flow_val ?_ rfl (by kernel_rfl) (by rfl) (fun W hW => ?_) ?_
      rotate_left 1
      · go_simp <;> with_reducible rfl
      simp only [Act.put, List.setIfInBounds_toArray, List.set_cons_succ, List.set_cons_zero]
      refine flow_val ?_ rfl (by kernel_rfl) (by rfl) (fun W hW => ?_) ?_
      rotate_left 1
      · go_simp <;> with_reducible rfl
      simp only [Act.put, List.setIfInBounds_toArray, List.set_cons_succ, List.set_cons_zero]
      refine flow_val ?_ rfl (by kernel_rfl) (by rfl) (fun W hW => ?_) ?_
      rotate_left 1
      · go_simp <;> with_reducible rfl
      simp only [Act.put, List.setIfInBounds_toArray, List.set_cons_succ, List.set_cons_zero]
      refine flow_quiet (.int .i64 s.l.length) rfl (by kernel_rfl) (by rfl) (fun W hW => ⟨_, _, by go_simp, (hW.symm ▸ HTD.out : Two w p q s s W).open_⟩) ?_
      simp only [Act.put, List.setIfInBounds_toArray, List.set_cons_succ, List.set_cons_zero]
      refine flow_val ?_ rfl (by kernel_rfl) (by rfl) (fun W hW => ?_) ?_
      rotate_left 1
      · go_simp <;> with_reducible rfl
      simp only [Act.put, List.setIfInBounds_toArray, List.set_cons_succ, List.set_cons_zero]
      refine flow_val ?_ rfl (by kernel_rfl) (by rfl) (fun W hW => ?_) ?_
      rotate_left 1
      · go_simp <;> with_reducible rfl
      simp only [Act.put, List.setIfInBounds_toArray, List.set_cons_succ, List.set_cons_zero]
      refine flow_val ?_ rfl (by kernel_rfl) (by rfl) (fun W hW => ?_) ?_
      rotate_left 1
      · go_simp <;> with_reducible rfl
      simp only [Act.put, List.setIfInBounds_toArray, List.set_cons_succ, List.set_cons_zero]
      refine flow_val ?_ rfl (by kernel_rfl) (by rfl) (fun W hW => ?_) ?_
      rotate_left 1
      · subst hW; have c1 : ((wr.alloc (.cells #[.int .i64 z.kind, .int .i64 z.now, .int .i64 z.seq, .int .i64 z.ack, .slice z.A z.bs.length z.c] 57)).drew).cell? ⟨q, 0, none⟩ = some (.slice Aq s.l.length cq) := d0; go_simp <;> with_reducible rfl
      simp only [Act.put, List.setIfInBounds_toArray, List.set_cons_succ, List.set_cons_zero]
      refine flow_val ?_ rfl (by kernel_rfl) (by rfl) (fun W hW => ?_) ?_
      rotate_left 1
      · go_simp <;> with_reducible rfl
      simp only [Act.put, List.setIfInBounds_toArray, List.set_cons_succ, List.set_cons_zero]
      refine flow_val ?_ rfl (by kernel_rfl) (by rfl) (fun W hW => ?_) ?_
      rotate_left 1
      · go_simp <;> with_reducible rfl
      simp only [Act.put, List.setIfInBounds_toArray, List.set_cons_succ, List.set_cons_zero]
      refine flow_val ?_ rfl (by kernel_rfl) (by rfl) (fun W hW => ?_) ?_
      rotate_left 1
      · go_simp <;> with_reducible rfl
      simp only [Act.put, List.setIfInBounds_toArray, List.set_cons_succ, List.set_cons_zero]
      refine flow_val ?_ rfl (by kernel_rfl) (by rfl) (fun W hW => ?_) ?_
      rotate_left 1
      · go_simp <;> with_reducible rfl
      simp only [Act.put, List.setIfInBounds_toArray, List.set_cons_succ, List.set_cons_zero]
      refine flow_val ?_ rfl (by kernel_rfl) (by rfl) (fun W hW => ?_) ?_
      rotate_left 1
      · go_simp <;> with_reducible rfl
      simp only [Act.put, List.setIfInBounds_toArray, List.set_cons_succ, List.set_cons_zero]
      refine flow_quiet (.int .i64 s.mark) rfl (by kernel_rfl) (by rfl) (fun W hW => ⟨_, _, by go_simp, (hW.symm ▸ HTD.out : Two w p q s s W).mark⟩) ?_
      simp only [Act.put, List.setIfInBounds_toArray, List.set_cons_succ, List.set_cons_zero]
      refine flow_val ?_ rfl (by kernel_rfl) (by rfl) (fun W hW => ?_) ?_
      rotate_left 1
      · go_simp <;> with_reducible rfl
      simp only [Act.put, List.setIfInBounds_toArray, List.set_cons_succ, List.set_cons_zero]
      refine flow_val ?_ rfl (by kernel_rfl) (by rfl) (fun W hW => ?_) ?_
      rotate_left 1
      · go_simp <;> with_reducible rfl
      simp only [Act.put, List.setIfInBounds_toArray, List.set_cons_succ, List.set_cons_zero]
      refine flow_val ?_ rfl (by kernel_rfl) (by rfl) (fun W hW => ?_) ?_
      rotate_left 1
      · go_simp <;> with_reducible rfl
      simp only [Act.put, List.setIfInBounds_toArray, List.set_cons_succ, List.set_cons_zero]
      refine flow_val ?_ rfl (by kernel_rfl) (by rfl) (fun W hW => ?_) ?_
      rotate_left 1
      · subst hW; have c1 : ((wr.alloc (.cells #[.int .i64 z.kind, .int .i64 z.now, .int .i64 z.seq, .int .i64 z.ack, .slice z.A z.bs.length z.c] 57)).drew).cell? ⟨q, 2, none⟩ = some (.int .i64 s.mark) := d2; go_simp <;> with_reducible rfl
      simp only [Act.put, List.setIfInBounds_toArray, List.set_cons_succ, List.set_cons_zero]
      refine flow_val ?_ rfl (by kernel_rfl) (by rfl) (fun W hW => ?_) ?_
      rotate_left 1
      · go_simp <;> with_reducible rfl
      simp only [Act.put, List.setIfInBounds_toArray, List.set_cons_succ, List.set_cons_zero]
      refine flow_val ?_ rfl (by kernel_rfl) (by rfl) (fun W hW => ?_) ?_
      rotate_left 1
      · go_simp <;> with_reducible rfl
      simp only [Act.put, List.setIfInBounds_toArray, List.set_cons_succ, List.set_cons_zero]
      refine flow_val ?_ rfl (by kernel_rfl) (by rfl) (fun W hW => ?_) ?_
      rotate_left 1
      · go_simp <;> with_reducible rfl
      simp only [Act.put, List.setIfInBounds_toArray, List.set_cons_succ, List.set_cons_zero]
      refine flow_val ?_ rfl (by kernel_rfl) (by rfl) (fun W hW => ?_) ?_
      rotate_left 1
      · go_simp <;> with_reducible rfl
      simp only [Act.put, List.setIfInBounds_toArray, List.set_cons_succ, List.set_cons_zero]
      refine flow_quiet (.int .i64 s.sent) rfl (by kernel_rfl) (by rfl) (fun W hW => ⟨_, _, by go_simp, (hW.symm ▸ HTD.out : Two w p q s s W).sent⟩) ?_
      simp only [Act.put, List.setIfInBounds_toArray, List.set_cons_succ, List.set_cons_zero]
      refine flow_val ?_ rfl (by kernel_rfl) (by rfl) (fun W hW => ?_) ?_
      rotate_left 1
      · go_simp <;> with_reducible rfl
      simp only [Act.put, List.setIfInBounds_toArray, List.set_cons_succ, List.set_cons_zero]
      refine flow_val ?_ rfl (by kernel_rfl) (by rfl) (fun W hW => ?_) ?_
      rotate_left 1
      · go_simp <;> with_reducible rfl
      simp only [Act.put, List.setIfInBounds_toArray, List.set_cons_succ, List.set_cons_zero]
      refine flow_val ?_ rfl (by kernel_rfl) (by rfl) (fun W hW => ?_) ?_
      rotate_left 1
      · go_simp <;> with_reducible rfl
      simp only [Act.put, List.setIfInBounds_toArray, List.set_cons_succ, List.set_cons_zero]
      refine flow_val ?_ rfl (by kernel_rfl) (by rfl) (fun W hW => ?_) ?_
      rotate_left 1
      · subst hW; have c1 : ((wr.alloc (.cells #[.int .i64 z.kind, .int .i64 z.now, .int .i64 z.seq, .int .i64 z.ack, .slice z.A z.bs.length z.c] 57)).drew).cell? ⟨q, 1, none⟩ = some (.int .i64 s.sent) := d1; go_simp <;> with_reducible rfl
      simp only [Act.put, List.setIfInBounds_toArray, List.set_cons_succ, List.set_cons_zero]
      refine flow_val ?_ rfl (by kernel_rfl) (by rfl) (fun W hW => ?_) ?_
      rotate_left 1
      · go_simp <;> with_reducible rfl
      simp only [Act.put, List.setIfInBounds_toArray, List.set_cons_succ, List.set_cons_zero]
      refine flow_val ?_ rfl (by kernel_rfl) (by rfl) (fun W hW => ?_) ?_
      rotate_left 1
      · go_simp <;> with_reducible rfl
      simp only [Act.put, List.setIfInBounds_toArray, List.set_cons_succ, List.set_cons_zero]
      refine flow_done ?_
      intro W hW
      subst hW
      clear d0 d1 d2
      go_wp2_with fail
      go_roundw
      case rel => exact ⟨k + 1, s, hlt, by go_num, by have := HI.out.next; simpa using this, HTD.out⟩
      case measure => simp [intOf]; omega
    · obtain rfl : k = zs.length := by omega
      have hbl := HT.out.below
      go_wp2
      go_ret
      exact ⟨rfl, hbl⟩
end Go.Proofs.Ytnmbblkfaoihfaa
