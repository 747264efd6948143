/- Joined: Package link: Tick, the plain part; lists of packets in memory. Package link: Tick. slices.DeleteFunc of items that are known to have come. -/
import Derived.Test.YtnmbblkfaoihfaaZLY7
namespace Go.Proofs.Ytnmbblkfaoihfaa
open Go.RowKit

theorem Fr.thenB {B : Nat} {T : List TypeId} {S : List Nat} {a b c : World} (h : Fr B T S a b) (hb : Below a.heap.size b c) : Fr B T S a c :=
  ⟨hb.os.trans h.os, hb.tape.trans h.tape, hb.output.trans h.output, Nat.le_trans h.size hb.size, fun k hk hc => (hb.block k hk).trans (h.block k hk hc)⟩
/-- Items, the first k of which were ticked. -/
def tickL (now : Int) (l : List LIt) (k : Nat) : List LIt := (l.take k).map (tickI now) ++ l.drop k
/-- What the first k of them sent. -/
def tickQ (now mark : Int) (l : List LIt) (k : Nat) : List LPk := ((l.take k).filter fun x => decide (x.due ≤ now)).map fun x => ⟨x.seq, mark, x.body⟩
theorem tickL_len (now : Int) (l : List LIt) (k : Nat) : (tickL now l k).length = l.length := by simp [tickL]; omega
theorem tickL_zero (now : Int) (l : List LIt) : tickL now l 0 = l := by simp [tickL]
theorem tickL_all (now : Int) (l : List LIt) : tickL now l l.length = l.map (tickI now) := by simp [tickL]
theorem tickL_at (now : Int) (l : List LIt) (k : Nat) (h : k < l.length) : (tickL now l k)[k]'(by rw [tickL_len]; exact h) = l[k] := by
  have : ((l.take k).map (tickI now)).length = k := by simp; omega
  simp only [tickL]
  rw [List.getElem_append_right (by omega)]
  simp only [this, Nat.sub_self, List.getElem_drop, Nat.add_zero]
theorem tickL_succ (now : Int) (l : List LIt) (k : Nat) (h : k < l.length) : tickL now l (k + 1) = (tickL now l k).set k (tickI now l[k]) := by
  have e : ((l.take k).map (tickI now)).length = k := by simp; omega
  simp only [tickL]
  rw [List.set_append_right _ _ (by omega), e, Nat.sub_self, List.drop_eq_getElem_cons h, List.set_cons_zero, List.take_succ_eq_append_getElem h, List.map_append, List.append_assoc]
  rfl
theorem tickQ_succ (now mark : Int) (l : List LIt) (k : Nat) (h : k < l.length) : tickQ now mark l (k + 1) = if l[k].due ≤ now then tickQ now mark l k ++ [⟨l[k].seq, mark, l[k].body⟩] else tickQ now mark l k := by
  simp only [tickQ]
  rw [List.take_succ_eq_append_getElem h, List.filter_append, List.map_append]
  split
  · rename_i hd; simp [hd]
  · rename_i hd; simp [hd]
theorem tickQ_len (now mark : Int) (l : List LIt) (k : Nat) : (tickQ now mark l k).length ≤ l.length := by
  simp only [tickQ, List.length_map]
  have := List.length_filter_le (fun x : LIt => decide (x.due ≤ now)) (l.take k)
  simp at this ⊢
  omega
theorem flatL_set (zs : List LIm) (k : Nat) (h : k < zs.length) (a b : Int) : ((zs.flatMap encL).set (k * 4 + 3) (.int .i64 a)).set (k * 4 + 2) (.int .i64 b) = (zs.set k ⟨⟨zs[k].it.seq, zs[k].it.body, b, a⟩, zs[k].bv⟩).flatMap encL := by
  induction zs generalizing k with
  | nil => simp at h
  | cons z zs ih =>
    cases k with
    | zero => simp [encL]
    | succ k =>
      have e3 : (k + 1) * 4 + 3 = 4 + (k * 4 + 3) := by omega
      have e2 : (k + 1) * 4 + 2 = 4 + (k * 4 + 2) := by omega
      rw [List.flatMap_cons, List.set_append_right _ _ (by rw [encL_len]; omega), encL_len, List.set_append_right _ _ (by rw [encL_len]; omega), encL_len, e3, e2, Nat.add_sub_cancel_left, Nat.add_sub_cancel_left, ih k (by simpa using h)]
      simp

/-- Packets in memory. -/
def encP (z : LPk × Value) : List Value := [.int .i64 z.1.seq, .int .i64 z.1.ack, z.2]
theorem encP_len (z : LPk × Value) : (encP z).length = 3 := rfl
theorem flatP_at (zs : List (LPk × Value)) (k j : Nat) (hk : k < zs.length) (hj : j < 3) : (zs.flatMap encP)[k * 3 + j]? = (encP zs[k])[j]? := by
  induction zs generalizing k with
  | nil => simp at hk
  | cons z zs ih =>
    cases k with
    | zero => rw [List.flatMap_cons, List.getElem?_append_left (by rw [encP_len]; omega)]; simp
    | succ k => rw [List.flatMap_cons, List.getElem?_append_right (by rw [encP_len]; omega), encP_len, show (k + 1) * 3 + j - 3 = k * 3 + j by omega, ih k (by simpa using hk)]; simp
def IsPs (B : Nat) (W : World) (v : Value) (l : List LPk) : Prop := ∃ zs : List (LPk × Value), zs.map (·.1) = l ∧ W.ownsRow B 43 3 v l.length (zs.flatMap encP) ∧ ∀ z ∈ zs, ByO W z.2 z.1.body
theorem IsPs.below {B : Nat} {W W' : World} {v : Value} {l : List LPk} (h : IsPs B W v l) (b : Below W.heap.size W W') : IsPs B W' v l := by
  obtain ⟨zs, h1, h2, h3⟩ := h
  exact ⟨zs, h1, (Fr.of_below (B := 0) (T := []) (S := []) b).own h2 (by simp) (by simp), fun z hz => (h3 z hz).below b⟩
theorem Try.infoPkt : (Try.prog.info? 43).map (fun i => (i.zero, i.size, i.bytes)) = some (some (.agg #[.int .i64 0, .int .i64 0, .slice none 0 0]), 3, 40) := by kernel_rfl
end Go.Proofs.Ytnmbblkfaoihfaa

namespace Go.Proofs.Ytnmbblkfaoihfaa
open Go.RowKit

/-- What holds between two rounds of Tick. -/
def TickI (w : World) (p : Nat) (G : Option Nat) (s : LSt) (now : Int) (k : Nat) (ov : Value) (W : World) : Prop :=
  IsE W 84 80 p G ⟨tickL now s.l k, s.sent, s.mark⟩ ∧ IsPs w.heap.size W ov (tickQ now s.mark s.l k) ∧ Fr 0 [] (p :: G.toList) w W
theorem ltick_nil (now : Int) (w : World) : Calls Try.prog 21 #[.pointer none, .int .i64 now] w fun e w' => e = .returned (.slice none 0 0) ∧ w = w' := by
  go_enter Try.func21, Try.ntmps21
  go_wp2
  go_ret
  exact ⟨rfl, rfl⟩

/-- What the two stores of a round leave. -/
theorem tick_store {w W : World} {p g : Nat} {c : Nat} {s : LSt} {now : Int} {k : Nat} {zs : List LIm} {ov : Value} (hk : k < s.l.length) (hzs : zs.map (·.it) = tickL now s.l k)
    (hp : W.heap[p]? = some (.cells #[.slice (some ⟨g, 0, none⟩) s.l.length c, .int .i64 s.sent, .int .i64 s.mark] 80 (0, 0)))
    (ho : W.ownsRow 0 84 4 (.slice (some ⟨g, 0, none⟩) s.l.length c) s.l.length (zs.flatMap encL)) (hb : ∀ z ∈ zs, ByO W z.bv z.it.body) (hd : s.l[k].due ≤ now)
    (hq : IsPs w.heap.size W ov (tickQ now s.mark s.l (k + 1))) (hf : Fr 0 [] (p :: (some g : Option Nat).toList) w W) :
    TickI w p (some g) s now (k + 1) ov ((W.setCell ⟨g, k * 4 + 3, none⟩ (.int .i64 (nextL now s.l[k].tries))).setCell ⟨g, k * 4 + 2, none⟩ (.int .i64 (s.l[k].tries + 1))) := by
  have hzl : zs.length = s.l.length := by
    have := congrArg List.length hzs
    simpa [tickL_len] using this
  have hzk : zs[k].it = s.l[k] := by
    have h1 : (zs.map (·.it))[k]'(by simp; omega) = (tickL now s.l k)[k]'(by rw [tickL_len]; exact hk) := by simp only [hzs]
    rw [tickL_at now s.l k hk] at h1
    simpa using h1
  obtain ⟨_, cs, hg⟩ := own_block ho (by simp [Value.ownBlock] : (Value.slice (some ⟨g, 0, none⟩) s.l.length c).ownBlock = some g)
  have hpg : p ≠ g := block_ne hp hg (by decide)
  have f1 : Fr 0 [] [g] W ((W.setCell ⟨g, k * 4 + 3, none⟩ (.int .i64 (nextL now s.l[k].tries))).setCell ⟨g, k * 4 + 2, none⟩ (.int .i64 (s.l[k].tries + 1))) :=
    ((Fr.refl W).setCell (p := ⟨g, k * 4 + 3, none⟩) _ (Nat.zero_le _) (.inl (by simp))).setCell (p := ⟨g, k * 4 + 2, none⟩) _ (Nat.zero_le _) (.inl (by simp))
  have byo : ∀ {b : Value} {l : List Nat}, ByO W b l → ByO ((W.setCell ⟨g, k * 4 + 3, none⟩ (.int .i64 (nextL now s.l[k].tries))).setCell ⟨g, k * 4 + 2, none⟩ (.int .i64 (s.l[k].tries + 1))) b l := fun h => h.far f1 hg (by decide)
  have hrow := own_set (own_set ho (i := k * 4 + 3) (by omega) (.int .i64 (nextL now s.l[k].tries))) (i := k * 4 + 2) (by omega) (.int .i64 (s.l[k].tries + 1))
  rw [flatL_set zs k (by omega)] at hrow
  refine ⟨⟨_, (f1.block p (lt_of_block hp) (.inr ⟨fun _ _ _ _ => by simp, by simpa using hpg⟩)).trans hp, zs.set k ⟨⟨zs[k].it.seq, zs[k].it.body, s.l[k].tries + 1, nextL now s.l[k].tries⟩, zs[k].bv⟩, ?_, by simpa [tickL_len] using hrow, by simp [Value.ownBlock], fun z hz => ?_⟩, ?_, ?_⟩
  · rw [List.map_set, hzs, tickL_succ now s.l k hk]
    simp only [hzk, tickI, hd, if_true]
  · rcases List.mem_or_eq_of_mem_set hz with hz | rfl
    · exact byo (hb z hz)
    · exact byo (hb zs[k] (List.getElem_mem (by omega)))
  · obtain ⟨qs, h1, h2, h3⟩ := hq
    refine ⟨qs, h1, f1.own h2 (by simp) (fun k hk hm => ?_), fun z hz => byo (h3 z hz)⟩
    obtain ⟨_, cs2, hc⟩ := own_block h2 hk
    simp at hm
    subst hm
    rw [hg] at hc
    injection hc with e
    injection e with _ e _
    exact absurd e (by decide)
  · exact hf.trans (f1.mono (Nat.le_refl _) (fun _ h => h) (fun k hk => by simp at hk; simp [hk]))

set_option maxRecDepth 100000 in
set_option maxHeartbeats 4000000 in
theorem ltick_any (p : Nat) (G : Option Nat) (s : LSt) (now : Int) (w : World) (h : IsE w 84 80 p G s) (hn : s.l.length ≤ 1048576) (hI : ∀ x ∈ s.l, 0 ≤ x.tries ∧ x.tries < 9223372036854775807 ∧ x.body.length ≤ 140737488351232)
    (hnow : -9223372036854775808 ≤ now ∧ now ≤ 9223372036854775807) :
    Calls Try.prog 21 #[.pointer (some ⟨p, 0, none⟩), .int .i64 now] w
      (RetE 84 80 p G (fun e w' => ∃ v, e = .returned v ∧ IsPs w.heap.size w' v (tickP s now)) (tickS s now) w) := by
  obtain ⟨i0, hi0, hz0, hz1, hz2⟩ := info_parts Try.infoPkt
  have HI := Lib.hid hI
  have H := Lib.hid h
  have c0 : ∃ A c, w.cell? ⟨p, 0, none⟩ = some (.slice A s.l.length c) := by
    obtain ⟨v, h1, zs, _, h2, _⟩ := h
    obtain ⟨A, c, rfl, _, _, _, _⟩ := own_slice h2
    exact ⟨A, c, cell_at h1 0⟩
  obtain ⟨A, c, c0⟩ := c0
  clear h hI
  go_enter Try.func21, Try.ntmps21
  go_wp2_with fail
  go_loopw [5, 6, 7, 15] (fun ov _ _ kv wr => ∃ k : Nat, k ≤ s.l.length ∧ kv = .int .i64 k ∧ TickI w p G s now k ov wr) (fun _ _ _ kv _ => s.l.length - (intOf kv).toNat)
  case atStart => exact ⟨0, Nat.zero_le _, rfl, by rw [tickL_zero]; exact H.out, ⟨[], rfl, World.ownsRow_nil _ _ _ _, by simp⟩, Fr.refl _⟩
  case round =>
    obtain ⟨k, hk, rfl, ht⟩ := hrel
    by_cases hlt : k < s.l.length
    · obtain ⟨hE, hQ, hF⟩ := ht
      have HE := Lib.hid hE
      obtain ⟨v, h1, zs, hzs, h2, hG, h3⟩ := hE
      obtain ⟨Av, cv, rfl, hlc, hcm, hrd, hA⟩ := own_slice h2
      rw [tickL_len] at h2 hlc
      simp only [tickL_len] at h1 hA
      obtain ⟨g, _, hg1, hg2, hcell⟩ := hrd.2 (by rw [tickL_len]; omega)
      subst hg1
      obtain ⟨hGg, ho0, _⟩ := hA _ rfl
      simp only at ho0 hGg
      subst ho0
      obtain rfl : G = some g := by rw [← hG]; simp [Value.ownBlock]
      have hzl : zs.length = s.l.length := by
        have := congrArg List.length hzs
        simpa [tickL_len] using this
      have hzk : zs[k].it = s.l[k] := by
        have h1 : (zs.map (·.it))[k]'(by simp; omega) = (tickL now s.l k)[k]'(by rw [tickL_len]; exact hlt) := by simp only [hzs]
        rw [tickL_at now s.l k hlt] at h1
        simpa using h1
      have hat := fun j (hj : j < 4) => flatL_at zs k j (by omega) hj
      have k0 : wr.cell? ⟨g, k * 4, none⟩ = some (.int .i64 s.l[k].seq) := by
        have := hcell (k * 4 + 0) _ ((hat 0 (by omega)).trans (by simp only [encL, hzk]; rfl))
        simpa using this
      have k2 : wr.cell? ⟨g, k * 4 + 2, none⟩ = some (.int .i64 s.l[k].tries) := by
        have := hcell (k * 4 + 2) _ ((hat 2 (by omega)).trans (by simp only [encL, hzk]; rfl))
        simpa using this
      have k3 : wr.cell? ⟨g, k * 4 + 3, none⟩ = some (.int .i64 s.l[k].due) := by
        have := hcell (k * 4 + 3) _ ((hat 3 (by omega)).trans (by simp only [encL, hzk]; rfl))
        simpa using this
      have hbk : ByO wr zs[k].bv s.l[k].body := by
        have := h3 zs[k] (List.getElem_mem _)
        rwa [hzk] at this
      obtain ⟨Ab, cb, hbv, _, _, _, _⟩ := byo_slice hbk
      have k1 : wr.cell? ⟨g, k * 4 + 1, none⟩ = some (.slice Ab s.l[k].body.length cb) := by
        have := hcell (k * 4 + 1) _ ((hat 1 (by omega)).trans (by simp only [encL, hbv]; rfl))
        simpa using this
      rw [hbv] at hbk
      have e0 := cell_at h1 0
      have hik := HI.out s.l[k] (List.getElem_mem _)
      have HZS := Lib.hid hzs
      have H1 := Lib.hid h1
      have H2 := Lib.hid h2
      have H3 := Lib.hid h3
      have HQ := Lib.hid hQ
      have HF := Lib.hid hF
      obtain ⟨qs, hq1, hq2, hq3⟩ := hQ
      have hql := tickQ_len now s.mark s.l k
      obtain ⟨nq, hnq⟩ : ∃ nq, (tickQ now s.mark s.l k).length = nq := ⟨_, rfl⟩
      rw [hnq] at hq2 hql
      have hqs := tickQ_succ now s.mark s.l k hlt
      have hts := tickL_succ now s.l k hlt
      obtain ⟨x, hx⟩ : ∃ x, s.l[k] = x := ⟨_, rfl⟩
      rw [hx] at k0 k1 k2 k3 hik hqs hts hbk
      have HX := Lib.hid hx
      have HBK := Lib.hid hbk
      have HQS := Lib.hid hqs
      have HTS := Lib.hid hts
      have HQ1 := Lib.hid hq1
      have HQ2 := Lib.hid hq2
      have HQ3 := Lib.hid hq3
      have HNQ := Lib.hid hnq
      clear hzs h1 h2 h3 hbk hcell hat hrd hF hG hGg hA hbv hzk hq1 hq2 hq3 hqs hts hnq c0
      by_cases hd : x.due ≤ now
      · go_wp2_with fail
        refine (packet_any p (some g) _ x.seq x.tries x.due (.slice Ab x.body.length cb) x.body wr HE.out HBK.out hik.2.2).mono ?_
        rintro e w3 ⟨v3, rfl, ⟨bv3, rfl, hb3⟩, hb⟩
        obtain ⟨A3, c3, rfl, _, _, _, _⟩ := byo_slice hb3
        obtain ⟨_, cs, hgb⟩ := own_block H2.out (by simp [Value.ownBlock] : (Value.slice (some ⟨g, 0, none⟩) s.l.length cv).ownBlock = some g)
        have hal : Below wr.heap.size wr (w3.alloc (.cells #[.int .i64 x.seq, .int .i64 s.mark, .slice A3 x.body.length c3] 43)) := hb.alloc hb.size _
        have HO3 := Lib.hid ((Fr.of_below (B := 0) (T := []) (S := []) hal).own HQ2.out (by simp) (by simp))
        have HAL := Lib.hid hal
        have HB3 := Lib.hid hb3
        have HGB := Lib.hid hgb
        have hws : w.heap.size ≤ w3.heap.size := Nat.le_trans HF.out.size hb.size
        have ht1 : x.tries + 1 ≤ 9223372036854775807 := by omega
        have ht0 : 0 ≤ x.tries ∧ x.tries ≤ 9223372036854775807 := by omega
        have q2 := k2
        have q3 := k3
        have HD := Lib.hid hd
        clear hb3 hb hgb hal k0 k1 e0 hd
        go_wp2_with (first
          | (at_builtin
             refine wpList_append_rd_at _ rfl (.tmp 30) (.tmp 36) 34 rfl w.heap.size 43 i0 (.agg #[.int .i64 0, .int .i64 0, .slice none 0 0]) 3 40 Try.underlying34 hi0 hz0 hz1 hz2 rfl (by decide) u5 _ _ rfl HO3.out (some ⟨w3.heap.size, 0, none⟩) 1 1 [.int .i64 x.seq, .int .i64 s.mark, .slice A3 x.body.length c3] rfl ⟨rfl, fun _ => ⟨_, _, rfl, by simp, fun j u hu => by
               have hj : j = 0 ∨ j = 1 ∨ j = 2 := by
                 have := (List.getElem?_eq_some_iff.1 hu).1
                 simp at this; omega
               rcases hj with rfl | rfl | rfl <;> (simp at hu; subst hu; rw [cell_at (block_new _ _)]; rfl)⟩⟩ (by simp [Value.oneCell']) (by unfold maxLen; omega) (by omega) (by simp; omega) ?_
             intro v5 w5 hown5 hgrow5 _
             have f5 := (Fr.of_below (B := w.heap.size) (T := [43]) (S := []) HAL.out).grown hgrow5 (fun j hj => by
               obtain ⟨hbs, cs, hc⟩ := own_block HO3.out hj
               exact ⟨hbs, .inr ⟨cs, _, _, hc, by simp⟩⟩)
             have hg5 := f5.keep HGB.out (by decide) (by simp)
             have k2 : w5.cell? ⟨g, k * 4 + 2, none⟩ = some (.int .i64 x.tries) := by rw [cell_at hg5, ← cell_at HGB.out]; exact q2
             have k3 : w5.cell? ⟨g, k * 4 + 3, none⟩ = some (.int .i64 x.due) := by rw [cell_at hg5, ← cell_at HGB.out]; exact q3
             have z2 := frozen_at hg5 (k * 4 + 2)
             have z3 := frozen_at hg5 (k * 4 + 3)
             have HB5 : Hid (ByO w5 (.slice A3 x.body.length c3) x.body) := Lib.hid ((HB3.out.below ((Below.refl _ w3).alloc (Nat.le_refl _) (.cells #[.int .i64 x.seq, .int .i64 s.mark, .slice A3 x.body.length c3] 43))).frame (T := [43]) (S := []) ((Fr.refl _).grown hgrow5 (fun j hj => by
               obtain ⟨_, cs, hc⟩ := own_block HO3.out hj
               exact ⟨Nat.zero_le _, .inr ⟨cs, _, _, hc, by simp⟩⟩)) (by decide) (by simp))
             have F5 := Lib.hid f5
             have HO5 := Lib.hid hown5
             clear f5 hown5 hgrow5 hg5)
          | (go_at_call 42
             refine (next_any now x.tries _ hnow ht0).mono ?_
             rintro e w6 ⟨rfl, rfl⟩))
        go_roundw
        case rel =>
          have hx := HX.out
          refine ⟨k + 1, hlt, by go_num, ?_⟩
          have f50 := F5.out.base (Nat.zero_le _)
          have hst := tick_store (w := w) (W := w5) (p := p) (g := g) (c := cv) (s := s) (now := now) (k := k) (zs := zs) (ov := v5) hlt HZS.out (F5.out.keep H1.out (by decide) (by simp)) (F5.out.own H2.out (by decide) (by simp))
            (fun z hz => (H3.out z hz).frame f50 (by decide) (by simp)) (by rw [hx]; exact HD.out) (by
              rw [HQS.out, if_pos HD.out]
              refine ⟨qs ++ [(⟨x.seq, s.mark, x.body⟩, .slice A3 x.body.length c3)], by simp [HQ1.out], by simpa [encP, HNQ.out] using HO5.out, fun z hz => ?_⟩
              rcases List.mem_append.1 hz with hz | hz
              · exact (HQ3.out z hz).frame f50 (by decide) (by simp)
              · rw [List.mem_singleton.1 hz]; exact HB5.out) (HF.out.thenB (F5.out.below HF.out.size))
          rw [hx] at hst
          exact hst
        case measure => simp [intOf]; omega
      · have HD := Lib.hid hd
        go_wp2_with fail
        go_roundw
        case rel => exact ⟨k + 1, hlt, by go_num, by
          have e : tickI now x = x := by unfold tickI; rw [if_neg HD.out]
          have e2 : (tickL now s.l k).set k x = tickL now s.l k := by rw [← HX.out, ← tickL_at now s.l k hlt]; exact List.set_getElem_self _
          rw [HTS.out, e, e2]; exact HE.out, by rw [HQS.out, if_neg HD.out]; exact HQ.out, HF.out⟩
        case measure => simp [intOf]; omega
    · obtain rfl : k = s.l.length := by omega
      obtain ⟨hE, hQ, hF⟩ := ht
      rw [tickL_all] at hE
      have HE := Lib.hid hE
      have HQ := Lib.hid hQ
      have HF := Lib.hid hF
      clear hE hQ hF c0
      go_wp2
      go_ret
      refine ⟨G, ⟨_, rfl, by simpa [tickQ, tickP] using HQ.out⟩, HE.out, HF.out, .inl rfl⟩
end Go.Proofs.Ytnmbblkfaoihfaa

namespace Go.Proofs.Ytnmbblkfaoihfaa
open Go.RowKit

/-- The closure of On: is the item known to have come? -/
theorem on1_any (seq tries due ack : Int) (A : Option Addr) (n c : Nat) (b : Nat) (w : World) (hb : w.cell? ⟨b, 1, none⟩ = some (.int .i64 ack)) :
    Calls Try.prog 45 #[.agg #[.int .i64 seq, .slice A n c, .int .i64 tries, .int .i64 due], .pointer (some ⟨b, 0, none⟩)] w fun e w' => e = .returned (.bool (decide (seq ≤ ack))) ∧ Below w.heap.size w w' := by
  have hlt := World.block_lt_of_cell? w _ hb
  simp only at hlt
  go_enter Try.func45, Try.ntmps45
  go_wp2
  go_ret
  exact ⟨rfl, (Below.refl _ _).alloc (Nat.le_refl _) _⟩

/-- What is kept. -/
def keepL (ack : Int) (z : LIm) : Bool := !decide (z.it.seq ≤ ack)
theorem bv_form {w : World} {z : LIm} (h : ByO w z.bv z.it.body) : ∃ A n c, z.bv = .slice A n c := by
  obtain ⟨A, c, e, _⟩ := byo_slice h
  exact ⟨A, _, c, e⟩

set_option maxRecDepth 100000 in
set_option maxHeartbeats 2000000 in
/-- slices.IndexFunc with it: none, or the first. -/
theorem lidx_any (ack : Int) (b : Nat) (zs : List LIm) (A : Option Addr) (c : Nat) (w : World) (hm : zs.length ≤ maxLen) (hr : Rd w 4 A zs.length (zs.flatMap encL)) (hf : ∀ z ∈ zs, ByO w z.bv z.it.body) (hbx : w.cell? ⟨b, 1, none⟩ = some (.int .i64 ack)) :
    Calls Try.prog 60 #[.slice A zs.length c, .func (.func 45) #[] #[.pointer (some ⟨b, 0, none⟩)]] w fun e w' => Below w.heap.size w w' ∧
      ((e = .returned (.int .i64 (-1)) ∧ ∀ z ∈ zs, keepL ack z = true) ∨ ∃ i : Nat, e = .returned (.int .i64 i) ∧ ∃ hi : i < zs.length, keepL ack zs[i] = false ∧ ∀ j (hj : j < zs.length), j < i → keepL ack zs[j] = true) := by
  unfold maxLen at hm
  have HF := Lib.hid hf
  clear hf
  go_enter Try.func60, Try.ntmps60
  go_wp2
  go_loopw [8] (fun i wr => ∃ k : Nat, k ≤ zs.length ∧ i = .int .i64 k ∧ Below w.heap.size w wr ∧ ∀ j (hj : j < zs.length), j < k → keepL ack zs[j] = true) (fun i _ => zs.length - (intOf i).toNat)
  case atStart => exact ⟨0, Nat.zero_le _, rfl, Below.refl _ _, fun j hj hk => absurd hk (by omega)⟩
  case round =>
    obtain ⟨k, hk, rfl, hb, hq⟩ := hrel
    have HQ := Lib.hid hq
    clear hq
    by_cases hlt : k < zs.length
    · obtain ⟨g, o, rfl, hg, hcell⟩ := hr.2 (by omega)
      have hat := fun j (hj : j < 4) => flatL_at zs k j hlt hj
      obtain ⟨Ab, nb, cb, hbv⟩ := bv_form (HF.out zs[k] (List.getElem_mem _))
      have k0 : wr.cell? ⟨g, o + k * 4, none⟩ = some (.int .i64 zs[k].it.seq) := (hb.cell (p := ⟨g, o + k * 4, none⟩) hg).trans (hcell (k * 4 + 0) _ ((hat 0 (by omega)).trans (by simp only [encL]; rfl)))
      have k1 : wr.cell? ⟨g, o + k * 4 + 1, none⟩ = some (.slice Ab nb cb) := (hb.cell (p := ⟨g, o + k * 4 + 1, none⟩) hg).trans (hcell (k * 4 + 1) _ ((hat 1 (by omega)).trans (by simp only [encL, hbv]; rfl)))
      have k2 : wr.cell? ⟨g, o + k * 4 + 2, none⟩ = some (.int .i64 zs[k].it.tries) := (hb.cell (p := ⟨g, o + k * 4 + 2, none⟩) hg).trans (hcell (k * 4 + 2) _ ((hat 2 (by omega)).trans (by simp only [encL]; rfl)))
      have k3 : wr.cell? ⟨g, o + k * 4 + 3, none⟩ = some (.int .i64 zs[k].it.due) := (hb.cell (p := ⟨g, o + k * 4 + 3, none⟩) hg).trans (hcell (k * 4 + 3) _ ((hat 3 (by omega)).trans (by simp only [encL]; rfl)))
      have hbx1 : wr.cell? ⟨b, 1, none⟩ = some (.int .i64 ack) := (hb.cell (p := ⟨b, 1, none⟩) (World.block_lt_of_cell? w _ hbx)).trans hbx
      have HR := Lib.hid hr
      clear hcell hr hat hbv
      by_cases hval : decide (zs[k].it.seq ≤ ack) = true
      · have HV := Lib.hid hval
        clear hval
        have hC : Hid (∀ wx, wx.cell? ⟨b, 1, none⟩ = some (.int .i64 ack) → Calls Try.prog 45 #[.agg #[.int .i64 zs[k].it.seq, .slice Ab nb cb, .int .i64 zs[k].it.tries, .int .i64 zs[k].it.due], .pointer (some ⟨b, 0, none⟩)] wx fun e w' => e = .returned (.bool true) ∧ Below wx.heap.size wx w') := Lib.hid (fun wx h => HV.out ▸ on1_any _ _ _ ack _ _ _ b wx h)
        go_wp2_with (go_at_call 45; refine (hC.out _ hbx1).mono ?_; rintro e w1 ⟨rfl, hb1⟩)
        go_ret
        exact ⟨hb.trans (hb1.mono hb.size), .inr ⟨k, rfl, hlt, by simpa [keepL] using HV.out, fun j hj hjk => HQ.out j hj hjk⟩⟩
      · have hval' : decide (zs[k].it.seq ≤ ack) = false := by simpa using hval
        have HV := Lib.hid hval'
        clear hval hval'
        have hC : Hid (∀ wx, wx.cell? ⟨b, 1, none⟩ = some (.int .i64 ack) → Calls Try.prog 45 #[.agg #[.int .i64 zs[k].it.seq, .slice Ab nb cb, .int .i64 zs[k].it.tries, .int .i64 zs[k].it.due], .pointer (some ⟨b, 0, none⟩)] wx fun e w' => e = .returned (.bool false) ∧ Below wx.heap.size wx w') := Lib.hid (fun wx h => HV.out ▸ on1_any _ _ _ ack _ _ _ b wx h)
        go_wp2_with (go_at_call 45; refine (hC.out _ hbx1).mono ?_; rintro e w1 ⟨rfl, hb1⟩)
        go_roundw
        case rel =>
          refine ⟨k + 1, by omega, by go_num, hb.trans (hb1.mono hb.size), fun j hj hk => ?_⟩
          rcases Nat.lt_or_ge j k with h | h
          · exact HQ.out j hj h
          · obtain rfl : j = k := by omega
            simpa [keepL] using HV.out
        case measure => simp [intOf]; omega
    · go_wp2
      go_ret
      refine ⟨hb, .inl ⟨rfl, fun z hz => ?_⟩⟩
      obtain ⟨j, hj, rfl⟩ := List.getElem_of_mem hz
      exact HQ.out j hj (by omega)

theorem flatL_set4 (zs : List LIm) (k : Nat) (h : k < zs.length) (z : LIm) : ((((zs.flatMap encL).set (k * 4) (.int .i64 z.it.seq)).set (k * 4 + 1) z.bv).set (k * 4 + 2) (.int .i64 z.it.tries)).set (k * 4 + 3) (.int .i64 z.it.due) = (zs.set k z).flatMap encL := by
  induction zs generalizing k with
  | nil => simp at h
  | cons x zs ih =>
    cases k with
    | zero => simp [encL]
    | succ k =>
      have e0 : (k + 1) * 4 = 4 + (k * 4) := by omega
      have e1 : 4 + k * 4 + 1 = 4 + (k * 4 + 1) := by omega
      have e2 : 4 + k * 4 + 2 = 4 + (k * 4 + 2) := by omega
      have e3 : 4 + k * 4 + 3 = 4 + (k * 4 + 3) := by omega
      rw [List.flatMap_cons, e0, e1, e2, e3, List.set_append_right _ _ (by rw [encL_len]; omega), encL_len, Nat.add_sub_cancel_left, List.set_append_right _ _ (by rw [encL_len]; omega), encL_len, Nat.add_sub_cancel_left, List.set_append_right _ _ (by rw [encL_len]; omega), encL_len, Nat.add_sub_cancel_left, List.set_append_right _ _ (by rw [encL_len]; omega), encL_len, Nat.add_sub_cancel_left, ih k (by simpa using h)]
      simp
/-- A row that is cut off: its first cells, whatever is written behind them. -/
theorem own_cut {w : World} {base e size g n c m : Nat} {xs ys vs : List Value} (h : w.ownsRow base e size (.slice (some ⟨g, 0, none⟩) n c) n xs) (hm : m ≤ n) (hy : ys = xs.take (m * size)) (hv : vs.length ≤ (n - m) * size) :
    (w.setCells g (m * size) vs).ownsRow base e size (.slice (some ⟨g, 0, none⟩) m c) m ys := by
  obtain ⟨hl, h | ⟨g', cap, cur, hv', hb, hg, hnc, hcm, hcs, htake⟩⟩ := h
  · cases h.1
  cases hv'
  have hmn : m * size ≤ n * size := Nat.mul_le_mul_right _ hm
  have hnz : n * size ≤ c * size := Nat.mul_le_mul_right _ hnc
  have hsub : (n - m) * size = n * size - m * size := Nat.sub_mul _ _ _
  refine ⟨by rw [hy, List.length_take]; omega, .inr ⟨g, c, _, rfl, hb, block_over vs cur _ w hg, by omega, hcm, by rw [over_size, hcs], ?_⟩⟩
  rw [hy, ← htake]
  apply List.ext_getElem?
  intro t
  rw [List.getElem?_take, List.getElem?_take]
  split
  · rw [Array.getElem?_toList, over_get _ _ _ _ (by omega), if_neg (by omega), List.getElem?_take, if_pos (by omega), Array.getElem?_toList]
  · rfl
theorem zeroItem (w : World) : (zeroValue 84).run Try.prog w = .ok (.agg #[.int .i64 0, .slice none 0 0, .int .i64 0, .int .i64 0]) w := by kernel_rfl
end Go.Proofs.Ytnmbblkfaoihfaa
