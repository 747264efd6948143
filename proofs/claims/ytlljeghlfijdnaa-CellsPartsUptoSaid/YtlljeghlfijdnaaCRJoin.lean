/- The reference's Join. -/
import Derived.Test.YtlljeghlfijdnaaCJoin
import Derived.Test.YtlljeghlfijdnaaCRM
import Derived.Test.YtlljeghlfijdnaaFlow
namespace Go.Proofs.Ytlljeghlfijdnaa
open Go.RowKit

section
variable {P : Program} {ops : Array Oper} {R : Act → (World → Prop) → Prop} {o : Oper} {i : Nat} {l vis : List Nat} {S C : World → Prop} {a : Act}
/-- A call that hands back something, keeps S, and of which H holds until the next one. -/
theorem flow_gcall (H : Value → World → Prop) (ho : ops.toList[i]? = some o) (hv : boundIn vis o = true) (hw : Region.wanted o (yielded ops a.tmps) = true) (hb : behindB ops i l = true)
    (h : ∀ w, S w → C w → ∃ f args w', (execOp a.eval o).run P w = .ok (.enter f args) w' ∧ Calls P f args w' fun e w'' => ∃ v, e = .returned v ∧ S w'' ∧ H v w'')
    (h' : ∀ v, (∃ w, S w ∧ H v w) → FlowAll P ops R l (i :: vis) (fun w => S w ∧ True) (H v) (a.put o.dst v)) : FlowAll P ops R (i :: l) vis S C a :=
  ⟨o, by rw [← Array.getElem?_toList]; exact ho, hv, .inr ⟨hw, hb, S, .inr fun _ h => h, fun _ _ => True, H, fun w hs hc => by
    obtain ⟨f, args, w', h1, h2⟩ := h w hs hc
    exact .inr (.inr ⟨f, args, w', h1, h2.mono fun e w'' ⟨v, he, hs', hk⟩ => ⟨v, he, hs', trivial, hk⟩⟩), fun v ⟨w, h1, _, h2⟩ => h' v ⟨w, h1, h2⟩⟩⟩
/-- An operation of the language's own that makes or writes memory: of what it hands back H holds until the next one. -/
theorem flow_gmake (H : Value → World → Prop) (ho : ops.toList[i]? = some o) (hv : boundIn vis o = true) (hw : Region.wanted o (yielded ops a.tmps) = true) (hb : behindB ops i l = true)
    (h : ∀ w, S w → C w → ∃ v w', (execOp a.eval o).run P w = .ok (.value v) w' ∧ S w' ∧ H v w')
    (h' : ∀ v, (∃ w, S w ∧ H v w) → FlowAll P ops R l (i :: vis) (fun w => S w ∧ True) (H v) (a.put o.dst v)) : FlowAll P ops R (i :: l) vis S C a :=
  ⟨o, by rw [← Array.getElem?_toList]; exact ho, hv, .inr ⟨hw, hb, S, .inr fun _ h => h, fun _ _ => True, H, fun w hs hc => by
    obtain ⟨v, w', h1, h2, h3⟩ := h w hs hc
    exact .inl ⟨v, w', h1, h2, trivial, h3⟩, fun v ⟨w, h1, _, h2⟩ => h' v ⟨w, h1, h2⟩⟩⟩
end
/-- An operation that appends what may be read to a row that is the caller's own. -/
theorem exec_append_rd {P : Program} {o : Oper} {ρ : Operand → Value} {w : World} {S : World → Prop} {H : Value → World → Prop} (s x : Operand) (t : TypeId)
    (ho : o.op = .call { callee := .builtin .append, args := #[s, x], argTypes := #[t, t] })
    (base : Nat) (e : TypeId) (i : TypeInfo) (z : Value) (size bytes : Nat) (ht : P.underlying t = some (.slice e)) (hi : P.info? e = some i) (hz : i.zero = some z)
    (hsize : i.size = size) (hby : i.bytes = bytes) (hzs : z.cells.size = size) (hsz : 0 < size)
    (v : Value) (n : Nat) (xs : List Value) (hs : ρ s = v) (hown : w.ownsRow base e size v n xs)
    (A : Option Addr) (m c : Nat) (news : List Value) (hx : ρ x = .slice A m c) (hr : Rd w size A m news) (h1 : ∀ u ∈ news, u.oneCell' = true)
    (h63 : n + m ≤ maxLen) (hbytes : (n + m) * bytes ≤ 140737488355328) (hbase : base ≤ w.heap.size)
    (h : ∀ v' w', w'.ownsRow base e size v' (n + m) (xs ++ news) → w.grownBy w' v.ownBlock → S w' ∧ H v' w') :
    ∃ v' w', (execOp ρ o).run P w = .ok (.value v') w' ∧ S w' ∧ H v' w' := by
  obtain ⟨v', w', hrun, h2, h3, _⟩ := run_append_rd (P := P) w base t o.type e i z size bytes ht hi hz hsize hby hzs hsz v n xs hown A m c news hr h1 h63 hbytes hbase
  refine ⟨v', w', ?_, h v' w' h2 h3⟩
  unfold execOp
  simp only [ho, resolve, invoke, builtin, Sem.run_bind, Sem.run_pure, Result.andThen_ok, List.map_toArray, List.map_cons, List.map_nil, hs, hx, hrun]

set_option maxRecDepth 100000 in
set_option maxHeartbeats 2000000 in
theorem rjoin_any (v : Value) (l : List (List Nat)) (w : World) (hv : Bss w v l) (ht : (joinB l).length ≤ 140737488355328) :
    Calls Try.prog 38 #[v] w (RetO (joinB l) w) := by
  obtain ⟨i0, hi0, hz0, hz1, hz2⟩ := info_parts Try.infoByte
  obtain ⟨A, c, hs, rfl, hlc, hcm, hr, hbs⟩ := hv
  have hlm : l.length ≤ 9223372036854775807 := by unfold maxLen at hcm; omega
  have hl0 : hs.length = l.length := by simpa using hr.1
  have hcell : ∀ k (h : k < l.length), ∃ g o Ak ck, A = some ⟨g, o, none⟩ ∧ g < w.heap.size ∧ w.cell? ⟨g, o + k, none⟩ = some (.slice Ak (l[k]).length ck) ∧ (l[k]).length ≤ ck ∧ ck ≤ maxLen ∧ Rd w 1 Ak (l[k]).length ((l[k]).map u8v) := by
    intro k hk
    obtain ⟨g, o, ha, hg, hc⟩ := hr.2 (by omega)
    obtain ⟨Ak, ck, e1, e2, e3, e4⟩ := hbs k hk hs[k] (by simp [hl0, hk])
    exact ⟨g, o, Ak, ck, ha, hg, by rw [hc k hs[k] (by simp [hl0, hk]), e1], e2, e3, e4⟩
  have HC := Lib.hid hcell
  obtain ⟨L, hL⟩ : ∃ L, l.map cellB = L := ⟨_, rfl⟩
  have HS := Lib.hid (fun k h => join_step l L hL k h)
  have HA := Lib.hid (join_all l L hL)
  have ht' : L.flatten.length ≤ 140737488355328 := by rw [← hL]; exact ht
  obtain ⟨T, hT⟩ : ∃ T, L.flatten.length = T := ⟨_, rfl⟩
  rw [hT] at ht' HS
  clear hcell hbs hr hl0 hcm hL ht hT
  go_enter Try.func38, Try.ntmps38
  go_wp2_with fail
  go_loopw [3, 4] (fun v i wr => JoinRel w l.length L v i wr) (fun _ i _ => l.length - (intOf i).toNat)
  case atStart => exact ⟨0, Nat.zero_le _, rfl, World.ownsRow_nil _ _ _ _, Below.refl _ _⟩
  case round =>
    obtain ⟨k, hk, rfl, ho, hb⟩ := hrel
    have HO := Lib.hid ho
    clear ho
    by_cases hlt : k < l.length
    · obtain ⟨g, o, Ak, ck, rfl, hg, hc0, hck, hckm, hrk⟩ := HC.out k hlt
      have hc : wr.cell? ⟨g, o + k, none⟩ = some (.slice Ak (l[k]).length ck) := (hb.cell (p := ⟨g, o + k, none⟩) hg).trans hc0
      obtain ⟨hs1, hs2, hs3⟩ := HS.out k hlt
      obtain ⟨bs, hbs⟩ : ∃ bs, l[k] = bs := ⟨_, rfl⟩
      have hc0' := hc0
      rw [hbs] at hc hc0' hck hrk hs1 hs2
      obtain ⟨m, hm⟩ : ∃ m, bs.length = m := ⟨_, rfl⟩
      rw [hm] at hc hc0' hck hrk hs1 hs2
      have hnl := (numB_length (m : Int)).2
      have HR := Lib.hid hrk
      have H1 := Lib.hid hs1
      have hmm : m ≤ 9223372036854775807 := by unfold maxLen at hckm; omega
      have HCK := Lib.hid hckm
      have HC0 := Lib.hid hc0'
      clear hc hc0 hc0' hrk hbs hs1 hckm hm
      go_wp2_with fail
      refine wp_region_flow2 (fun W => Below w.heap.size w W) (fun W => W.ownsRow w.heap.size 5 1 u3 (catN L k) ((cat L k).map u8v)) [0, 1, 2, 3, 4, 5, 8, 9, 10, 11, 6, 7, 12, 13] (by kernel_rfl) (by kernel_rfl) (by kernel_rfl) hb.drew HO.out.drew ?_
      refine flow_val ?_ rfl (by kernel_rfl) (by rfl) (fun W hW => ?_) ?_
      rotate_left 1
      · go_simp <;> with_reducible rfl
      simp only [Act.put, List.setIfInBounds_toArray, List.set_cons_succ, List.set_cons_zero]
      refine flow_val ?_ rfl (by kernel_rfl) (by rfl) (fun W hW => ?_) ?_
      rotate_left 1
      · go_simp <;> with_reducible rfl
      simp only [Act.put, List.setIfInBounds_toArray, List.set_cons_succ, List.set_cons_zero]
      refine flow_val ?_ rfl (by kernel_rfl) (by rfl) (fun W hW => ?_) ?_
      rotate_left 1
      · go_simp <;> with_reducible rfl
      simp only [Act.put, List.setIfInBounds_toArray, List.set_cons_succ, List.set_cons_zero]
      refine flow_val ?_ rfl (by kernel_rfl) (by rfl) (fun W hW => ?_) ?_
      rotate_left 1
      · go_simp <;> with_reducible rfl
      simp only [Act.put, List.setIfInBounds_toArray, List.set_cons_succ, List.set_cons_zero]
      refine flow_val ?_ rfl (by kernel_rfl) (by rfl) (fun W hW => ?_) ?_
      rotate_left 1
      · have hc : W.cell? ⟨g, o + k, none⟩ = some (.slice Ak m ck) := (hW.cell (p := ⟨g, o + k, none⟩) hg).trans HC0.out; go_simp <;> with_reducible rfl
      simp only [Act.put, List.setIfInBounds_toArray, List.set_cons_succ, List.set_cons_zero]
      refine flow_val ?_ rfl (by kernel_rfl) (by rfl) (fun W hW => ?_) ?_
      rotate_left 1
      · go_simp <;> with_reducible rfl
      simp only [Act.put, List.setIfInBounds_toArray, List.set_cons_succ, List.set_cons_zero]
      refine flow_val ?_ rfl (by kernel_rfl) (by rfl) (fun W hW => ?_) ?_
      rotate_left 1
      · go_simp <;> with_reducible rfl
      simp only [Act.put, List.setIfInBounds_toArray, List.set_cons_succ, List.set_cons_zero]
      refine flow_val ?_ rfl (by kernel_rfl) (by rfl) (fun W hW => ?_) ?_
      rotate_left 1
      · go_simp <;> with_reducible rfl
      simp only [Act.put, List.setIfInBounds_toArray, List.set_cons_succ, List.set_cons_zero]
      refine flow_val ?_ rfl (by kernel_rfl) (by rfl) (fun W hW => ?_) ?_
      rotate_left 1
      · go_simp <;> with_reducible rfl
      simp only [Act.put, List.setIfInBounds_toArray, List.set_cons_succ, List.set_cons_zero]
      refine flow_val ?_ rfl (by kernel_rfl) (by rfl) (fun W hW => ?_) ?_
      rotate_left 1
      · have hc : W.cell? ⟨g, o + k, none⟩ = some (.slice Ak m ck) := (hW.cell (p := ⟨g, o + k, none⟩) hg).trans HC0.out; go_simp <;> with_reducible rfl
      simp only [Act.put, List.setIfInBounds_toArray, List.set_cons_succ, List.set_cons_zero]
      refine flow_gcall (fun v W => Bs W v (numB (m : Int)) ∧ W.ownsRow w.heap.size 5 1 u3 (catN L k) ((cat L k).map u8v)) rfl (by kernel_rfl) (by rfl) (by kernel_rfl) (fun W hW hC => ⟨_, _, _, by go_simp, (rnum_any (m : Int) W (by unfold I64; omega)).mono fun e w1 ⟨v, he, hv, hb1⟩ => ⟨v, he, hW.trans (hb1.mono hW.size), hv, (Fr.of_below (B := 0) (T := []) (S := []) hb1).own hC (by simp) (by simp)⟩⟩) ?_
      rintro v1 ⟨W0, _, ⟨A1, c1, rfl, hc1, _, _⟩, _⟩
      simp only [Act.put, List.setIfInBounds_toArray, List.set_cons_succ, List.set_cons_zero]
      obtain ⟨d, hd⟩ : ∃ d, (numB (m : Int)).length = d := ⟨_, rfl⟩
      rw [hd] at hc1 hs2 hnl
      simp only [hd]
      have HD := Lib.hid hd
      clear hd
      refine flow_gmake (fun v W => W.ownsRow w.heap.size 5 1 v (catN L k + d) ((cat L k).map u8v ++ (numB (m : Int)).map u8v)) rfl (by kernel_rfl) (by rfl) (by kernel_rfl) (fun W hW hC => ?_) ?_
      · refine exec_append_rd (.tmp 11) (.tmp 17) 22 rfl w.heap.size 5 i0 (.int .u8 0) 1 1 Try.underlying22 hi0 hz0 hz1 hz2 rfl (by decide) u3 _ _ rfl (hC.2) A1 d c1 ((numB (m : Int)).map u8v) rfl ((HD.out ▸ hC.1.rd' : Rd W 1 A1 d ((numB (m : Int)).map u8v))) (u8_one' _) (by unfold maxLen; omega) (by omega) hW.1.size (fun v' w' x2 x3 => ?_)
        have fx : Fr w.heap.size [5] [] W w' := (Fr.refl W).grown x3 (fun j hj => by
          obtain ⟨hb, cs, hc⟩ := own_block (hC.2) hj
          exact ⟨hb, .inr ⟨cs, _, _, hc, by simp⟩⟩)
        exact ⟨⟨hW.1.trans (fx.below hW.1.size), trivial⟩, x2⟩
      rintro v5 ⟨W5, _, _⟩
      simp only [Act.put, List.setIfInBounds_toArray, List.set_cons_succ, List.set_cons_zero]
      refine flow_gmake (fun v W => W.ownsRow w.heap.size 5 1 v (catN L k + d + m) ((cat L k).map u8v ++ (numB (m : Int)).map u8v ++ bs.map u8v)) rfl (by kernel_rfl) (by rfl) (by kernel_rfl) (fun W hW hC => ?_) ?_
      · refine exec_append_rd (.tmp 18) (.tmp 22) 22 rfl w.heap.size 5 i0 (.int .u8 0) 1 1 Try.underlying22 hi0 hz0 hz1 hz2 rfl (by decide) v5 _ _ rfl (hC) Ak m ck (bs.map u8v) rfl (HR.out.below hW.1.1) (u8_one' _) (by unfold maxLen; omega) (by omega) hW.1.1.size (fun v' w' x2 x3 => ?_)
        have fx : Fr w.heap.size [5] [] W w' := (Fr.refl W).grown x3 (fun j hj => by
          obtain ⟨hb, cs, hc⟩ := own_block (hC) hj
          exact ⟨hb, .inr ⟨cs, _, _, hc, by simp⟩⟩)
        exact ⟨⟨⟨hW.1.1.trans (fx.below hW.1.1.size), trivial⟩, trivial⟩, x2⟩
      rintro v6 ⟨W6, _, _⟩
      simp only [Act.put, List.setIfInBounds_toArray, List.set_cons_succ, List.set_cons_zero]
      refine flow_val ?_ rfl (by kernel_rfl) (by rfl) (fun W hW => ?_) ?_
      rotate_left 1
      · go_simp <;> with_reducible rfl
      simp only [Act.put, List.setIfInBounds_toArray, List.set_cons_succ, List.set_cons_zero]
      refine flow_done2 ?_
      intro W hW hO6
      have HO6 := Lib.hid hO6
      have HB6 := Lib.hid hW.1.1.1
      clear hO6 hW
      go_wp2_with fail
      go_roundw
      case rel =>
        refine ⟨k + 1, hlt, by go_num, ?_, HB6.out⟩
        have := HO6.out
        rw [hs2, H1.out, List.map_append, List.map_append, ← List.append_assoc]
        exact this
      case measure => simp [intOf]; omega
    · obtain rfl : k = l.length := by omega
      go_wp2
      go_ret
      refine ⟨_, rfl, ?_, hb⟩
      have := HO.out
      rwa [HA.out.1, HA.out.2] at this
end Go.Proofs.Ytlljeghlfijdnaa
