/- Joined: The contract of looks: a backlog and a reference that hold the same rows look alike. -/
import Derived.Test.YtglfbihdbdcgiaaZBP4
import Derived.Test.YtglfbihdbdcgiaaZBP8
import Derived.Deep.QuietTactic
import Derived.BigQuiet
import Derived.Test.YtglfbihdbdcgiaaZBP9
import Derived.Laws.StructEq
namespace Go.Proofs.Ytglfbihdbdcgiaa
open Go.RowKit Go.Shelf
attribute [local go_sem] Oper.semAt_some

theorem quiet_l {P : Program} {f : FuncId} {args : Array Value} {w : World} {n : Nat} {v : Value}
    (h : Calls P f args (w.drewN n) fun e w' => e = .returned v ∧ w.drewN n = w') : Calls P f args (w.drewN n) fun e w'' => e = .returned v ∧ ∃ m, w'' = w.drewN m :=
  h.mono fun _ _ ⟨he, hm⟩ => ⟨he, n, hm.symm⟩
theorem IsB.drewN {w : World} {B p : Nat} {rs : List (Int × Bool)} {out : Int} (h : IsB w B p rs out) (n : Nat) : IsB (w.drewN n) B p rs out := h
theorem IsX.drewN {w : World} {B p : Nat} {rs : List (Int × Bool)} {out : Int} (h : IsX w B p rs out) (n : Nat) : IsX (w.drewN n) B p rs out := h

set_option maxHeartbeats 400000 in
theorem out_any (B p : Nat) (rs : List (Int × Bool)) (out : Int) (w : World) (h : IsB w B p rs out) :
    Calls Try.prog 27 #[.pointer (some ⟨p, 0, none⟩)] w fun e w' => e = .returned (.int .i64 out) ∧ w = w' := by
  obtain ⟨hB, v, hp, ho⟩ := h
  have hp1 := cell_at hp 1
  clear ho hp
  go_enter Try.func27, Try.ntmps27
  go_wp2
  go_ret
  exact ⟨rfl, rfl⟩

theorem neq_row (x y : Operand) (a c : Int) (b d : Bool) (w : World) :
    (eqGuard .neq 66 x y (.agg #[.int .i64 a, .bool b]) (.agg #[.int .i64 c, .bool d])).run Try.prog w = .ok () w ∧ (binOp .neq 66 (.agg #[.int .i64 a, .bool b]) (.agg #[.int .i64 c, .bool d])).run Try.prog w = .ok (.bool (!((a == c) && (b == d)))) w := by
  refine ⟨run_eqGuard_agg _ _ _ _ _ _ _ (by kernel_rfl), ?_⟩
  rw [run_neq_struct, run_equalIn_struct _ 9999 _ _ _ (by kernel_rfl) (by kernel_rfl)]
  simp only [Program.fieldsOf, Try.underlying66]
  cases h1 : (a == c) <;> cases h2 : (b == d) <;> go_simp

/-- What holds between two rounds of looks. -/
def LkI (w : World) (p q : Nat) (rs : List (Int × Bool)) (pre : List (Int × Bool)) (W : World) : Prop :=
  (pre <+: rs ∧ W.cell? ⟨w.heap.size, 0, none⟩ = some (.pointer (some ⟨p, 0, none⟩)) ∧ W.cell? ⟨w.heap.size + 1, 0, none⟩ = some (.pointer (some ⟨q, 0, none⟩)) ∧ W.cell? ⟨w.heap.size + 1 + 1, 0, none⟩ = some (.bool false) ∧ W.frozen? ⟨w.heap.size + 1 + 1, 0, none⟩ = false ∧
    W.cell? ⟨w.heap.size + 1 + 1 + 1 + 1, 0, none⟩ = some (.int .i64 pre.length) ∧ W.frozen? ⟨w.heap.size + 1 + 1 + 1 + 1, 0, none⟩ = false) ∧ Below w.heap.size w W
theorem looks_lt {w w6 : World} {B p : Nat} {rs : List (Int × Bool)} {out : Int} (hb : IsB w B p rs out) (hB : Below w.heap.size w w6) : ∀ k, IsB w6 B p rs out → ∀ v, w6.heap[p]? = some (.cells #[v, .int .i64 out] 58 (0, 0)) → v.ownBlock = some k → k < w.heap.size := by
  intro k _ v hv hk
  obtain ⟨_, v', hp, ho⟩ := hb
  rw [hB.block p (lt_of_block hp), hp] at hv
  injection hv with hv
  injection hv with hv _ _
  obtain rfl : v' = v := by
    have := congrArg (fun (a : Array Value) => a[0]?) hv
    simpa using this
  obtain ⟨_, cs, hc⟩ := own_block ho hk
  exact lt_of_block hc
theorem keeps_of_below {W W' : World} (h : Below W.heap.size W W') : KeepsOthers W W' := ⟨h.size, fun k _ hk _ => (h.block k (lt_of_block hk)).trans hk⟩

set_option maxRecDepth 100000 in
set_option maxHeartbeats 4000000 in
theorem looks_any (B p q : Nat) (rs : List (Int × Bool)) (out : Int) (w : World) (hb : IsB w B p rs out) (hx : IsX w B q rs out) (hm : rs.length ≤ 256) (hinj : ∀ i j (hi : i < rs.length) (hj : j < rs.length), rs[i].1 = rs[j].1 → i = j) :
    Calls Try.prog 24 #[.pointer (some ⟨p, 0, none⟩), .pointer (some ⟨q, 0, none⟩)] w fun e w' => e = .returned (.bool true) ∧ Below w.heap.size w w' := by
  have hfn : ∀ (fn : Fn) (a b : Array Value) (w : World), (binOp .eql 46 (.func fn a b) .nilFunc).run Try.prog w = .ok (.bool false) w := fun _ _ _ _ => by rfl
  refine (callsIn_wide (n := 9)).1 ?_
  refine callsIn_of_wp_marks Try.func24 rfl trivial ?_ rfl
  simp only [Try.ntmps24, List.size_toArray, List.length_cons, List.length_nil, Nat.reduceAdd, Nat.reduceSub, Array.replicate_succ, Array.replicate_zero, List.push_toArray, List.append_toArray, List.nil_append, List.cons_append]
  refine wpIn_wide.2 ?_
  go_wp2_with fail
  refine (all_any _ _).mono ?_
  rintro e w1 ⟨rfl, hw1⟩
  obtain ⟨W, hW⟩ : ∃ W, ((w.alloc (.cells #[.pointer (some ⟨p, 0, none⟩)] 23)).alloc (.cells #[.pointer (some ⟨q, 0, none⟩)] 40)).alloc (.cells #[.bool false] 4) = W := ⟨_, rfl⟩
  rw [hW] at hw1 ⊢
  have hWs : W.heap.size = w.heap.size + 1 + 1 + 1 := by rw [← hW]; simp
  rw [hWs]
  have b0 : W.heap[w.heap.size]? = some (.cells #[.pointer (some ⟨p, 0, none⟩)] 23 (0, 0)) := by
    rw [← hW]; exact block_alloc (block_alloc (block_new _ _) _) _
  have b1 : W.heap[w.heap.size + 1]? = some (.cells #[.pointer (some ⟨q, 0, none⟩)] 40 (0, 0)) := by
    rw [← hW]
    have := block_new (w.alloc (.cells #[.pointer (some ⟨p, 0, none⟩)] 23)) (.cells #[.pointer (some ⟨q, 0, none⟩)] 40)
    exact block_alloc (by simpa using this) _
  have b2 : W.heap[w.heap.size + 1 + 1]? = some (.cells #[.bool false] 4 (0, 0)) := by
    rw [← hW]
    have := block_new ((w.alloc (.cells #[.pointer (some ⟨p, 0, none⟩)] 23)).alloc (.cells #[.pointer (some ⟨q, 0, none⟩)] 40)) (.cells #[.bool false] 4)
    simpa using this
  have hBW : Below w.heap.size w W := by rw [← hW]; exact (((Below.refl _ w).alloc (Nat.le_refl _) _).alloc (by simp) _).alloc (by simp; omega) _
  have c0 := block_alloc b0 (.cells #[.pointer (some ⟨p, 0, none⟩)] 23)
  have c1 := block_alloc b1 (.cells #[.pointer (some ⟨p, 0, none⟩)] 23)
  have c2 := block_alloc b2 (.cells #[.pointer (some ⟨p, 0, none⟩)] 23)
  have c3 := block_new W (.cells #[.pointer (some ⟨p, 0, none⟩)] 23)
  have hB1 := hBW.alloc hBW.size (.cells #[.pointer (some ⟨p, 0, none⟩)] 23)
  rw [hWs] at c3
  rw [hw1] at c0 c1 c2 c3 hB1
  have hs1 : w1.heap.size = w.heap.size + 1 + 1 + 1 + 1 := by rw [← hw1]; simp [hWs]
  have IB := hb.below hB1
  have IX := hx.below hB1
  have d0 := cell_at c0 0
  have d1 := cell_at c1 0
  have C0 := Lib.hid c0
  have C1 := Lib.hid c1
  have C2 := Lib.hid c2
  have C3 := Lib.hid c3
  have hI := Lib.hid hinj
  have HS1 := Lib.hid hs1
  clear b0 b1 b2 hBW hw1 hW hWs c0 c1 c2 c3 hinj hs1
  obtain ⟨hBq, vx, hqx, hox⟩ := id IX
  obtain ⟨Ax, cx, rfl, _, _, _, _⟩ := own_slice hox
  have q0 := cell_at hqx 0
  have q1 := cell_at hqx 1
  clear hqx hox
  have e1 : (out != out) = false := by simp
  have e2 : ((rs.length : Int) != (rs.length : Int)) = false := by simp
  have HOut := Lib.hid (fun n => out_any _ _ _ _ (w1.drewN n) (IsB.drewN IB n))
  have HLen := Lib.hid (fun n => len_any _ _ _ _ (w1.drewN n) (IsB.drewN IB n))
  go_wp2_with fail
  go_quiet ((first | (go_at_call 27; exact quiet_l (HOut.out _)) | (go_at_call 17; exact quiet_l (HLen.out _))))
  obtain ⟨w5, hw5⟩ : ∃ w5, w1.drewN nq = w5 := ⟨_, rfl⟩
  rw [hw5]
  have D0 : Hid (w5.heap[w.heap.size]? = some (.cells #[.pointer (some ⟨p, 0, none⟩)] 23 (0, 0))) := by rw [← hw5]; exact C0.out
  have D1 : Hid (w5.heap[w.heap.size + 1]? = some (.cells #[.pointer (some ⟨q, 0, none⟩)] 40 (0, 0))) := by rw [← hw5]; exact C1.out
  have D2 : Hid (w5.heap[w.heap.size + 1 + 1]? = some (.cells #[.bool false] 4 (0, 0))) := by rw [← hw5]; exact C2.out
  have D3 : Hid (w5.heap[w.heap.size + 1 + 1 + 1]? = some (.cells #[.pointer (some ⟨p, 0, none⟩)] 23 (0, 0))) := by rw [← hw5]; exact C3.out
  have HS5 : Hid (w5.heap.size = w.heap.size + 1 + 1 + 1 + 1) := by rw [← hw5]; exact HS1.out
  have HB5 : Below w.heap.size w w5 := by rw [← hw5]; exact below_drewN hB1 nq
  have IB5 : IsB w5 B p rs out := by rw [← hw5]; exact IB
  have IX5 : IsX w5 B q rs out := by rw [← hw5]; exact IX
  clear hw5 C0 C1 C2 C3 d0 d1 IB IX q0 q1 HOut HLen hB1 HS1
  go_wp2_with fail
  rw [HS5.out]
  obtain ⟨w6, hw6⟩ : ∃ w6, w5.alloc (.cells #[.int .i64 0] 3) = w6 := ⟨_, rfl⟩
  rw [hw6]
  have E0 : w6.heap[w.heap.size]? = some (.cells #[.pointer (some ⟨p, 0, none⟩)] 23 (0, 0)) := by rw [← hw6]; exact block_alloc D0.out _
  have E1 : w6.heap[w.heap.size + 1]? = some (.cells #[.pointer (some ⟨q, 0, none⟩)] 40 (0, 0)) := by rw [← hw6]; exact block_alloc D1.out _
  have E2 : w6.heap[w.heap.size + 1 + 1]? = some (.cells #[.bool false] 4 (0, 0)) := by rw [← hw6]; exact block_alloc D2.out _
  have E3 : w6.heap[w.heap.size + 1 + 1 + 1]? = some (.cells #[.pointer (some ⟨p, 0, none⟩)] 23 (0, 0)) := by rw [← hw6]; exact block_alloc D3.out _
  have E4 : w6.heap[w.heap.size + 1 + 1 + 1 + 1]? = some (.cells #[.int .i64 0] 3 (0, 0)) := by
    rw [← hw6]
    have := block_new w5 (.cells #[.int .i64 0] 3)
    rwa [HS5.out] at this
  have HB6 : Below w.heap.size w w6 := by rw [← hw6]; exact HB5.alloc HB5.size _
  have IB6 := hb.below HB6
  have hsz6 : w.heap.size ≤ w6.heap.size := HB6.size
  clear hw6 D0 D1 D2 D3 HS5 HB5 IB5 IX5
  refine (wpIn_wide (n := 9)).1 ?_
  refine wpIn_rangeFunc_ownF rfl (by omega) (gf := 36) (lb := #[.pointer (some ⟨w.heap.size + 1 + 1 + 1, 0, none⟩)]) rfl trivial (enters_of Try.func36 (by kernel_rfl) rfl)
    (iter_rows _ w.heap.size (w.heap.size + 1 + 1 + 1) B p rs out w6 (by rw [cell_at E3]; rfl) IB6 hm (by omega) (looks_lt hb HB6)) belowK_t (belowK_b hsz6) (Below.refl _ _) (fun _ => rfl)
    (LkI w p q rs) (fun c pre _ => c = .ret ∧ ¬ pre <+: rs)
    (OwnFrom.and (Own.from (fun s A B row hs hg hr => ⟨hs.1, cell_kept hs.2.1 hg hr, cell_kept hs.2.2.1 hg hr, cell_kept hs.2.2.2.1 hg hr, (frozen_kept hs.2.2.2.1 hg hr).trans hs.2.2.2.2.1, cell_kept hs.2.2.2.2.2.1 hg hr, (frozen_kept hs.2.2.2.2.2.1 hg hr).trans hs.2.2.2.2.2.2⟩) _) (ownFrom_below (Nat.le_refl _) hsz6))
    (fun _ _ _ _ _ hs _ _ => hs)
    ⟨⟨List.nil_prefix, cell_at E0 0, cell_at E1 0, cell_at E2 0, frozen_at E2 0, cell_at E4 0, frozen_at E4 0⟩, HB6⟩ (fun x => { tmps := #[.pointer (some ⟨p, 0, none⟩), .pointer (some ⟨q, 0, none⟩), .pointer (some ⟨w.heap.size, 0, none⟩), .pointer (some ⟨w.heap.size + 1, 0, none⟩), .pointer (some ⟨w.heap.size + 1 + 1, 0, none⟩), .func (.func 36) #[] #[.pointer (some ⟨w.heap.size + 1 + 1 + 1, 0, none⟩)], .pointer (some ⟨w.heap.size + 1 + 1 + 1 + 1, 0, none⟩), .int .i64 x.1, .bool x.2, .pointer (some ⟨p, 0, none⟩), .func (.func 36) #[] #[.pointer (some ⟨w.heap.size + 1 + 1 + 1, 0, none⟩)], .func (.func 36) #[] #[.pointer (some ⟨w.heap.size + 1 + 1 + 1, 0, none⟩)], .bool false, .bool false, .pointer (some ⟨p, 0, none⟩), .int .i64 out, .pointer (some ⟨q, 0, none⟩), .pointer (some ⟨q, 0, none⟩), .pointer (some ⟨q, 1, none⟩), .int .i64 out, .bool false, .bool false, .bool false, .pointer (some ⟨p, 0, none⟩), .int .i64 rs.length, .pointer (some ⟨q, 0, none⟩), .pointer (some ⟨q, 0, none⟩), .pointer (some ⟨q, 0, none⟩), .slice Ax rs.length cx, .int .i64 rs.length, .bool false, .bool false, .func (.func 36) #[] #[.pointer (some ⟨w.heap.size + 1 + 1 + 1, 0, none⟩)], .int .i64 x.1, .bool x.2, undef, undef, undef, undef, undef, undef, undef, undef, undef, undef, undef, undef, undef, undef, undef, undef, undef, undef, undef, undef, undef, undef, undef, undef, undef, undef, undef, undef, undef, undef, undef, undef, undef, undef, undef, undef], defers := [] }) ?assign ?body ?done ?stop
  case assign =>
    intro l x W K hK
    gi_wp2
    exact hK
  case stop =>
    rintro D c pre W3 hD hpre ⟨_, hn⟩ _
    exact absurd hpre hn
  case body =>
    rintro l pre x W ⟨⟨hpre, h0, h1, h2, h2f, h4, h4f⟩, hB⟩ hlt
    have IBW := hb.below hB
    have IXW := hx.below hB
    obtain ⟨_, vw, hqw, how⟩ := IXW
    obtain ⟨g, c, rfl⟩ := own_pos how (by omega)
    have q0 := cell_at hqw 0
    obtain ⟨r0, r1⟩ := xrow_cells how hlt
    have hpl : Hid (pre = rs.take pre.length) := List.prefix_iff_eq_take.1 hpre
    have hxr : x = rs[pre.length] ∨ x ≠ rs[pre.length] := Classical.em _
    have hk : (pre.length : Int) < (rs.length : Int) := by omega
    have hk0 : (0 : Int) ≤ (pre.length : Int) := by omega
    have HPre := Lib.hid hpre
    have e4 : ((pre.length : Int) != (pre.length : Int)) = false := by simp
    clear hpre hqw how
    rcases hxr with hxr | hxr
    · have hid : idx (fun r => r.1 == x.1) rs = pre.length := by
        refine idx_some hlt (by rw [hxr]; simp) (fun j hj => ?_)
        have := hI.out j pre.length (by omega) hlt
        rw [hxr]
        simp
        intro e
        have := this e
        omega
      rw [← hxr] at r0 r1
      have hpx : pre ++ [x] <+: rs := by
        rw [List.prefix_iff_eq_take, List.length_append, List.length_singleton, List.take_succ_eq_append_getElem hlt, ← hpl.out, hxr]
      have HX := Lib.hid hpx
      have HID := Lib.hid hid
      clear hid hxr hpx
      obtain ⟨x1, x2⟩ := x
      simp only at r0 r1 HID
      have hmx : Try.prog.follows .mixedOrders = true := by kernel_rfl
      gi_wp2_with fail
      have hF : ∀ W', Below W.heap.size W W' → W'.cell? ⟨w.heap.size, 0, none⟩ = some (.pointer (some ⟨p, 0, none⟩)) ∧ W'.cell? ⟨w.heap.size + 1, 0, none⟩ = some (.pointer (some ⟨q, 0, none⟩)) ∧ W'.cell? ⟨w.heap.size + 1 + 1 + 1 + 1, 0, none⟩ = some (.int .i64 pre.length) ∧
          W'.cell? ⟨q, 0, none⟩ = some (.slice (some ⟨g, 0, none⟩) rs.length c) ∧ W'.cell? ⟨g, pre.length * 2, none⟩ = some (.int .i64 x1) ∧ W'.cell? ⟨g, pre.length * 2 + 1, none⟩ = some (.bool x2) := by
        intro W' hb'
        exact ⟨(hb'.cell (p := ⟨w.heap.size, 0, none⟩) (World.block_lt_of_cell? W _ h0)).trans h0, (hb'.cell (p := ⟨w.heap.size + 1, 0, none⟩) (World.block_lt_of_cell? W _ h1)).trans h1, (hb'.cell (p := ⟨w.heap.size + 1 + 1 + 1 + 1, 0, none⟩) (World.block_lt_of_cell? W _ h4)).trans h4,
          (hb'.cell (p := ⟨q, 0, none⟩) (World.block_lt_of_cell? W _ q0)).trans q0, (hb'.cell (p := ⟨g, pre.length * 2, none⟩) (World.block_lt_of_cell? W _ r0)).trans r0, (hb'.cell (p := ⟨g, pre.length * 2 + 1, none⟩) (World.block_lt_of_cell? W _ r1)).trans r1⟩
      clear h0 h1 r0 r1 q0 hmx
      refine wpIn_region_held (fun W' => Below W.heap.size W W') (fun _ => trivial) rfl (fun _ _ _ _ _ h => CallsIn.inRound l (callsIn_wide.2 h)) (by kernel_rfl) (by kernel_rfl) (Below.refl _ W).drew ?_
      refine ⟨.int .i64 pre.length, .inl ⟨by rfl, fun W' hb' => .inl ⟨W', by obtain ⟨f0, f1, f4, fq, fr0, fr1⟩ := hF W' hb'; clear hF; go_simp, hb'⟩⟩, ?_⟩
      simp only [Act.put, List.setIfInBounds_toArray, List.set_cons_succ, List.set_cons_zero]
      refine ⟨.pointer (some ⟨q, 0, none⟩), .inl ⟨by rfl, fun W' hb' => .inl ⟨W', by obtain ⟨f0, f1, f4, fq, fr0, fr1⟩ := hF W' hb'; clear hF; go_simp, hb'⟩⟩, ?_⟩
      simp only [Act.put, List.setIfInBounds_toArray, List.set_cons_succ, List.set_cons_zero]
      refine ⟨.pointer (some ⟨q, 0, none⟩), .inl ⟨by rfl, fun W' hb' => .inl ⟨W', by clear hF; go_simp, hb'⟩⟩, ?_⟩
      simp only [Act.put, List.setIfInBounds_toArray, List.set_cons_succ, List.set_cons_zero]
      refine ⟨.pointer (some ⟨q, 0, none⟩), .inl ⟨by rfl, fun W' hb' => .inl ⟨W', by clear hF; go_simp, hb'⟩⟩, ?_⟩
      simp only [Act.put, List.setIfInBounds_toArray, List.set_cons_succ, List.set_cons_zero]
      refine ⟨.slice (some ⟨g, 0, none⟩) rs.length c, .inl ⟨by rfl, fun W' hb' => .inl ⟨W', by obtain ⟨f0, f1, f4, fq, fr0, fr1⟩ := hF W' hb'; clear hF; go_simp, hb'⟩⟩, ?_⟩
      simp only [Act.put, List.setIfInBounds_toArray, List.set_cons_succ, List.set_cons_zero]
      refine ⟨.int .i64 rs.length, .inl ⟨by rfl, fun W' hb' => .inl ⟨W', by clear hF; go_simp, hb'⟩⟩, ?_⟩
      simp only [Act.put, List.setIfInBounds_toArray, List.set_cons_succ, List.set_cons_zero]
      refine ⟨.bool false, .inl ⟨by rfl, fun W' hb' => .inl ⟨W', by clear hF; go_simp, hb'⟩⟩, ?_⟩
      simp only [Act.put, List.setIfInBounds_toArray, List.set_cons_succ, List.set_cons_zero]
      refine ⟨.bool false, .inl ⟨by rfl, fun W' hb' => .inl ⟨W', by clear hF; go_simp, hb'⟩⟩, ?_⟩
      simp only [Act.put, List.setIfInBounds_toArray, List.set_cons_succ, List.set_cons_zero]
      refine ⟨.pointer (some ⟨q, 0, none⟩), .inl ⟨by rfl, fun W' hb' => .inl ⟨W', by obtain ⟨f0, f1, f4, fq, fr0, fr1⟩ := hF W' hb'; clear hF; go_simp, hb'⟩⟩, ?_⟩
      simp only [Act.put, List.setIfInBounds_toArray, List.set_cons_succ, List.set_cons_zero]
      refine ⟨.pointer (some ⟨q, 0, none⟩), .inl ⟨by rfl, fun W' hb' => .inl ⟨W', by clear hF; go_simp, hb'⟩⟩, ?_⟩
      simp only [Act.put, List.setIfInBounds_toArray, List.set_cons_succ, List.set_cons_zero]
      refine ⟨.pointer (some ⟨q, 0, none⟩), .inl ⟨by rfl, fun W' hb' => .inl ⟨W', by clear hF; go_simp, hb'⟩⟩, ?_⟩
      simp only [Act.put, List.setIfInBounds_toArray, List.set_cons_succ, List.set_cons_zero]
      refine ⟨.slice (some ⟨g, 0, none⟩) rs.length c, .inl ⟨by rfl, fun W' hb' => .inl ⟨W', by obtain ⟨f0, f1, f4, fq, fr0, fr1⟩ := hF W' hb'; clear hF; go_simp, hb'⟩⟩, ?_⟩
      simp only [Act.put, List.setIfInBounds_toArray, List.set_cons_succ, List.set_cons_zero]
      refine ⟨.int .i64 pre.length, .inl ⟨by rfl, fun W' hb' => .inl ⟨W', by obtain ⟨f0, f1, f4, fq, fr0, fr1⟩ := hF W' hb'; clear hF; go_simp, hb'⟩⟩, ?_⟩
      simp only [Act.put, List.setIfInBounds_toArray, List.set_cons_succ, List.set_cons_zero]
      refine ⟨.pointer (some ⟨g, pre.length * 2, none⟩), .inl ⟨by rfl, fun W' hb' => .inl ⟨W', by clear hF; go_simp, hb'⟩⟩, ?_⟩
      simp only [Act.put, List.setIfInBounds_toArray, List.set_cons_succ, List.set_cons_zero]
      refine ⟨.agg #[.int .i64 x1, .bool x2], .inl ⟨by rfl, fun W' hb' => .inl ⟨W', by obtain ⟨f0, f1, f4, fq, fr0, fr1⟩ := hF W' hb'; clear hF; go_simp, hb'⟩⟩, ?_⟩
      simp only [Act.put, List.setIfInBounds_toArray, List.set_cons_succ, List.set_cons_zero]
      refine ⟨.int .i64 x1, .inl ⟨by rfl, fun W' hb' => .inl ⟨W', by clear hF; go_simp, hb'⟩⟩, ?_⟩
      simp only [Act.put, List.setIfInBounds_toArray, List.set_cons_succ, List.set_cons_zero]
      refine ⟨.bool x2, .inl ⟨by rfl, fun W' hb' => .inl ⟨W', by clear hF; go_simp, hb'⟩⟩, ?_⟩
      simp only [Act.put, List.setIfInBounds_toArray, List.set_cons_succ, List.set_cons_zero]
      refine ⟨.agg #[.int .i64 x1, .bool x2], .inl ⟨by rfl, fun W' hb' => .inl ⟨W', by clear hF; go_simp, hb'⟩⟩, ?_⟩
      simp only [Act.put, List.setIfInBounds_toArray, List.set_cons_succ, List.set_cons_zero]
      refine ⟨.bool false, .inl ⟨by rfl, fun W' hb' => by have hn := (neq_row (.tmp 49) (.tmp 52) x1 x1 x2 x2 W'); simp only [beq_self_eq_true, Bool.and_self, Bool.not_true] at hn; obtain ⟨n1, n2⟩ := hn; exact .inl ⟨W', by clear hF; go_simp, hb'⟩⟩, ?_⟩
      simp only [Act.put, List.setIfInBounds_toArray, List.set_cons_succ, List.set_cons_zero]
      refine ⟨.bool false, .inl ⟨by rfl, fun W' hb' => .inl ⟨W', by clear hF; go_simp, hb'⟩⟩, ?_⟩
      simp only [Act.put, List.setIfInBounds_toArray, List.set_cons_succ, List.set_cons_zero]
      refine ⟨.bool false, .inl ⟨by rfl, fun W' hb' => .inl ⟨W', by clear hF; go_simp, hb'⟩⟩, ?_⟩
      simp only [Act.put, List.setIfInBounds_toArray, List.set_cons_succ, List.set_cons_zero]
      refine ⟨.pointer (some ⟨p, 0, none⟩), .inl ⟨by rfl, fun W' hb' => .inl ⟨W', by obtain ⟨f0, f1, f4, fq, fr0, fr1⟩ := hF W' hb'; clear hF; go_simp, hb'⟩⟩, ?_⟩
      simp only [Act.put, List.setIfInBounds_toArray, List.set_cons_succ, List.set_cons_zero]
      refine ⟨.int .i64 x1, .inl ⟨by rfl, fun W' hb' => .inl ⟨W', by clear hF; go_simp, hb'⟩⟩, ?_⟩
      simp only [Act.put, List.setIfInBounds_toArray, List.set_cons_succ, List.set_cons_zero]
      refine ⟨.int .i64 pre.length, .inl ⟨by rfl, fun W' hb' => .inr (.inr ⟨15, #[.pointer (some ⟨p, 0, none⟩), .int .i64 x1], W', by clear hF; go_simp, (place_any x1 B p rs out W' (IBW.below hb') hm).mono (by rintro e W4 ⟨rfl, hb4⟩; rw [HID.out]; exact ⟨rfl, hb'.trans (hb4.mono hb'.size)⟩)⟩)⟩, ?_⟩
      simp only [Act.put, List.setIfInBounds_toArray, List.set_cons_succ, List.set_cons_zero]
      refine ⟨.int .i64 pre.length, .inl ⟨by rfl, fun W' hb' => .inl ⟨W', by obtain ⟨f0, f1, f4, fq, fr0, fr1⟩ := hF W' hb'; clear hF; go_simp, hb'⟩⟩, ?_⟩
      simp only [Act.put, List.setIfInBounds_toArray, List.set_cons_succ, List.set_cons_zero]
      refine ⟨.bool false, .inl ⟨by rfl, fun W' hb' => .inl ⟨W', by clear hF; go_simp, hb'⟩⟩, ?_⟩
      simp only [Act.put, List.setIfInBounds_toArray, List.set_cons_succ, List.set_cons_zero]
      refine ⟨.bool false, .inl ⟨by rfl, fun W' hb' => .inl ⟨W', by clear hF; go_simp, hb'⟩⟩, ?_⟩
      simp only [Act.put, List.setIfInBounds_toArray, List.set_cons_succ, List.set_cons_zero]
      simp only [HeldAll]
      intro W4 hb4
      have h44 := (hb4.cell (p := ⟨w.heap.size + 1 + 1 + 1 + 1, 0, none⟩) (World.block_lt_of_cell? W _ h4)).trans h4
      have h44f := (hb4.frozen (p := ⟨w.heap.size + 1 + 1 + 1 + 1, 0, none⟩) (World.block_lt_of_cell? W _ h4)).trans h4f
      have h24 := (hb4.cell (p := ⟨w.heap.size + 1 + 1, 0, none⟩) (World.block_lt_of_cell? W _ h2)).trans h2
      have h24f := (hb4.frozen (p := ⟨w.heap.size + 1 + 1, 0, none⟩) (World.block_lt_of_cell? W _ h2)).trans h2f
      obtain ⟨f0, f1, _⟩ := hF W4 hb4
      clear hF h4 h4f h2 h2f
      gi_wp2
      refine ⟨(keeps_of_below hb4).trans (KeepsOthers.setCell _ _ _), (hb4.mono hB.size).setCell (p := ⟨w.heap.size + 1 + 1 + 1 + 1, 0, none⟩) (by simp; omega) _, ⟨HX.out, ?_, ?_, ?_, ?_, ?_, ?_⟩, (hB.trans (hb4.mono hB.size)).setCell (p := ⟨w.heap.size + 1 + 1 + 1 + 1, 0, none⟩) (by simp; omega) _⟩
      · rw [World.cell?_setCell_other _ _ _ _ (by intro e; injection e with e; omega)]; exact f0
      · rw [World.cell?_setCell_other _ _ _ _ (by intro e; injection e with e; omega)]; exact f1
      · rw [World.cell?_setCell_other _ _ _ _ (by intro e; injection e with e; omega)]; exact h24
      · rw [World.frozen?_setCell]; exact h24f
      · rw [World.cell?_setCell_same' _ _ _ (by rw [h44]; rfl)]; simp
      · rw [World.frozen?_setCell]; exact h44f
    · have hpx : ¬ (pre ++ [x] <+: rs) := by
        intro h
        rw [List.prefix_iff_eq_take, List.length_append, List.length_singleton, List.take_succ_eq_append_getElem hlt, ← hpl.out] at h
        exact hxr (by simpa using h)
      have HX := Lib.hid hpx
      have hne : (!((rs[pre.length].1 == x.1) && (rs[pre.length].2 == x.2))) = true := by
        rw [Bool.not_eq_true', Bool.eq_false_iff]
        intro h
        simp at h
        exact hxr (Prod.ext h.1.symm h.2.symm)
      obtain ⟨o1, ho1⟩ : ∃ o1, rs[pre.length].1 = o1 := ⟨_, rfl⟩
      obtain ⟨o2, ho2⟩ : ∃ o2, rs[pre.length].2 = o2 := ⟨_, rfl⟩
      rw [ho1, ho2] at hne
      rw [ho1] at r0
      rw [ho2] at r1
      obtain ⟨x1, x2⟩ := x
      simp only at hne
      clear hxr hpx ho1 ho2
      gi_wp2_with fail
      have hF : ∀ W', Below W.heap.size W W' → W'.cell? ⟨w.heap.size, 0, none⟩ = some (.pointer (some ⟨p, 0, none⟩)) ∧ W'.cell? ⟨w.heap.size + 1, 0, none⟩ = some (.pointer (some ⟨q, 0, none⟩)) ∧ W'.cell? ⟨w.heap.size + 1 + 1 + 1 + 1, 0, none⟩ = some (.int .i64 pre.length) ∧
          W'.cell? ⟨q, 0, none⟩ = some (.slice (some ⟨g, 0, none⟩) rs.length c) ∧ W'.cell? ⟨g, pre.length * 2, none⟩ = some (.int .i64 o1) ∧ W'.cell? ⟨g, pre.length * 2 + 1, none⟩ = some (.bool o2) := by
        intro W' hb'
        exact ⟨(hb'.cell (p := ⟨w.heap.size, 0, none⟩) (World.block_lt_of_cell? W _ h0)).trans h0, (hb'.cell (p := ⟨w.heap.size + 1, 0, none⟩) (World.block_lt_of_cell? W _ h1)).trans h1, (hb'.cell (p := ⟨w.heap.size + 1 + 1 + 1 + 1, 0, none⟩) (World.block_lt_of_cell? W _ h4)).trans h4,
          (hb'.cell (p := ⟨q, 0, none⟩) (World.block_lt_of_cell? W _ q0)).trans q0, (hb'.cell (p := ⟨g, pre.length * 2, none⟩) (World.block_lt_of_cell? W _ r0)).trans r0, (hb'.cell (p := ⟨g, pre.length * 2 + 1, none⟩) (World.block_lt_of_cell? W _ r1)).trans r1⟩
      clear h0 h1 r0 r1 q0
      refine wpIn_region_held (fun W' => Below W.heap.size W W') (fun _ => trivial) rfl (fun _ _ _ _ _ h => CallsIn.inRound l (callsIn_wide.2 h)) (by kernel_rfl) (by kernel_rfl) (Below.refl _ W).drew ?_
      refine ⟨.int .i64 pre.length, .inl ⟨by rfl, fun W' hb' => .inl ⟨W', by obtain ⟨f0, f1, f4, fq, fr0, fr1⟩ := hF W' hb'; clear hF; go_simp, hb'⟩⟩, ?_⟩
      simp only [Act.put, List.setIfInBounds_toArray, List.set_cons_succ, List.set_cons_zero]
      refine ⟨.pointer (some ⟨q, 0, none⟩), .inl ⟨by rfl, fun W' hb' => .inl ⟨W', by obtain ⟨f0, f1, f4, fq, fr0, fr1⟩ := hF W' hb'; clear hF; go_simp, hb'⟩⟩, ?_⟩
      simp only [Act.put, List.setIfInBounds_toArray, List.set_cons_succ, List.set_cons_zero]
      refine ⟨.pointer (some ⟨q, 0, none⟩), .inl ⟨by rfl, fun W' hb' => .inl ⟨W', by clear hF; go_simp, hb'⟩⟩, ?_⟩
      simp only [Act.put, List.setIfInBounds_toArray, List.set_cons_succ, List.set_cons_zero]
      refine ⟨.pointer (some ⟨q, 0, none⟩), .inl ⟨by rfl, fun W' hb' => .inl ⟨W', by clear hF; go_simp, hb'⟩⟩, ?_⟩
      simp only [Act.put, List.setIfInBounds_toArray, List.set_cons_succ, List.set_cons_zero]
      refine ⟨.slice (some ⟨g, 0, none⟩) rs.length c, .inl ⟨by rfl, fun W' hb' => .inl ⟨W', by obtain ⟨f0, f1, f4, fq, fr0, fr1⟩ := hF W' hb'; clear hF; go_simp, hb'⟩⟩, ?_⟩
      simp only [Act.put, List.setIfInBounds_toArray, List.set_cons_succ, List.set_cons_zero]
      refine ⟨.int .i64 rs.length, .inl ⟨by rfl, fun W' hb' => .inl ⟨W', by clear hF; go_simp, hb'⟩⟩, ?_⟩
      simp only [Act.put, List.setIfInBounds_toArray, List.set_cons_succ, List.set_cons_zero]
      refine ⟨.bool false, .inl ⟨by rfl, fun W' hb' => .inl ⟨W', by clear hF; go_simp, hb'⟩⟩, ?_⟩
      simp only [Act.put, List.setIfInBounds_toArray, List.set_cons_succ, List.set_cons_zero]
      refine ⟨.bool false, .inl ⟨by rfl, fun W' hb' => .inl ⟨W', by clear hF; go_simp, hb'⟩⟩, ?_⟩
      simp only [Act.put, List.setIfInBounds_toArray, List.set_cons_succ, List.set_cons_zero]
      refine ⟨.pointer (some ⟨q, 0, none⟩), .inl ⟨by rfl, fun W' hb' => .inl ⟨W', by obtain ⟨f0, f1, f4, fq, fr0, fr1⟩ := hF W' hb'; clear hF; go_simp, hb'⟩⟩, ?_⟩
      simp only [Act.put, List.setIfInBounds_toArray, List.set_cons_succ, List.set_cons_zero]
      refine ⟨.pointer (some ⟨q, 0, none⟩), .inl ⟨by rfl, fun W' hb' => .inl ⟨W', by clear hF; go_simp, hb'⟩⟩, ?_⟩
      simp only [Act.put, List.setIfInBounds_toArray, List.set_cons_succ, List.set_cons_zero]
      refine ⟨.pointer (some ⟨q, 0, none⟩), .inl ⟨by rfl, fun W' hb' => .inl ⟨W', by clear hF; go_simp, hb'⟩⟩, ?_⟩
      simp only [Act.put, List.setIfInBounds_toArray, List.set_cons_succ, List.set_cons_zero]
      refine ⟨.slice (some ⟨g, 0, none⟩) rs.length c, .inl ⟨by rfl, fun W' hb' => .inl ⟨W', by obtain ⟨f0, f1, f4, fq, fr0, fr1⟩ := hF W' hb'; clear hF; go_simp, hb'⟩⟩, ?_⟩
      simp only [Act.put, List.setIfInBounds_toArray, List.set_cons_succ, List.set_cons_zero]
      refine ⟨.int .i64 pre.length, .inl ⟨by rfl, fun W' hb' => .inl ⟨W', by obtain ⟨f0, f1, f4, fq, fr0, fr1⟩ := hF W' hb'; clear hF; go_simp, hb'⟩⟩, ?_⟩
      simp only [Act.put, List.setIfInBounds_toArray, List.set_cons_succ, List.set_cons_zero]
      refine ⟨.pointer (some ⟨g, pre.length * 2, none⟩), .inl ⟨by rfl, fun W' hb' => .inl ⟨W', by clear hF; go_simp, hb'⟩⟩, ?_⟩
      simp only [Act.put, List.setIfInBounds_toArray, List.set_cons_succ, List.set_cons_zero]
      refine ⟨.agg #[.int .i64 o1, .bool o2], .inl ⟨by rfl, fun W' hb' => .inl ⟨W', by obtain ⟨f0, f1, f4, fq, fr0, fr1⟩ := hF W' hb'; clear hF; go_simp, hb'⟩⟩, ?_⟩
      simp only [Act.put, List.setIfInBounds_toArray, List.set_cons_succ, List.set_cons_zero]
      refine ⟨.int .i64 x1, .inl ⟨by rfl, fun W' hb' => .inl ⟨W', by clear hF; go_simp, hb'⟩⟩, ?_⟩
      simp only [Act.put, List.setIfInBounds_toArray, List.set_cons_succ, List.set_cons_zero]
      refine ⟨.bool x2, .inl ⟨by rfl, fun W' hb' => .inl ⟨W', by clear hF; go_simp, hb'⟩⟩, ?_⟩
      simp only [Act.put, List.setIfInBounds_toArray, List.set_cons_succ, List.set_cons_zero]
      refine ⟨.agg #[.int .i64 x1, .bool x2], .inl ⟨by rfl, fun W' hb' => .inl ⟨W', by clear hF; go_simp, hb'⟩⟩, ?_⟩
      simp only [Act.put, List.setIfInBounds_toArray, List.set_cons_succ, List.set_cons_zero]
      refine ⟨.bool true, .inl ⟨by rfl, fun W' hb' => by have hn := (neq_row (.tmp 49) (.tmp 52) o1 x1 o2 x2 W'); obtain ⟨n1, n2⟩ := hn; rw [hne] at n2; exact .inl ⟨W', by clear hF; go_simp; intro e1 e2; simp [e1, e2] at hne, hb'⟩⟩, ?_⟩
      simp only [Act.put, List.setIfInBounds_toArray, List.set_cons_succ, List.set_cons_zero]
      refine ⟨.bool true, .inl ⟨by rfl, fun W' hb' => .inl ⟨W', by clear hF; go_simp, hb'⟩⟩, ?_⟩
      simp only [Act.put, List.setIfInBounds_toArray, List.set_cons_succ, List.set_cons_zero]
      refine ⟨.bool true, .inl ⟨by rfl, fun W' hb' => .inl ⟨W', by clear hF; go_simp, hb'⟩⟩, ?_⟩
      simp only [Act.put, List.setIfInBounds_toArray, List.set_cons_succ, List.set_cons_zero]
      refine ⟨undef, .inr ⟨by rfl, rfl⟩, ?_⟩
      simp only [Act.put, List.setIfInBounds_toArray, List.set_cons_succ, List.set_cons_zero]
      refine ⟨undef, .inr ⟨by rfl, rfl⟩, ?_⟩
      simp only [Act.put, List.setIfInBounds_toArray, List.set_cons_succ, List.set_cons_zero]
      refine ⟨undef, .inr ⟨by rfl, rfl⟩, ?_⟩
      simp only [Act.put, List.setIfInBounds_toArray, List.set_cons_succ, List.set_cons_zero]
      refine ⟨undef, .inr ⟨by rfl, rfl⟩, ?_⟩
      simp only [Act.put, List.setIfInBounds_toArray, List.set_cons_succ, List.set_cons_zero]
      refine ⟨undef, .inr ⟨by rfl, rfl⟩, ?_⟩
      simp only [Act.put, List.setIfInBounds_toArray, List.set_cons_succ, List.set_cons_zero]
      refine ⟨.bool true, .inl ⟨by rfl, fun W' hb' => .inl ⟨W', by clear hF; go_simp, hb'⟩⟩, ?_⟩
      simp only [Act.put, List.setIfInBounds_toArray, List.set_cons_succ, List.set_cons_zero]
      simp only [HeldAll]
      intro W4 hb4
      have h44 := (hb4.cell (p := ⟨w.heap.size + 1 + 1 + 1 + 1, 0, none⟩) (World.block_lt_of_cell? W _ h4)).trans h4
      have h44f := (hb4.frozen (p := ⟨w.heap.size + 1 + 1 + 1 + 1, 0, none⟩) (World.block_lt_of_cell? W _ h4)).trans h4f
      have h24 := (hb4.cell (p := ⟨w.heap.size + 1 + 1, 0, none⟩) (World.block_lt_of_cell? W _ h2)).trans h2
      have h24f := (hb4.frozen (p := ⟨w.heap.size + 1 + 1, 0, none⟩) (World.block_lt_of_cell? W _ h2)).trans h2f
      obtain ⟨f0, f1, _⟩ := hF W4 hb4
      clear hF h4 h4f h2 h2f
      gi_wp2
      exact ⟨(keeps_of_below hb4).trans (KeepsOthers.setCell _ _ _), rfl, HX.out⟩
  case done =>
    rintro D ys W3 hD rfl ⟨⟨hpre, h0, h1, h2, h2f, h4, h4f⟩, hB⟩ hK
    have IX3 := hx.below hB
    obtain ⟨_, vw, hqw, how⟩ := IX3
    obtain ⟨A3, c3, rfl, _, _, _, _⟩ := own_slice how
    have q0 := cell_at hqw 0
    have e3 : ((ys.length : Int) == (ys.length : Int)) = true := by simp
    clear hqw how hpre
    go_wp2_with fail
    go_region
    all_goals go_wp2
    have hK' := (KeepsOthers.setCell W3.drew ⟨w.heap.size + 1 + 1, 0, none⟩ (.bool true)).same D _ hK rfl
    refine ⟨by simp, .inl ⟨_, _, rfl, run_takeDeferred hK', ?_⟩⟩
    have hc6 : ((W3.setCell ⟨w.heap.size + 1 + 1, 0, none⟩ (.bool true)).drew.putObj D (.deferred none)).cell? ⟨w.heap.size + 1 + 1, 0, none⟩ = some (.bool true) := cell_kept (World.cell?_setCell_same' W3.drew ⟨w.heap.size + 1 + 1, 0, none⟩ (.bool true) (by show (W3.cell? _).isSome = true; rw [h2]; rfl)) (grownBy_putObj' _ D (.deferred none)) (fun r e => by cases e; exact ⟨_, hK', rfl⟩)
    refine ⟨.bool true, ?_, rfl, (hB.drew.setCell (p := ⟨w.heap.size + 1 + 1, 0, none⟩) (by simp; omega) _).trans (belowK_b (w := w) (Nat.le_refl _) _ D _ _ (by omega) hK' rfl rfl)⟩
    simp [results, Try.f24, go_sem, hc6]

end Go.Proofs.Ytglfbihdbdcgiaa
