/- items.Meet and items.Rest. -/
import Derived.Test.YtlcnkicmepcppaaIOf
namespace Go.Proofs.Ytlcnkicmepcppaa
open Go.RowKit Go.Shelf
attribute [local go_sem] Oper.semAt_some

theorem wpListIn_append_rd {F : Fence} {n : Nat} {P : Program} (w : World) {ops : Array Oper} {rest : List Oper} {o : Oper} {a : Act} {Q : Exit → Act → World → Prop}
    (hg : o.guard = none) (s x : Operand) (t : TypeId) (hop : o.op = Op.call { callee := Callee.builtin Builtin.append, args := #[s, x], argTypes := #[t, t] })
    (base : Nat) (e : TypeId) (i : TypeInfo) (z : Value) (size bytes : Nat) (h1 : P.underlying t = some (.slice e)) (h2 : P.info? e = some i) (h3 : i.zero = some z) (h4 : i.size = size) (h5 : i.bytes = bytes) (h6 : z.cells.size = size) (h7 : 0 < size)
    (v : Value) (k : Nat) (xs : List Value) (hs : a.eval s = v) (hown : w.ownsRow base e size v k xs) (A : Option Addr) (m c : Nat) (news : List Value) (hx : a.eval x = .slice A m c) (hr : Rd w size A m news) (h1c : ∀ u ∈ news, u.oneCell' = true) (b1 : k + m ≤ maxLen) (b2 : (k + m) * bytes ≤ 140737488355328) (b3 : base ≤ w.heap.size)
    (hK : ∀ v' w', w'.ownsRow base e size v' (k + m) (xs ++ news) → w.grownBy w' v.ownBlock → wpListIn F n P ops Q rest (a.put o.dst v') w') :
    wpListIn F n P ops Q (o :: rest) a w := by
  refine wpListIn_plain hg fun K hK' => ?_
  obtain ⟨v', w', hrun, r1, r2, _⟩ := run_append_rd (P := P) w base t o.type e i z size bytes h1 h2 h3 h4 h5 h6 h7 v k xs hown A m c news hr h1c b1 b2 b3
  unfold Oper.wpIn
  refine ⟨?_, ?_⟩
  · simp [Oper.about, hop, resolve, Target.leads, Sem.run_pure]
  · rw [Oper.semAt_plain F _ _ (by rw [hop]; intro c hc'; cases hc')]
    simp [execOp, hop, resolve, invoke, builtin, hs, hx, hrun, Result.andThen]
    exact hK' _ _ (hK v' w' r1 r2)
theorem Try.infoItem : (Try.prog.info? 40).map (fun i => (i.zero, i.size, i.bytes)) = some (some (.agg #[.string ByteArray.empty, .int .i64 0]), 2, 24) := by kernel_rfl

theorem rd_one {W : World} {g : Nat} {gd : ByteArray} {k : Int} (h : W.heap[g]? = some (.cells #[.string gd, .int .i64 k] 40 (0, 0))) : Rd W 2 (some ⟨g, 0, none⟩) 1 (encI ⟨gd, k⟩) :=
  ⟨rfl, fun _ => ⟨_, _, rfl, lt_of_block h, fun j u hu => by
    match j, hu with
    | 0, hu => simp [encI] at hu; subst hu; rw [cell_at h]; rfl
    | 1, hu => simp [encI] at hu; subst hu; rw [cell_at h]; rfl
    | j + 2, hu => simp [encI] at hu⟩⟩
def meetF (n o : Int) : Int := if n ≤ o then n else o
def restF (n o : Int) : Int := wrap64 (n - o)
theorem meetF_any (n o : Int) (w : World) : Calls Try.prog 39 #[.int .i64 n, .int .i64 o] w fun e w' => e = .returned (.int .i64 (meetF n o)) ∧ w = w' := by
  go_enter Try.func39, Try.ntmps39
  go_wp2
  all_goals
    go_ret
    exact ⟨ret_int (by unfold meetF; split <;> omega), rfl⟩
theorem restF_any (n o : Int) (w : World) : Calls Try.prog 40 #[.int .i64 n, .int .i64 o] w fun e w' => e = .returned (.int .i64 (restF n o)) ∧ w = w' := by
  go_enter Try.func40, Try.ntmps40
  go_wp2
  go_ret
  exact ⟨rfl, rfl⟩
/-- What may be made of each: nothing where a list may not be. -/
def eachR (f : Int → Int → Int) (a b : List It) : List It := if mayI a && mayI b then eachI f b a else []
theorem eachI_len (f : Int → Int → Int) (b : List It) : ∀ l : List It, (eachI f b l).length ≤ l.length
  | [] => Nat.le_refl _
  | x :: l => by
    have := eachI_len f b l
    simp only [eachI]
    split
    · simp; omega
    · simp; omega
theorem eachI_congr {f g : Int → Int → Int} {b : List It} : ∀ {l : List It}, (∀ x ∈ l, f x.n (ofI b x.good) = g x.n (ofI b x.good)) → eachI f b l = eachI g b l
  | [], _ => rfl
  | x :: l, h => by
    simp only [eachI]
    rw [h x (by simp), eachI_congr (l := l) fun y hy => h y (by simp [hy])]
/-- Between two rounds. -/
def EachJ (f : Int → Int → Int) (w : World) (N7 : Nat) (F : FuncId) (B : Option Addr) (nb cb : Nat) (b : List It) (pre : List BIt) (W : World) : Prop :=
  (W.heap[w.heap.size]? = some (.cells #[.slice B nb cb] 26 (0, 0)) ∧ W.heap[w.heap.size + 1]? = some (.cells #[.func (.func F) #[] #[]] 55 (0, 0)) ∧ w.heap.size + 1 < N7 ∧ N7 < W.heap.size ∧
    ∃ v, W.heap[N7]? = some (.cells #[v] 26 (0, 0)) ∧ W.ownsRow w.heap.size 40 2 v (eachI f b (pre.map (·.1))).length ((eachI f b (pre.map (·.1))).flatMap encI)) ∧ Below w.heap.size w W
theorem own_grown {w w' : World} {row : Option Nat} {base : Nat} {e : TypeId} {size n : Nat} {v : Value} {xs : List Value} (ho : w.ownsRow base e size v n xs) (hg : w.grownBy w' row) (hr : ∀ r, row = some r → ∃ o : Obj, w.heap[r]? = some o ∧ o.isCells = false) : w'.ownsRow base e size v n xs := by
  refine ho.kept hg ?_
  rcases ho.2 with ⟨rfl, _⟩ | ⟨g, cap, cur, rfl, _, hgb, _⟩
  · exact .inl rfl
  · refine .inr fun e' => ?_
    obtain ⟨o, h1, h2⟩ := hr g (by rw [← e']; simp [Value.ownBlock])
    rw [hgb] at h1
    injection h1 with h1
    subst h1
    simp [Obj.isCells] at h2
theorem eachJ_own {f : Int → Int → Int} {w : World} {N7 : Nat} {F : FuncId} {Bd : Option Addr} {nb cb : Nat} {b : List It} {B : Nat} (hB : w.heap.size ≤ B) : OwnFrom B (EachJ f w N7 F Bd nb cb b) := by
  rintro pre W W' row ⟨⟨h1, h2, h3, h4, v, h5, h6⟩, hb⟩ hg hr
  have hr' : ∀ r, row = some r → ∃ o : Obj, W.heap[r]? = some o ∧ o.isCells = false := fun r e => (hr r e).2
  exact ⟨⟨block_own h1 hg hr', block_own h2 hg hr', h3, Nat.lt_of_lt_of_le h4 hg.size, v, block_own h5 hg hr', own_grown h6 hg hr'⟩, hb.grown hg hb.size (fun k e => Nat.le_trans hB (hr k e).1)⟩
/-- What a call that makes a list of items leaves. -/
def RetI (w : World) (l : List It) (e : Ending) (W : World) : Prop := ∃ v, e = .returned v ∧ W.ownsRow w.heap.size 40 2 v l.length (l.flatMap encI) ∧ Below w.heap.size w W

set_option maxRecDepth 100000 in
set_option maxHeartbeats 2000000 in
theorem each_meet (A : Option Addr) (c : Nat) (rs : List It) (B : Option Addr) (cb : Nat) (b : List It) (w : World) (hr : Rd w 2 A rs.length (rs.flatMap encI)) (hd : ∀ z ∈ rs, BdIt z) (hm : rs.length ≤ 4611686018427387903)
    (hrb : Rd w 2 B b.length (b.flatMap encI)) (hdb : ∀ z ∈ b, BdIt z) (hmb : b.length ≤ 4611686018427387903) :
    Calls Try.prog 38 #[.slice A rs.length c, .slice B b.length cb, .func (.func 39) #[] #[]] w (RetI w (eachR meetF rs b)) := by
  obtain ⟨qs, hq⟩ := bits_of hd
  obtain ⟨i1, hi1, hy0, hy1, hy2⟩ := info_parts Try.infoItem
  refine (callsIn_wide (n := 9)).1 ?_
  refine callsIn_of_wp_marks Try.func38 rfl trivial ?_ rfl
  simp only [Try.ntmps38, List.size_toArray, List.length_cons, List.length_nil, Nat.reduceAdd, Nat.reduceSub, Array.replicate_succ, Array.replicate_zero, List.push_toArray, List.append_toArray, List.nil_append, List.cons_append]
  refine wpIn_wide.2 ?_
  have HQ := Lib.hid hq
  have HRA := Lib.hid hr
  have HRB := Lib.hid hrb
  have HDA := Lib.hid hd
  have HDB := Lib.hid hdb
  clear hq hr hrb hd hdb
  obtain ⟨s0, hs0⟩ : ∃ s0, w.heap.size = s0 := ⟨_, rfl⟩
  have hB1 := ((Below.refl _ w).alloc (Nat.le_refl _) (.cells #[.slice B b.length cb] 26)).alloc (by simp) (.cells #[.func (.func 39) #[] #[]] 55)
  have b0 := block_alloc (block_new w (.cells #[.slice B b.length cb] 26)) (.cells #[.func (.func 39) #[] #[]] 55)
  have b1 := block_new (w.alloc (.cells #[.slice B b.length cb] 26)) (.cells #[.func (.func 39) #[] #[]] 55)
  simp only [World.size_alloc] at b1
  obtain ⟨W1, hW1⟩ : ∃ W1, (w.alloc (.cells #[.slice B b.length cb] 26)).alloc (.cells #[.func (.func 39) #[] #[]] 55) = W1 := ⟨_, rfl⟩
  rw [hW1] at hB1 b0 b1
  have HW1 := Lib.hid hW1
  have HB1 := Lib.hid hB1
  have H0 := Lib.hid b0
  have H1 := Lib.hid b1
  clear hB1 b0 b1 hW1 hs0
  obtain ⟨MA, hMA⟩ : ∃ MA, mayI rs = MA := ⟨_, rfl⟩
  obtain ⟨MB, hMB⟩ : ∃ MB, mayI b = MB := ⟨_, rfl⟩
  have HMA := Lib.hid hMA
  have HMB := Lib.hid hMB
  have hca := imay_any A c rs W1 (HRA.out.below HB1.out) HDA.out hm
  rw [hMA] at hca
  have HCA := Lib.hid hca
  have hcb := fun (W : World) (h : Below W1.heap.size W1 W) => imay_any B cb b W (HRB.out.below (HB1.out.trans (h.mono HB1.out.size))) HDB.out hmb
  rw [hMB] at hcb
  have HCB := Lib.hid hcb
  clear hMA hMB hca hcb
  go_wp2_with fail
  rw [HW1.out]
  refine HCA.out.mono ?_
  rintro e W2 ⟨rfl, hb2⟩
  have HB2 := Lib.hid hb2
  have g0 := (hb2.block _ (lt_of_block H0.out)).trans H0.out
  have x0 : W2.cell? ⟨w.heap.size, 0, none⟩ = some (.slice B b.length cb) := by rw [cell_at g0]; rfl
  have HG0 := Lib.hid g0
  have HG1 := Lib.hid ((hb2.block _ (lt_of_block H1.out)).trans H1.out)
  clear hb2 g0 HCA HW1 H0 H1
  cases MA
  · have hT : Below w.heap.size w W2 := HB1.out.trans (HB2.out.mono HB1.out.size)
    have HT := Lib.hid hT
    clear hT x0
    go_wp2
    refine ⟨.slice none 0 0, by simp [results, Try.f38, go_sem], _, rfl, by rw [show eachR meetF rs b = [] by unfold eachR; rw [HMA.out]; rfl]; exact World.ownsRow_nil _ _ _ _, HT.out⟩
  · go_wp2_with fail
    refine (HCB.out W2 HB2.out).mono ?_
    rintro e W3 ⟨rfl, hb3⟩
    have HB3 := Lib.hid (HB1.out.trans ((HB2.out.trans (hb3.mono HB2.out.size)).mono HB1.out.size))
    have HG0 := Lib.hid ((hb3.block _ (lt_of_block HG0.out)).trans HG0.out)
    have HG1 := Lib.hid ((hb3.block _ (lt_of_block HG1.out)).trans HG1.out)
    clear hb3 HCB x0 HB2
    cases MB
    · go_wp2
      refine ⟨.slice none 0 0, by simp [results, Try.f38, go_sem], _, rfl, by rw [show eachR meetF rs b = [] by unfold eachR; rw [HMA.out, HMB.out]; rfl]; exact World.ownsRow_nil _ _ _ _, HB3.out⟩
    · have HER : Hid (eachR meetF rs b = eachI meetF b rs) := Lib.hid (by unfold eachR; rw [HMA.out, HMB.out]; rfl)
      obtain ⟨hlen, hok⟩ := mayI_at HMA.out
      obtain ⟨hlenb, hokb⟩ := mayI_at HMB.out
      have HNB : Hid (∀ x ∈ b, 1 ≤ x.n ∧ x.n ≤ 1099511627776) := Lib.hid (fun x hx => by
        obtain ⟨k, hk, rfl⟩ := List.getElem_of_mem hx
        exact (okItem_iff.1 (okAt_item hk (hokb k hk))).2)
      have hb4 := HB3.out.alloc HB3.out.size (.cells #[.slice none 0 0] 26)
      have n7 := block_new W3 (.cells #[.slice none 0 0] 26)
      have k0 := block_alloc HG0.out (.cells #[.slice none 0 0] 26)
      have k1 := block_alloc HG1.out (.cells #[.slice none 0 0] 26)
      have hlt7 : w.heap.size + 1 < W3.heap.size := lt_of_block HG1.out
      obtain ⟨N7, hN7⟩ : ∃ N7, W3.heap.size = N7 := ⟨_, rfl⟩
      obtain ⟨W4, hW4⟩ : ∃ W4, W3.alloc (.cells #[.slice none 0 0] 26) = W4 := ⟨_, rfl⟩
      have hs4 : W4.heap.size = N7 + 1 := by rw [← hW4]; simp [hN7]
      have HW4 := Lib.hid hW4
      have HN7 := Lib.hid hN7
      rw [hW4] at hb4 n7 k0 k1
      rw [hN7] at n7 hlt7
      clear hok hokb hW4 hN7 HG0 HG1
      go_wp2_with fail
      rw [HW4.out, HN7.out]
      refine (all_any _ _ _ _).mono ?_
      rintro e w5 ⟨rfl, hw5⟩
      have hb5 := hb4.alloc hb4.size (.cells #[.slice A rs.length c] 26)
      have m7 := block_alloc n7 (.cells #[.slice A rs.length c] 26)
      have m0 := block_alloc k0 (.cells #[.slice A rs.length c] 26)
      have m1 := block_alloc k1 (.cells #[.slice A rs.length c] 26)
      have m8 := block_new W4 (.cells #[.slice A rs.length c] 26)
      rw [hs4] at m8 ⊢
      rw [hw5] at hb5 m7 m0 m1 m8
      have hsz1 : w.heap.size ≤ w5.heap.size := hb5.size
      have hs7 : N7 < w5.heap.size := lt_of_block m7
      have HRD := Lib.hid (HRA.out.below hb5)
      have hA : ∀ a, A = some a → 0 < rs.length → a.block < w.heap.size := fun a ha hp => by
        obtain ⟨g, o', e, hg, _⟩ := HRA.out.2 hp
        rw [e] at ha
        cases ha
        exact hg
      clear hw5 hb4 n7 k0 k1 hs4 HW4 HN7
      go_wp2_with fail
      refine (wpIn_wide (n := 9)).1 ?_
      refine wpIn_rangeFunc_ownF rfl (by omega) (gf := 51) (lb := #[.pointer (some ⟨N7 + 1, 0, none⟩)]) rfl trivial (enters_of Try.func51 (by kernel_rfl) rfl)
        (all_iter _ w.heap.size (N7 + 1) A c rs qs HQ.out w5 (by rw [cell_at m8]; rfl) HRD.out hm (by omega) hA) belowK_t (belowK_b hsz1) (Below.refl _ _) (fun _ => rfl)
        (EachJ meetF w N7 39 B b.length cb b) (fun _ _ _ => False) (eachJ_own hsz1) (fun _ _ _ _ _ hs _ _ => hs)
        ⟨⟨m0, m1, hlt7, hs7, .slice none 0 0, m7, World.ownsRow_nil _ _ _ _⟩, hb5⟩
        (fun x => { tmps := #[.slice A rs.length c, .slice B b.length cb, .func (.func 39) #[] #[], undef, .pointer (some ⟨w.heap.size, 0, none⟩), .pointer (some ⟨w.heap.size + 1, 0, none⟩), .slice none 0 0, .pointer (some ⟨N7, 0, none⟩), .string x.1.good, .int .i64 x.1.n, undef, .slice A rs.length c, .bool true, .bool false, .bool false, .slice B b.length cb, .bool true, .bool false, .bool false, .slice A rs.length c, .func (.func 51) #[] #[.pointer (some ⟨N7 + 1, 0, none⟩)], .string x.1.good, .int .i64 x.1.n, undef, undef, undef, undef, undef, undef, undef, undef, undef, undef, undef, undef, undef, undef, undef], defers := [] }) ?assign ?body ?done ?stop
      case assign =>
        intro l x W K hK
        dsimp only [encRowI]
        gi_wp2
        exact hK
      case stop =>
        rintro D c pre W9 hD hpre hf _
        exact hf.elim
      case done =>
        rintro D xs W9 hD rfl ⟨⟨_, _, _, h7, u, h8, h9⟩, hB⟩ hK
        rw [HQ.out] at h9
        obtain ⟨Au, cu, rfl, _, _, _, _⟩ := own_slice h9
        have q1 := cell_at h8 0
        have HB := Lib.hid hB
        have H9 := Lib.hid h9
        clear h8 h9 hB m7 m0 m1 m8 hb5
        go_wp2
        refine ⟨by simp, .inl ⟨_, _, rfl, run_takeDeferred hK, ?_⟩⟩
        refine ⟨.slice Au (eachI meetF b rs).length cu, by simp [results, Try.f38, go_sem], _, rfl, ?_, HB.out.trans (belowK_b (w := w) (Nat.le_refl _) W9 D _ _ (by omega) hK rfl rfl)⟩
        rw [HER.out]
        exact ownsRow_putObj H9.out (.deferred none) hK rfl
      case body =>
        rintro l pre x W hJ hlt
        have HJ := Lib.hid hJ
        obtain ⟨⟨h0, h1, _, h7, u, h8, h9⟩, hB⟩ := hJ
        obtain ⟨Au, cu, rfl, hu1, hu2, _, _⟩ := own_slice h9
        obtain ⟨nu, hnu⟩ : ∃ nu, (eachI meetF b (pre.map (·.1))).length = nu := ⟨_, rfl⟩
        have hnl : nu ≤ 16 := by
          have h1 := eachI_len meetF b (pre.map (·.1))
          have h2 : (pre.map (·.1)).length = pre.length := List.length_map _
          rw [hnu, h2] at h1
          omega
        have HNU := Lib.hid hnu
        have hsn : eachI meetF b ((pre ++ [x]).map (·.1)) = if 0 < meetF x.1.n (ofI b x.1.good) then eachI meetF b (pre.map (·.1)) ++ [⟨x.1.good, meetF x.1.n (ofI b x.1.good)⟩] else eachI meetF b (pre.map (·.1)) := by
          rw [List.map_append, List.map_cons, List.map_nil, eachI_snoc]
        have HSN := Lib.hid hsn
        rw [hnu] at h8 h9
        have H0 := Lib.hid h0
        have H1 := Lib.hid h1
        have H8 := Lib.hid h8
        have H9 := Lib.hid h9
        have HBW := Lib.hid hB
        have HRB2 := Lib.hid (HRB.out.below hB)
        have hNe0 : N7 ≠ w.heap.size := by omega
        have hNe1 : N7 ≠ w.heap.size + 1 := by omega
        have hNl : w.heap.size ≤ N7 := by omega
        obtain ⟨ov, hov⟩ : ∃ ov, ofI b x.1.good = ov := ⟨_, rfl⟩
        rw [hov] at HSN
        have HOF : Hid (∀ W', Below W.heap.size W W' → Calls Try.prog 49 #[.slice B b.length cb, .string x.1.good] W' fun e w' => e = .returned (.int .i64 ov) ∧ Below W'.heap.size W' w') := Lib.hid (fun W' h => hov ▸ of_any B cb b x.1.good W' (HRB2.out.below h) HDB.out HNB.out (by omega))
        clear hnu hsn h0 h1 h8 h9 hB hov m7 m0 m1 m8 hb5 hlt hu1 hu2
        gi_wp2_with fail
        refine wpIn_region_flow (fun W' => Below W.heap.size W W') Nil_ [0, 1, 2, 3, 4, 5, 6] (fun _ => trivial) rfl (fun _ _ _ _ _ h => CallsIn.inRound l (callsIn_wide.2 h)) (by kernel_rfl) (by kernel_rfl) (by kernel_rfl) ((Below.refl _ W).drew) trivial ?_
        refine flow_val ?_ rfl (by kernel_rfl) (by rfl) (fun W' hW => ?_) ?_
        rotate_left 1
        · have c1 : W'.cell? ⟨w.heap.size + 1, 0, none⟩ = some (.func (.func 39) #[] #[]) := cell_at ((hW.block _ (lt_of_block H1.out)).trans H1.out) 0; go_simp <;> with_reducible rfl
        simp only [Act.put, List.setIfInBounds_toArray, List.set_cons_succ, List.set_cons_zero]
        refine flow_val ?_ rfl (by kernel_rfl) (by rfl) (fun W' hW => ?_) ?_
        rotate_left 1
        · go_simp <;> with_reducible rfl
        simp only [Act.put, List.setIfInBounds_toArray, List.set_cons_succ, List.set_cons_zero]
        refine flow_val ?_ rfl (by kernel_rfl) (by rfl) (fun W' hW => ?_) ?_
        rotate_left 1
        · have c1 : W'.cell? ⟨w.heap.size, 0, none⟩ = some (.slice B b.length cb) := cell_at ((hW.block _ (lt_of_block H0.out)).trans H0.out) 0; go_simp <;> with_reducible rfl
        simp only [Act.put, List.setIfInBounds_toArray, List.set_cons_succ, List.set_cons_zero]
        refine flow_val ?_ rfl (by kernel_rfl) (by rfl) (fun W' hW => ?_) ?_
        rotate_left 1
        · go_simp <;> with_reducible rfl
        simp only [Act.put, List.setIfInBounds_toArray, List.set_cons_succ, List.set_cons_zero]
        refine flow_call (.int .i64 ov) rfl (by kernel_rfl) (by rfl) (by kernel_rfl) (fun W' hW => ⟨_, _, _, by go_simp, (HOF.out W' hW).mono fun e w1 ⟨he, hb⟩ => ⟨he, hW.trans (hb.mono hW.size)⟩⟩) ?_
        simp only [Act.put, List.setIfInBounds_toArray, List.set_cons_succ, List.set_cons_zero]
        refine flow_call (.int .i64 (meetF x.1.n ov)) rfl (by kernel_rfl) (by rfl) (by kernel_rfl) (fun W' hW => ⟨_, _, _, by go_simp, (meetF_any x.1.n ov W').mono fun e w1 ⟨he, hb⟩ => ⟨he, hb ▸ hW⟩⟩) ?_
        simp only [Act.put, List.setIfInBounds_toArray, List.set_cons_succ, List.set_cons_zero]
        refine flow_val ?_ rfl (by kernel_rfl) (by rfl) (fun W' hW => ?_) ?_
        rotate_left 1
        · go_simp <;> with_reducible rfl
        simp only [Act.put, List.setIfInBounds_toArray, List.set_cons_succ, List.set_cons_zero]
        refine flow_done ?_
        rintro W' ⟨⟨hW, _⟩, _⟩
        have HW := Lib.hid hW
        have g0 := (hW.block _ (lt_of_block H0.out)).trans H0.out
        have g1 := (hW.block _ (lt_of_block H1.out)).trans H1.out
        have g8 := (hW.block _ (lt_of_block H8.out)).trans H8.out
        have g9 := (Fr.of_below (B := 0) (T := []) (S := []) hW).own H9.out (by simp) (by simp)
        have G0 := Lib.hid g0
        have G1 := Lib.hid g1
        have G8 := Lib.hid g8
        have G9 := Lib.hid g9
        have q1 : W'.cell? ⟨N7, 0, none⟩ = some (.slice Au nu cu) := cell_at g8 0
        have q2 := frozen_at g8 0
        obtain ⟨kv, hkv⟩ : ∃ kv, meetF x.1.n ov = kv := ⟨_, rfl⟩
        rw [hkv] at HSN ⊢
        clear hW g0 g1 g8 g9 hkv
        by_cases hpos : 0 < kv
        · have hsn := HSN.out
          rw [if_pos hpos] at hsn
          have HSN2 := Lib.hid hsn
          clear hsn HSN
          have hbe : Below W'.heap.size W' (W'.alloc (.cells #[.string x.1.good, .int .i64 kv] 40)) := (Below.refl _ W').alloc (Nat.le_refl _) _
          have HBE := Lib.hid hbe
          have HNW := Lib.hid (block_new W' (.cells #[.string x.1.good, .int .i64 kv] 40))
          have O9 := Lib.hid ((Fr.of_below (B := 0) (T := []) (S := []) hbe).own G9.out (by simp) (by simp))
          clear hbe
          gi_wp2_with (gi_at_builtin
                       refine wpListIn_append_rd _ rfl (.tmp 31) (.tmp 35) 26 rfl w.heap.size 40 i1 (.agg #[.string ByteArray.empty, .int .i64 0]) 2 24 Try.underlying26 hi1 hy0 hy1 hy2 rfl (by decide) (.slice Au nu cu) nu ((eachI meetF b (pre.map (·.1))).flatMap encI) rfl O9.out (some ⟨W'.heap.size, 0, none⟩) 1 1 (encI ⟨x.1.good, kv⟩) rfl (rd_one HNW.out) (by simp [encI, Value.oneCell']) (by unfold maxLen; omega) (by omega) (Nat.le_trans HBW.out.size (Nat.le_trans HW.out.size HBE.out.size)) ?_
                       intro v2 w2 x2 x3
                       have fx : Fr w.heap.size [40] [] (W'.alloc (.cells #[.string x.1.good, .int .i64 kv] 40)) w2 := (Fr.refl _).grown x3 (fun j hj => by
                         obtain ⟨hb, cs, hc⟩ := own_block O9.out hj
                         exact ⟨hb, .inr ⟨cs, _, _, hc, by simp⟩⟩)
                       have e8 := fx.keep ((HBE.out.block _ (lt_of_block G8.out)).trans G8.out) (by decide) (by simp)
                       have e0 := fx.keep ((HBE.out.block _ (lt_of_block G0.out)).trans G0.out) (by decide) (by simp)
                       have e1 := fx.keep ((HBE.out.block _ (lt_of_block G1.out)).trans G1.out) (by decide) (by simp)
                       have HX2 := Lib.hid x2
                       obtain ⟨A2, c2, rfl, _, _, _, _⟩ := own_slice x2
                       have q1 := cell_at e8 0
                       have q2 := frozen_at e8 0
                       have E8 := Lib.hid e8
                       have E0 := Lib.hid e0
                       have E1 := Lib.hid e1
                       have hfb : Below w.heap.size w w2 := HBW.out.trans ((HW.out.trans (HBE.out.mono HW.out.size)).mono HBW.out.size |>.trans (fx.below (Nat.le_trans HBW.out.size (Nat.le_trans HW.out.size HBE.out.size))))
                       have HFB := Lib.hid hfb
                       have HFX := Lib.hid fx
                       clear x2 x3 fx e8 e0 e1 hfb)
          refine ⟨?_, ?_, ⟨?_, ?_, HJ.out.1.2.2.1, ?_, .slice A2 (nu + 1) c2, ?_, ?_⟩, ?_⟩
          · exact (((keepsOthers_b HW.out).trans (keepsOthers_b HBE.out)).trans ⟨HFX.out.size, fun k o hk ho => (HFX.out.block k (lt_of_block hk) (.inr ⟨fun cs t f e => by rw [hk] at e; injection e with e; subst e; simp [Obj.isCells] at ho, by simp⟩)).trans hk⟩).trans (KeepsOthers.setCell _ _ _)
          · exact (((HW.out.mono HBW.out.size).trans (HBE.out.mono (Nat.le_trans HBW.out.size HW.out.size))).trans (HFX.out.below (Nat.le_trans HBW.out.size (Nat.le_trans HW.out.size HBE.out.size)))).setCell (p := ⟨N7, 0, none⟩) hNl _
          · exact block_far E0.out (by simpa using hNe0.symm) _
          · exact block_far E1.out (by simpa using hNe1.symm) _
          · simpa using lt_of_block E8.out
          · simpa using block_set E8.out 0 (.slice A2 (nu + 1) c2)
          · have fs : Fr 0 [] [N7] w2 (w2.setCell ⟨N7, 0, none⟩ (.slice A2 (nu + 1) c2)) := (Fr.refl w2).setCell (p := ⟨N7, 0, none⟩) _ (Nat.zero_le _) (.inl (by simp))
            have ho := fs.own HX2.out (by simp) (fun k hk => by
              obtain ⟨_, cs, hc⟩ := own_block HX2.out hk
              simpa using block_ne hc E8.out (by decide))
            rw [HSN2.out, List.length_append, HNU.out, List.flatMap_append, List.flatMap_cons, List.flatMap_nil, List.append_nil]
            exact ho
          · exact HFB.out.setCell (p := ⟨N7, 0, none⟩) hNl _
        · have hsn := HSN.out
          rw [if_neg hpos] at hsn
          have HSN2 := Lib.hid hsn
          clear hsn HSN
          gi_wp2_with fail
          refine ⟨keepsOthers_b HW.out, HW.out.mono HBW.out.size, ⟨G0.out, G1.out, HJ.out.1.2.2.1, Nat.lt_of_lt_of_le h7 HW.out.size, .slice Au nu cu, ?_, ?_⟩, HBW.out.trans (HW.out.mono HBW.out.size)⟩
          · exact G8.out
          · rw [HSN2.out, HNU.out]; exact G9.out

set_option maxRecDepth 100000 in
set_option maxHeartbeats 2000000 in
theorem each_rest (A : Option Addr) (c : Nat) (rs : List It) (B : Option Addr) (cb : Nat) (b : List It) (w : World) (hr : Rd w 2 A rs.length (rs.flatMap encI)) (hd : ∀ z ∈ rs, BdIt z) (hm : rs.length ≤ 4611686018427387903)
    (hrb : Rd w 2 B b.length (b.flatMap encI)) (hdb : ∀ z ∈ b, BdIt z) (hmb : b.length ≤ 4611686018427387903) :
    Calls Try.prog 38 #[.slice A rs.length c, .slice B b.length cb, .func (.func 40) #[] #[]] w (RetI w (eachR restF rs b)) := by
  obtain ⟨qs, hq⟩ := bits_of hd
  obtain ⟨i1, hi1, hy0, hy1, hy2⟩ := info_parts Try.infoItem
  refine (callsIn_wide (n := 9)).1 ?_
  refine callsIn_of_wp_marks Try.func38 rfl trivial ?_ rfl
  simp only [Try.ntmps38, List.size_toArray, List.length_cons, List.length_nil, Nat.reduceAdd, Nat.reduceSub, Array.replicate_succ, Array.replicate_zero, List.push_toArray, List.append_toArray, List.nil_append, List.cons_append]
  refine wpIn_wide.2 ?_
  have HQ := Lib.hid hq
  have HRA := Lib.hid hr
  have HRB := Lib.hid hrb
  have HDA := Lib.hid hd
  have HDB := Lib.hid hdb
  clear hq hr hrb hd hdb
  obtain ⟨s0, hs0⟩ : ∃ s0, w.heap.size = s0 := ⟨_, rfl⟩
  have hB1 := ((Below.refl _ w).alloc (Nat.le_refl _) (.cells #[.slice B b.length cb] 26)).alloc (by simp) (.cells #[.func (.func 40) #[] #[]] 55)
  have b0 := block_alloc (block_new w (.cells #[.slice B b.length cb] 26)) (.cells #[.func (.func 40) #[] #[]] 55)
  have b1 := block_new (w.alloc (.cells #[.slice B b.length cb] 26)) (.cells #[.func (.func 40) #[] #[]] 55)
  simp only [World.size_alloc] at b1
  obtain ⟨W1, hW1⟩ : ∃ W1, (w.alloc (.cells #[.slice B b.length cb] 26)).alloc (.cells #[.func (.func 40) #[] #[]] 55) = W1 := ⟨_, rfl⟩
  rw [hW1] at hB1 b0 b1
  have HW1 := Lib.hid hW1
  have HB1 := Lib.hid hB1
  have H0 := Lib.hid b0
  have H1 := Lib.hid b1
  clear hB1 b0 b1 hW1 hs0
  obtain ⟨MA, hMA⟩ : ∃ MA, mayI rs = MA := ⟨_, rfl⟩
  obtain ⟨MB, hMB⟩ : ∃ MB, mayI b = MB := ⟨_, rfl⟩
  have HMA := Lib.hid hMA
  have HMB := Lib.hid hMB
  have hca := imay_any A c rs W1 (HRA.out.below HB1.out) HDA.out hm
  rw [hMA] at hca
  have HCA := Lib.hid hca
  have hcb := fun (W : World) (h : Below W1.heap.size W1 W) => imay_any B cb b W (HRB.out.below (HB1.out.trans (h.mono HB1.out.size))) HDB.out hmb
  rw [hMB] at hcb
  have HCB := Lib.hid hcb
  clear hMA hMB hca hcb
  go_wp2_with fail
  rw [HW1.out]
  refine HCA.out.mono ?_
  rintro e W2 ⟨rfl, hb2⟩
  have HB2 := Lib.hid hb2
  have g0 := (hb2.block _ (lt_of_block H0.out)).trans H0.out
  have x0 : W2.cell? ⟨w.heap.size, 0, none⟩ = some (.slice B b.length cb) := by rw [cell_at g0]; rfl
  have HG0 := Lib.hid g0
  have HG1 := Lib.hid ((hb2.block _ (lt_of_block H1.out)).trans H1.out)
  clear hb2 g0 HCA HW1 H0 H1
  cases MA
  · have hT : Below w.heap.size w W2 := HB1.out.trans (HB2.out.mono HB1.out.size)
    have HT := Lib.hid hT
    clear hT x0
    go_wp2
    refine ⟨.slice none 0 0, by simp [results, Try.f38, go_sem], _, rfl, by rw [show eachR restF rs b = [] by unfold eachR; rw [HMA.out]; rfl]; exact World.ownsRow_nil _ _ _ _, HT.out⟩
  · go_wp2_with fail
    refine (HCB.out W2 HB2.out).mono ?_
    rintro e W3 ⟨rfl, hb3⟩
    have HB3 := Lib.hid (HB1.out.trans ((HB2.out.trans (hb3.mono HB2.out.size)).mono HB1.out.size))
    have HG0 := Lib.hid ((hb3.block _ (lt_of_block HG0.out)).trans HG0.out)
    have HG1 := Lib.hid ((hb3.block _ (lt_of_block HG1.out)).trans HG1.out)
    clear hb3 HCB x0 HB2
    cases MB
    · go_wp2
      refine ⟨.slice none 0 0, by simp [results, Try.f38, go_sem], _, rfl, by rw [show eachR restF rs b = [] by unfold eachR; rw [HMA.out, HMB.out]; rfl]; exact World.ownsRow_nil _ _ _ _, HB3.out⟩
    · have HER : Hid (eachR restF rs b = eachI restF b rs) := Lib.hid (by unfold eachR; rw [HMA.out, HMB.out]; rfl)
      obtain ⟨hlen, hok⟩ := mayI_at HMA.out
      obtain ⟨hlenb, hokb⟩ := mayI_at HMB.out
      have HNB : Hid (∀ x ∈ b, 1 ≤ x.n ∧ x.n ≤ 1099511627776) := Lib.hid (fun x hx => by
        obtain ⟨k, hk, rfl⟩ := List.getElem_of_mem hx
        exact (okItem_iff.1 (okAt_item hk (hokb k hk))).2)
      have hb4 := HB3.out.alloc HB3.out.size (.cells #[.slice none 0 0] 26)
      have n7 := block_new W3 (.cells #[.slice none 0 0] 26)
      have k0 := block_alloc HG0.out (.cells #[.slice none 0 0] 26)
      have k1 := block_alloc HG1.out (.cells #[.slice none 0 0] 26)
      have hlt7 : w.heap.size + 1 < W3.heap.size := lt_of_block HG1.out
      obtain ⟨N7, hN7⟩ : ∃ N7, W3.heap.size = N7 := ⟨_, rfl⟩
      obtain ⟨W4, hW4⟩ : ∃ W4, W3.alloc (.cells #[.slice none 0 0] 26) = W4 := ⟨_, rfl⟩
      have hs4 : W4.heap.size = N7 + 1 := by rw [← hW4]; simp [hN7]
      have HW4 := Lib.hid hW4
      have HN7 := Lib.hid hN7
      rw [hW4] at hb4 n7 k0 k1
      rw [hN7] at n7 hlt7
      clear hok hokb hW4 hN7 HG0 HG1
      go_wp2_with fail
      rw [HW4.out, HN7.out]
      refine (all_any _ _ _ _).mono ?_
      rintro e w5 ⟨rfl, hw5⟩
      have hb5 := hb4.alloc hb4.size (.cells #[.slice A rs.length c] 26)
      have m7 := block_alloc n7 (.cells #[.slice A rs.length c] 26)
      have m0 := block_alloc k0 (.cells #[.slice A rs.length c] 26)
      have m1 := block_alloc k1 (.cells #[.slice A rs.length c] 26)
      have m8 := block_new W4 (.cells #[.slice A rs.length c] 26)
      rw [hs4] at m8 ⊢
      rw [hw5] at hb5 m7 m0 m1 m8
      have hsz1 : w.heap.size ≤ w5.heap.size := hb5.size
      have hs7 : N7 < w5.heap.size := lt_of_block m7
      have HRD := Lib.hid (HRA.out.below hb5)
      have hA : ∀ a, A = some a → 0 < rs.length → a.block < w.heap.size := fun a ha hp => by
        obtain ⟨g, o', e, hg, _⟩ := HRA.out.2 hp
        rw [e] at ha
        cases ha
        exact hg
      clear hw5 hb4 n7 k0 k1 hs4 HW4 HN7
      go_wp2_with fail
      refine (wpIn_wide (n := 9)).1 ?_
      refine wpIn_rangeFunc_ownF rfl (by omega) (gf := 51) (lb := #[.pointer (some ⟨N7 + 1, 0, none⟩)]) rfl trivial (enters_of Try.func51 (by kernel_rfl) rfl)
        (all_iter _ w.heap.size (N7 + 1) A c rs qs HQ.out w5 (by rw [cell_at m8]; rfl) HRD.out hm (by omega) hA) belowK_t (belowK_b hsz1) (Below.refl _ _) (fun _ => rfl)
        (EachJ restF w N7 40 B b.length cb b) (fun _ _ _ => False) (eachJ_own hsz1) (fun _ _ _ _ _ hs _ _ => hs)
        ⟨⟨m0, m1, hlt7, hs7, .slice none 0 0, m7, World.ownsRow_nil _ _ _ _⟩, hb5⟩
        (fun x => { tmps := #[.slice A rs.length c, .slice B b.length cb, .func (.func 40) #[] #[], undef, .pointer (some ⟨w.heap.size, 0, none⟩), .pointer (some ⟨w.heap.size + 1, 0, none⟩), .slice none 0 0, .pointer (some ⟨N7, 0, none⟩), .string x.1.good, .int .i64 x.1.n, undef, .slice A rs.length c, .bool true, .bool false, .bool false, .slice B b.length cb, .bool true, .bool false, .bool false, .slice A rs.length c, .func (.func 51) #[] #[.pointer (some ⟨N7 + 1, 0, none⟩)], .string x.1.good, .int .i64 x.1.n, undef, undef, undef, undef, undef, undef, undef, undef, undef, undef, undef, undef, undef, undef, undef], defers := [] }) ?assign ?body ?done ?stop
      case assign =>
        intro l x W K hK
        dsimp only [encRowI]
        gi_wp2
        exact hK
      case stop =>
        rintro D c pre W9 hD hpre hf _
        exact hf.elim
      case done =>
        rintro D xs W9 hD rfl ⟨⟨_, _, _, h7, u, h8, h9⟩, hB⟩ hK
        rw [HQ.out] at h9
        obtain ⟨Au, cu, rfl, _, _, _, _⟩ := own_slice h9
        have q1 := cell_at h8 0
        have HB := Lib.hid hB
        have H9 := Lib.hid h9
        clear h8 h9 hB m7 m0 m1 m8 hb5
        go_wp2
        refine ⟨by simp, .inl ⟨_, _, rfl, run_takeDeferred hK, ?_⟩⟩
        refine ⟨.slice Au (eachI restF b rs).length cu, by simp [results, Try.f38, go_sem], _, rfl, ?_, HB.out.trans (belowK_b (w := w) (Nat.le_refl _) W9 D _ _ (by omega) hK rfl rfl)⟩
        rw [HER.out]
        exact ownsRow_putObj H9.out (.deferred none) hK rfl
      case body =>
        rintro l pre x W hJ hlt
        have HJ := Lib.hid hJ
        obtain ⟨⟨h0, h1, _, h7, u, h8, h9⟩, hB⟩ := hJ
        obtain ⟨Au, cu, rfl, hu1, hu2, _, _⟩ := own_slice h9
        obtain ⟨nu, hnu⟩ : ∃ nu, (eachI restF b (pre.map (·.1))).length = nu := ⟨_, rfl⟩
        have hnl : nu ≤ 16 := by
          have h1 := eachI_len restF b (pre.map (·.1))
          have h2 : (pre.map (·.1)).length = pre.length := List.length_map _
          rw [hnu, h2] at h1
          omega
        have HNU := Lib.hid hnu
        have hsn : eachI restF b ((pre ++ [x]).map (·.1)) = if 0 < restF x.1.n (ofI b x.1.good) then eachI restF b (pre.map (·.1)) ++ [⟨x.1.good, restF x.1.n (ofI b x.1.good)⟩] else eachI restF b (pre.map (·.1)) := by
          rw [List.map_append, List.map_cons, List.map_nil, eachI_snoc]
        have HSN := Lib.hid hsn
        rw [hnu] at h8 h9
        have H0 := Lib.hid h0
        have H1 := Lib.hid h1
        have H8 := Lib.hid h8
        have H9 := Lib.hid h9
        have HBW := Lib.hid hB
        have HRB2 := Lib.hid (HRB.out.below hB)
        have hNe0 : N7 ≠ w.heap.size := by omega
        have hNe1 : N7 ≠ w.heap.size + 1 := by omega
        have hNl : w.heap.size ≤ N7 := by omega
        obtain ⟨ov, hov⟩ : ∃ ov, ofI b x.1.good = ov := ⟨_, rfl⟩
        rw [hov] at HSN
        have HOF : Hid (∀ W', Below W.heap.size W W' → Calls Try.prog 49 #[.slice B b.length cb, .string x.1.good] W' fun e w' => e = .returned (.int .i64 ov) ∧ Below W'.heap.size W' w') := Lib.hid (fun W' h => hov ▸ of_any B cb b x.1.good W' (HRB2.out.below h) HDB.out HNB.out (by omega))
        clear hnu hsn h0 h1 h8 h9 hB hov m7 m0 m1 m8 hb5 hlt hu1 hu2
        gi_wp2_with fail
        refine wpIn_region_flow (fun W' => Below W.heap.size W W') Nil_ [0, 1, 2, 3, 4, 5, 6] (fun _ => trivial) rfl (fun _ _ _ _ _ h => CallsIn.inRound l (callsIn_wide.2 h)) (by kernel_rfl) (by kernel_rfl) (by kernel_rfl) ((Below.refl _ W).drew) trivial ?_
        refine flow_val ?_ rfl (by kernel_rfl) (by rfl) (fun W' hW => ?_) ?_
        rotate_left 1
        · have c1 : W'.cell? ⟨w.heap.size + 1, 0, none⟩ = some (.func (.func 40) #[] #[]) := cell_at ((hW.block _ (lt_of_block H1.out)).trans H1.out) 0; go_simp <;> with_reducible rfl
        simp only [Act.put, List.setIfInBounds_toArray, List.set_cons_succ, List.set_cons_zero]
        refine flow_val ?_ rfl (by kernel_rfl) (by rfl) (fun W' hW => ?_) ?_
        rotate_left 1
        · go_simp <;> with_reducible rfl
        simp only [Act.put, List.setIfInBounds_toArray, List.set_cons_succ, List.set_cons_zero]
        refine flow_val ?_ rfl (by kernel_rfl) (by rfl) (fun W' hW => ?_) ?_
        rotate_left 1
        · have c1 : W'.cell? ⟨w.heap.size, 0, none⟩ = some (.slice B b.length cb) := cell_at ((hW.block _ (lt_of_block H0.out)).trans H0.out) 0; go_simp <;> with_reducible rfl
        simp only [Act.put, List.setIfInBounds_toArray, List.set_cons_succ, List.set_cons_zero]
        refine flow_val ?_ rfl (by kernel_rfl) (by rfl) (fun W' hW => ?_) ?_
        rotate_left 1
        · go_simp <;> with_reducible rfl
        simp only [Act.put, List.setIfInBounds_toArray, List.set_cons_succ, List.set_cons_zero]
        refine flow_call (.int .i64 ov) rfl (by kernel_rfl) (by rfl) (by kernel_rfl) (fun W' hW => ⟨_, _, _, by go_simp, (HOF.out W' hW).mono fun e w1 ⟨he, hb⟩ => ⟨he, hW.trans (hb.mono hW.size)⟩⟩) ?_
        simp only [Act.put, List.setIfInBounds_toArray, List.set_cons_succ, List.set_cons_zero]
        refine flow_call (.int .i64 (restF x.1.n ov)) rfl (by kernel_rfl) (by rfl) (by kernel_rfl) (fun W' hW => ⟨_, _, _, by go_simp, (restF_any x.1.n ov W').mono fun e w1 ⟨he, hb⟩ => ⟨he, hb ▸ hW⟩⟩) ?_
        simp only [Act.put, List.setIfInBounds_toArray, List.set_cons_succ, List.set_cons_zero]
        refine flow_val ?_ rfl (by kernel_rfl) (by rfl) (fun W' hW => ?_) ?_
        rotate_left 1
        · go_simp <;> with_reducible rfl
        simp only [Act.put, List.setIfInBounds_toArray, List.set_cons_succ, List.set_cons_zero]
        refine flow_done ?_
        rintro W' ⟨⟨hW, _⟩, _⟩
        have HW := Lib.hid hW
        have g0 := (hW.block _ (lt_of_block H0.out)).trans H0.out
        have g1 := (hW.block _ (lt_of_block H1.out)).trans H1.out
        have g8 := (hW.block _ (lt_of_block H8.out)).trans H8.out
        have g9 := (Fr.of_below (B := 0) (T := []) (S := []) hW).own H9.out (by simp) (by simp)
        have G0 := Lib.hid g0
        have G1 := Lib.hid g1
        have G8 := Lib.hid g8
        have G9 := Lib.hid g9
        have q1 : W'.cell? ⟨N7, 0, none⟩ = some (.slice Au nu cu) := cell_at g8 0
        have q2 := frozen_at g8 0
        obtain ⟨kv, hkv⟩ : ∃ kv, restF x.1.n ov = kv := ⟨_, rfl⟩
        rw [hkv] at HSN ⊢
        clear hW g0 g1 g8 g9 hkv
        by_cases hpos : 0 < kv
        · have hsn := HSN.out
          rw [if_pos hpos] at hsn
          have HSN2 := Lib.hid hsn
          clear hsn HSN
          have hbe : Below W'.heap.size W' (W'.alloc (.cells #[.string x.1.good, .int .i64 kv] 40)) := (Below.refl _ W').alloc (Nat.le_refl _) _
          have HBE := Lib.hid hbe
          have HNW := Lib.hid (block_new W' (.cells #[.string x.1.good, .int .i64 kv] 40))
          have O9 := Lib.hid ((Fr.of_below (B := 0) (T := []) (S := []) hbe).own G9.out (by simp) (by simp))
          clear hbe
          gi_wp2_with (gi_at_builtin
                       refine wpListIn_append_rd _ rfl (.tmp 31) (.tmp 35) 26 rfl w.heap.size 40 i1 (.agg #[.string ByteArray.empty, .int .i64 0]) 2 24 Try.underlying26 hi1 hy0 hy1 hy2 rfl (by decide) (.slice Au nu cu) nu ((eachI restF b (pre.map (·.1))).flatMap encI) rfl O9.out (some ⟨W'.heap.size, 0, none⟩) 1 1 (encI ⟨x.1.good, kv⟩) rfl (rd_one HNW.out) (by simp [encI, Value.oneCell']) (by unfold maxLen; omega) (by omega) (Nat.le_trans HBW.out.size (Nat.le_trans HW.out.size HBE.out.size)) ?_
                       intro v2 w2 x2 x3
                       have fx : Fr w.heap.size [40] [] (W'.alloc (.cells #[.string x.1.good, .int .i64 kv] 40)) w2 := (Fr.refl _).grown x3 (fun j hj => by
                         obtain ⟨hb, cs, hc⟩ := own_block O9.out hj
                         exact ⟨hb, .inr ⟨cs, _, _, hc, by simp⟩⟩)
                       have e8 := fx.keep ((HBE.out.block _ (lt_of_block G8.out)).trans G8.out) (by decide) (by simp)
                       have e0 := fx.keep ((HBE.out.block _ (lt_of_block G0.out)).trans G0.out) (by decide) (by simp)
                       have e1 := fx.keep ((HBE.out.block _ (lt_of_block G1.out)).trans G1.out) (by decide) (by simp)
                       have HX2 := Lib.hid x2
                       obtain ⟨A2, c2, rfl, _, _, _, _⟩ := own_slice x2
                       have q1 := cell_at e8 0
                       have q2 := frozen_at e8 0
                       have E8 := Lib.hid e8
                       have E0 := Lib.hid e0
                       have E1 := Lib.hid e1
                       have hfb : Below w.heap.size w w2 := HBW.out.trans ((HW.out.trans (HBE.out.mono HW.out.size)).mono HBW.out.size |>.trans (fx.below (Nat.le_trans HBW.out.size (Nat.le_trans HW.out.size HBE.out.size))))
                       have HFB := Lib.hid hfb
                       have HFX := Lib.hid fx
                       clear x2 x3 fx e8 e0 e1 hfb)
          refine ⟨?_, ?_, ⟨?_, ?_, HJ.out.1.2.2.1, ?_, .slice A2 (nu + 1) c2, ?_, ?_⟩, ?_⟩
          · exact (((keepsOthers_b HW.out).trans (keepsOthers_b HBE.out)).trans ⟨HFX.out.size, fun k o hk ho => (HFX.out.block k (lt_of_block hk) (.inr ⟨fun cs t f e => by rw [hk] at e; injection e with e; subst e; simp [Obj.isCells] at ho, by simp⟩)).trans hk⟩).trans (KeepsOthers.setCell _ _ _)
          · exact (((HW.out.mono HBW.out.size).trans (HBE.out.mono (Nat.le_trans HBW.out.size HW.out.size))).trans (HFX.out.below (Nat.le_trans HBW.out.size (Nat.le_trans HW.out.size HBE.out.size)))).setCell (p := ⟨N7, 0, none⟩) hNl _
          · exact block_far E0.out (by simpa using hNe0.symm) _
          · exact block_far E1.out (by simpa using hNe1.symm) _
          · simpa using lt_of_block E8.out
          · simpa using block_set E8.out 0 (.slice A2 (nu + 1) c2)
          · have fs : Fr 0 [] [N7] w2 (w2.setCell ⟨N7, 0, none⟩ (.slice A2 (nu + 1) c2)) := (Fr.refl w2).setCell (p := ⟨N7, 0, none⟩) _ (Nat.zero_le _) (.inl (by simp))
            have ho := fs.own HX2.out (by simp) (fun k hk => by
              obtain ⟨_, cs, hc⟩ := own_block HX2.out hk
              simpa using block_ne hc E8.out (by decide))
            rw [HSN2.out, List.length_append, HNU.out, List.flatMap_append, List.flatMap_cons, List.flatMap_nil, List.append_nil]
            exact ho
          · exact HFB.out.setCell (p := ⟨N7, 0, none⟩) hNl _
        · have hsn := HSN.out
          rw [if_neg hpos] at hsn
          have HSN2 := Lib.hid hsn
          clear hsn HSN
          gi_wp2_with fail
          refine ⟨keepsOthers_b HW.out, HW.out.mono HBW.out.size, ⟨G0.out, G1.out, HJ.out.1.2.2.1, Nat.lt_of_lt_of_le h7 HW.out.size, .slice Au nu cu, ?_, ?_⟩, HBW.out.trans (HW.out.mono HBW.out.size)⟩
          · exact G8.out
          · rw [HSN2.out, HNU.out]; exact G9.out

theorem ok_of {l : List It} (h : mayI l = true) : ∀ x ∈ l, 1 ≤ x.n ∧ x.n ≤ 1099511627776 := fun x hx => by
  obtain ⟨k, hk, rfl⟩ := List.getElem_of_mem hx
  exact (okItem_iff.1 (okAt_item hk ((mayI_at h).2 k hk))).2
theorem each_meetI {a b : List It} : eachI meetF b a = meetI a b := by
  refine eachI_congr fun x _ => ?_
  unfold meetF
  split <;> omega
theorem each_restI {a b : List It} (ha : mayI a = true) (hb : mayI b = true) : eachI restF b a = restI a b := by
  refine eachI_congr fun x hx => ?_
  have h1 := ok_of ha x hx
  have h2 := ofI_bd x.good (ok_of hb)
  have h3 := (mayI_at hb).1
  exact IntWalk.wrap64_in _ (by omega)
theorem meet_any (A : Option Addr) (c : Nat) (a : List It) (B : Option Addr) (cb : Nat) (b : List It) (w : World) (hr : Rd w 2 A a.length (a.flatMap encI)) (hd : ∀ z ∈ a, BdIt z) (hm : a.length ≤ 4611686018427387903)
    (hrb : Rd w 2 B b.length (b.flatMap encI)) (hdb : ∀ z ∈ b, BdIt z) (hmb : b.length ≤ 4611686018427387903) (hma : mayI a = true) (hmay : mayI b = true) :
    Calls Try.prog 23 #[.slice A a.length c, .slice B b.length cb] w (RetI w (meetI a b)) := by
  have h := each_meet A c a B cb b w hr hd hm hrb hdb hmb
  rw [show eachR meetF a b = meetI a b by unfold eachR; rw [hma, hmay]; exact each_meetI] at h
  have H := Lib.hid h
  clear h hr hd hm hrb hdb hmb
  go_enter Try.func23, Try.ntmps23
  go_wp2_with fail
  refine H.out.mono ?_
  rintro e w1 ⟨v, rfl, ho, hb⟩
  have HO := Lib.hid ho
  have HB := Lib.hid hb
  clear ho hb
  go_wp2
  go_ret
  exact ⟨_, rfl, HO.out, HB.out⟩
theorem rest_any (A : Option Addr) (c : Nat) (a : List It) (B : Option Addr) (cb : Nat) (b : List It) (w : World) (hr : Rd w 2 A a.length (a.flatMap encI)) (hd : ∀ z ∈ a, BdIt z) (hm : a.length ≤ 4611686018427387903)
    (hrb : Rd w 2 B b.length (b.flatMap encI)) (hdb : ∀ z ∈ b, BdIt z) (hmb : b.length ≤ 4611686018427387903) (hma : mayI a = true) (hmay : mayI b = true) :
    Calls Try.prog 24 #[.slice A a.length c, .slice B b.length cb] w (RetI w (restI a b)) := by
  have h := each_rest A c a B cb b w hr hd hm hrb hdb hmb
  rw [show eachR restF a b = restI a b by unfold eachR; rw [hma, hmay]; exact each_restI hma hmay] at h
  have H := Lib.hid h
  clear h hr hd hm hrb hdb hmb
  go_enter Try.func24, Try.ntmps24
  go_wp2_with fail
  refine H.out.mono ?_
  rintro e w1 ⟨v, rfl, ho, hb⟩
  have HO := Lib.hid ho
  have HB := Lib.hid hb
  clear ho hb
  go_wp2
  go_ret
  exact ⟨_, rfl, HO.out, HB.out⟩
end Go.Proofs.Ytlcnkicmepcppaa
