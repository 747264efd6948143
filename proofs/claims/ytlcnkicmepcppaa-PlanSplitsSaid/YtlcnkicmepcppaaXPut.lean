/- The reference's put. -/
import Derived.Test.YtlcnkicmepcppaaXPMay
import Derived.Test.YtlcnkicmepcppaaPPlain5
import Derived.Test.YtlcnkicmepcppaaFlow4
namespace Go.Proofs.Ytlcnkicmepcppaa
open Go.RowKit

theorem putP_at {g : ByteArray} {n : Int} : ∀ {l : List It} {k : Nat} (h : k < l.length), (∀ j (hj : j < l.length), j < k → ltS l[j].good g = true) → ltS l[k].good g = false → (l[k].good.toList == g.toList) = true → putP g n l = l.set k ⟨g, n⟩
  | [], k, h, _, _, _ => absurd h (by simp)
  | x :: l, 0, _, _, h2, h3 => by
    simp only [List.getElem_cons_zero] at h2 h3
    simp only [putP, h2, h3, List.set_cons_zero]
    rfl
  | x :: l, k + 1, h, h1, h2, h3 => by
    have h0 : ltS x.good g = true := h1 0 (by simp) (by omega)
    simp only [putP, h0, if_true, List.set_cons_succ]
    rw [putP_at (k := k) (by simpa using h) (fun j hj hk => h1 (j + 1) (by simpa using hj) (by omega)) h2 h3]
theorem putP_in {g : ByteArray} {n : Int} : ∀ {l : List It} {k : Nat}, k ≤ l.length → (∀ j (hj : j < l.length), j < k → ltS l[j].good g = true) → (∀ h : k < l.length, ltS l[k].good g = false ∧ (l[k].good.toList == g.toList) = false) → putP g n l = l.take k ++ (⟨g, n⟩ :: l.drop k)
  | [], k, _, _, _ => by simp [putP]
  | x :: l, 0, _, _, h2 => by
    obtain ⟨h3, h4⟩ := h2 (by simp)
    simp only [List.getElem_cons_zero] at h3 h4
    simp only [putP, h3, h4, List.take_zero, List.drop_zero, List.nil_append]
    rfl
  | x :: l, k + 1, h, h1, h2 => by
    have h0 : ltS x.good g = true := h1 0 (by simp) (by omega)
    simp only [putP, h0, if_true, List.take_succ_cons, List.drop_succ_cons, List.cons_append]
    rw [putP_in (k := k) (by simpa using h) (fun j hj hk => h1 (j + 1) (by simpa using hj) (by omega)) (fun hk => h2 (by simpa using hk))]
theorem flat_set {g : ByteArray} {n : Int} : ∀ {l : List It} {k : Nat} (h : k < l.length), (l[k].good.toList == g.toList) = true → (l.flatMap encI).set (k * 2 + 1) (.int .i64 n) = (l.set k ⟨g, n⟩).flatMap encI
  | [], k, h, _ => absurd h (by simp)
  | x :: l, 0, _, h => by
    simp only [List.getElem_cons_zero] at h
    have e := toList_inj (LawfulBEq.eq_of_beq h)
    simp [List.flatMap_cons, encI, e]
  | x :: l, k + 1, h, h2 => by
    have ih := flat_set (g := g) (n := n) (l := l) (k := k) (by simpa using h) h2
    rw [List.flatMap_cons, List.set_cons_succ, List.flatMap_cons, ← ih]
    simp only [encI, List.cons_append, List.nil_append, show (k + 1) * 2 + 1 = (k * 2 + 1) + 1 + 1 by omega, List.set_cons_succ]
theorem flat_take (l : List It) (k : Nat) : (l.flatMap encI).take (k * 2) = (l.take k).flatMap encI := by
  induction l generalizing k with
  | nil => simp
  | cons x l ih =>
    cases k with
    | zero => simp
    | succ k => simp only [List.flatMap_cons, encI, List.cons_append, List.nil_append, show (k + 1) * 2 = k * 2 + 1 + 1 by omega, List.take_succ_cons, ih]
theorem flat_drop (l : List It) (k : Nat) : (l.flatMap encI).drop (k * 2) = (l.drop k).flatMap encI := by
  induction l generalizing k with
  | nil => simp
  | cons x l ih =>
    cases k with
    | zero => simp
    | succ k => simp only [List.flatMap_cons, encI, List.cons_append, List.nil_append, show (k + 1) * 2 = k * 2 + 1 + 1 by omega, List.drop_succ_cons, ih]
/-- The one new item's block, apart from the row that grows. -/
def NewI (W : World) (v u : Value) (x : It) : Prop := ∃ g, u = .slice (some ⟨g, 0, none⟩) 1 1 ∧ W.heap[g]? = some (.cells #[.string x.good, .int .i64 x.n] 40 (0, 0)) ∧ v.ownBlock ≠ some g
theorem NewI.rd {W : World} {v u : Value} {x : It} (h : NewI W v u x) : ∃ g, u = .slice (some ⟨g, 0, none⟩) 1 1 ∧ Rd W 2 (some ⟨g, 0, none⟩) 1 (encI x) := by
  obtain ⟨g, e, h1, _⟩ := h
  exact ⟨g, e, rd_one h1⟩
theorem NewI.of {w W : World} {v : Value} {x : It} {n : Nat} {xs : List Value} (ho : W.ownsRow w.heap.size 40 2 v n xs) : NewI (W.alloc (.cells #[.string x.good, .int .i64 x.n] 40)) v (.slice (some ⟨W.heap.size, 0, none⟩) 1 1) x :=
  ⟨_, rfl, block_new _ _, fun h => by
    obtain ⟨_, cs, hc⟩ := own_block ho h
    have := lt_of_block hc
    omega⟩
theorem NewI.grown {W W' : World} {v u : Value} {x : It} (h : NewI W v u x) (hg : W.grownBy W' v.ownBlock) : ∃ g, u = .slice (some ⟨g, 0, none⟩) 1 1 ∧ Rd W' 2 (some ⟨g, 0, none⟩) 1 (encI x) := by
  obtain ⟨g, e, h1, h2⟩ := h
  refine ⟨g, e, rd_one ?_⟩
  rw [hg.block g (lt_of_block h1) (fun e' => h2 e'.symm)]
  exact h1

theorem new_a {W : World} {g : Nat} {gd : ByteArray} {n : Int} (h : ∃ g', (.slice (some ⟨g, 0, none⟩) 1 1 : Value) = .slice (some ⟨g', 0, none⟩) 1 1 ∧ W.heap[g']? = some (.cells #[.string gd, .int .i64 n] 40 (0, 0))) : NewI (W.alloc (.cells #[] 40)) (.slice (some ⟨W.heap.size, 0, none⟩) 0 0) (.slice (some ⟨g, 0, none⟩) 1 1) ⟨gd, n⟩ := by
  obtain ⟨g', e, h⟩ := h
  cases e
  refine ⟨g, rfl, block_alloc h _, fun e => ?_⟩
  have := lt_of_block h
  simp [Value.ownBlock] at e
  omega
theorem put_end {W : World} {B m k : Nat} {l : List It} {gd : ByteArray} {n : Int} {v : Value} (h : putP gd n l = l.take k ++ (⟨gd, n⟩ :: l.drop k) ∧ k ≤ m ∧ l.length = m) (ho : W.ownsRow B 40 2 v (0 + k + 1 + (m - k)) ([] ++ (l.take k).flatMap encI ++ encI ⟨gd, n⟩ ++ (l.drop k).flatMap encI)) : W.ownsRow B 40 2 v (putP gd n l).length ((putP gd n l).flatMap encI) := by
  obtain ⟨h1, h2, h3⟩ := h
  have e : (putP gd n l).length = 0 + k + 1 + (m - k) := by rw [h1]; simp; omega
  rw [e, h1, List.flatMap_append, List.flatMap_cons]
  simpa using ho
set_option maxRecDepth 100000 in
set_option maxHeartbeats 2000000 in
theorem xput_any (B : Nat) (v : Value) (l : List It) (gd : ByteArray) (n : Int) (w : World) (h : w.ownsRow B 40 2 v l.length (l.flatMap encI)) (hm : l.length ≤ 16) :
    Calls Try.prog 30 #[v, .string gd, .int .i64 n] w (RetI w (putP gd n l)) := by
  obtain ⟨i1, hi1, hy0, hy1, hy2⟩ := info_parts Try.infoItem
  obtain ⟨m, hm2⟩ : ∃ m, l.length = m := ⟨_, rfl⟩
  have HM := Lib.hid hm2
  have HO := Lib.hid h
  rw [hm2] at hm h
  obtain ⟨A2, c2, hv, hnc, hcm, hr, hA⟩ := own_slice h
  rcases h.2 with ⟨rfl, hl0⟩ | ⟨g2, c2', cur, rfl, _, _, _, _, _, _⟩
  · subst hl0
    obtain rfl : l = [] := List.length_eq_zero_iff.1 hm2
    cases hv
    have HPI : Hid (putP gd n [] = ([] : List It).take 0 ++ (⟨gd, n⟩ :: ([] : List It).drop 0) ∧ 0 ≤ 0 ∧ ([] : List It).length = 0) := Lib.hid ⟨rfl, Nat.le_refl _, rfl⟩
    have HT : Hid (∀ W, Below w.heap.size w W → Rd W 2 none 0 ((([] : List It).take 0).flatMap encI)) := Lib.hid (fun W _ => Rd.nil)
    have HD : Hid (∀ W, Below w.heap.size w W → Rd W 2 none 0 ((([] : List It).drop 0).flatMap encI)) := Lib.hid (fun W _ => Rd.nil)
    clear hr hA HO HM h hm2
    go_enter Try.func30, Try.ntmps30
    go_wp2_with fail
    go_loopw [7] (fun iv wr => iv = .int .i64 0 ∧ w = wr) (fun iv => fun _ => 0)
    case atStart => exact ⟨rfl, rfl⟩
    case round =>
      obtain ⟨rfl, rfl⟩ := hrel
      go_wp2_with fail
      refine (wpIn_wide (n := 9)).1 (region_of_ok (by kernel_rfl) (ok_split 0 8 (by decide) ?_ ?_))
      · simp only [addAfter, addL]
        refine ok_flow (fun W => Below w.heap.size w W) Nil_ [1, 2, 3, 5, 6, 7, 10, 11, 12, 8, 0, 4, 9, 13, 14] (fun _ => trivial) rfl (fun _ _ _ _ _ h => callsIn_wide.2 h) (by kernel_rfl) (by kernel_rfl) ((Below.refl _ _).drew) (trivial) ?_
        refine flow_val ?_ rfl (by kernel_rfl) (by rfl) (fun W hW => ?_) ?_
        rotate_left 1
        · go_simp <;> with_reducible rfl
        simp only [Act.put, List.setIfInBounds_toArray, List.set_cons_succ, List.set_cons_zero]
        refine flow_val ?_ rfl (by kernel_rfl) (by rfl) (fun W hW => ?_) ?_
        rotate_left 1
        · go_simp <;> with_reducible rfl
        simp only [Act.put, List.setIfInBounds_toArray, List.set_cons_succ, List.set_cons_zero]
        refine flow_val ?_ rfl (by kernel_rfl) (by rfl) (fun W hW => ?_) ?_
        rotate_left 1
        · go_simp <;> with_reducible rfl
        simp only [Act.put, List.setIfInBounds_toArray, List.set_cons_succ, List.set_cons_zero]
        refine flow_val ?_ rfl (by kernel_rfl) (by rfl) (fun W hW => ?_) ?_
        rotate_left 1
        · go_simp <;> with_reducible rfl
        simp only [Act.put, List.setIfInBounds_toArray, List.set_cons_succ, List.set_cons_zero]
        refine flow_val ?_ rfl (by kernel_rfl) (by rfl) (fun W hW => ?_) ?_
        rotate_left 1
        · go_simp <;> with_reducible rfl
        simp only [Act.put, List.setIfInBounds_toArray, List.set_cons_succ, List.set_cons_zero]
        refine flow_val ?_ rfl (by kernel_rfl) (by rfl) (fun W hW => ?_) ?_
        rotate_left 1
        · go_simp <;> with_reducible rfl
        simp only [Act.put, List.setIfInBounds_toArray, List.set_cons_succ, List.set_cons_zero]
        refine flow_val ?_ rfl (by kernel_rfl) (by rfl) (fun W hW => ?_) ?_
        rotate_left 1
        · go_simp <;> with_reducible rfl
        simp only [Act.put, List.setIfInBounds_toArray, List.set_cons_succ, List.set_cons_zero]
        refine flow_val ?_ rfl (by kernel_rfl) (by rfl) (fun W hW => ?_) ?_
        rotate_left 1
        · go_simp <;> with_reducible rfl
        simp only [Act.put, List.setIfInBounds_toArray, List.set_cons_succ, List.set_cons_zero]
        refine flow_val ?_ rfl (by kernel_rfl) (by rfl) (fun W hW => ?_) ?_
        rotate_left 1
        · go_simp <;> with_reducible rfl
        simp only [Act.put, List.setIfInBounds_toArray, List.set_cons_succ, List.set_cons_zero]
        refine flow_gmake (fun u W => ∃ g, u = .slice (some ⟨g, 0, none⟩) 1 1 ∧ W.heap[g]? = some (.cells #[.string gd, .int .i64 n] 40 (0, 0))) rfl (by kernel_rfl) (by rfl) (by kernel_rfl) (fun W hW hC => ⟨_, _, by go_simp <;> with_reducible rfl, hW.alloc hW.size _, _, rfl, block_new _ _⟩) ?_
        rintro u54 ⟨W0, _, g54, rfl, _⟩
        simp only [Act.put, List.setIfInBounds_toArray, List.set_cons_succ, List.set_cons_zero]
        refine flow_gmake (fun v W => W.ownsRow w.heap.size 40 2 v 0 [] ∧ (∃ g, v = .slice (some ⟨g, 0, none⟩) 0 0) ∧ NewI W v (.slice (some ⟨g54, 0, none⟩) 1 1) ⟨gd, n⟩) rfl (by kernel_rfl) (by rfl) (by kernel_rfl) (fun W hW hC => ⟨_, _, by go_simp <;> with_reducible rfl, ⟨hW.1.alloc hW.1.size _, trivial⟩, ownI_low (own_empty (w := W) 40 2) hW.1.size, ⟨_, rfl⟩, new_a hC⟩) ?_
        rintro v46 ⟨W0, _, _, ⟨g46, rfl⟩, _⟩
        simp only [Act.put, List.setIfInBounds_toArray, List.set_cons_succ, List.set_cons_zero]
        refine flow_gmake (fun v W => W.ownsRow w.heap.size 40 2 v (0 + 0) ([] ++ (([] : List It).take 0).flatMap encI) ∧ ∃ g, (.slice (some ⟨g54, 0, none⟩) 1 1 : Value) = .slice (some ⟨g, 0, none⟩) 1 1 ∧ Rd W 2 (some ⟨g, 0, none⟩) 1 (encI ⟨gd, n⟩)) rfl (by kernel_rfl) (by rfl) (by kernel_rfl) (fun W hW hC => ?_) ?_
        · obtain ⟨hO, _, hN⟩ := hC
          refine exec_append_rd (.tmp 46) (.tmp 49) 26 rfl w.heap.size 40 i1 (.agg #[.string ByteArray.empty, .int .i64 0]) 2 24 Try.underlying26 hi1 hy0 hy1 hy2 rfl (by decide) _ 0 [] rfl (hO) none 0 0 ((([] : List It).take 0).flatMap encI) rfl (HT.out W hW.1.1) (i_one _) (by unfold maxLen; omega) (by omega) hW.1.1.size (fun v' w' x2 x3 => ?_)
          have fx : Fr w.heap.size [40] [] W w' := (Fr.refl W).grown x3 (fun j hj => by
            obtain ⟨hb, cs, hc⟩ := own_block hO hj
            exact ⟨hb, .inr ⟨cs, _, _, hc, by simp⟩⟩)
          exact ⟨⟨⟨hW.1.1.trans (fx.below hW.1.1.size), trivial⟩, trivial⟩, x2, (NewI.grown hN x3)⟩
        rintro v50 ⟨W0, _, hv50, _⟩
        obtain ⟨A50, c50, rfl, _, _, _, _⟩ := own_slice hv50
        clear hv50
        simp only [Act.put, List.setIfInBounds_toArray, List.set_cons_succ, List.set_cons_zero]
        refine flow_gmake (fun v W => W.ownsRow w.heap.size 40 2 v (0 + 0 + 1) ([] ++ (([] : List It).take 0).flatMap encI ++ encI ⟨gd, n⟩)) rfl (by kernel_rfl) (by rfl) (by kernel_rfl) (fun W hW hC => ?_) ?_
        · obtain ⟨hO, g55, e55, hR⟩ := hC
          cases e55
          refine exec_append_rd (.tmp 50) (.tmp 54) 26 rfl w.heap.size 40 i1 (.agg #[.string ByteArray.empty, .int .i64 0]) 2 24 Try.underlying26 hi1 hy0 hy1 hy2 rfl (by decide) _ (0 + 0) _ rfl (hO) (some ⟨g54, 0, none⟩) 1 1 (encI ⟨gd, n⟩) rfl (hR) (by simp [encI, Value.oneCell']) (by unfold maxLen; omega) (by omega) hW.1.1.1.size (fun v' w' x2 x3 => ?_)
          have fx : Fr w.heap.size [40] [] W w' := (Fr.refl W).grown x3 (fun j hj => by
            obtain ⟨hb, cs, hc⟩ := own_block hO hj
            exact ⟨hb, .inr ⟨cs, _, _, hc, by simp⟩⟩)
          exact ⟨⟨⟨⟨hW.1.1.1.trans (fx.below hW.1.1.1.size), trivial⟩, trivial⟩, trivial⟩, x2⟩
        rintro v55 ⟨W0, _, hv55⟩
        obtain ⟨A55, c55, rfl, _, _, _, _⟩ := own_slice hv55
        clear hv55
        simp only [Act.put, List.setIfInBounds_toArray, List.set_cons_succ, List.set_cons_zero]
        refine flow_gmake (fun v W => W.ownsRow w.heap.size 40 2 v (0 + 0 + 1 + 0) ([] ++ (([] : List It).take 0).flatMap encI ++ encI ⟨gd, n⟩ ++ (([] : List It).drop 0).flatMap encI)) rfl (by kernel_rfl) (by rfl) (by kernel_rfl) (fun W hW hC => ?_) ?_
        · refine exec_append_rd (.tmp 55) (.tmp 58) 26 rfl w.heap.size 40 i1 (.agg #[.string ByteArray.empty, .int .i64 0]) 2 24 Try.underlying26 hi1 hy0 hy1 hy2 rfl (by decide) _ (0 + 0 + 1) _ rfl (hC) none 0 0 ((([] : List It).drop 0).flatMap encI) rfl (HD.out W hW.1.1.1.1) (i_one _) (by unfold maxLen; omega) (by omega) hW.1.1.1.1.size (fun v' w' x2 x3 => ?_)
          have fx : Fr w.heap.size [40] [] W w' := (Fr.refl W).grown x3 (fun j hj => by
            obtain ⟨hb, cs, hc⟩ := own_block hC hj
            exact ⟨hb, .inr ⟨cs, _, _, hc, by simp⟩⟩)
          exact ⟨⟨⟨⟨⟨hW.1.1.1.1.trans (fx.below hW.1.1.1.1.size), trivial⟩, trivial⟩, trivial⟩, trivial⟩, x2⟩
        rintro v59 ⟨W0, _, _⟩
        simp only [Act.put, List.setIfInBounds_toArray, List.set_cons_succ, List.set_cons_zero]
        refine flow_val ?_ rfl (by kernel_rfl) (by rfl) (fun W hW => ?_) ?_
        rotate_left 1
        · go_simp <;> with_reducible rfl
        simp only [Act.put, List.setIfInBounds_toArray, List.set_cons_succ, List.set_cons_zero]
        refine flow_done2 ?_
        intro W hW hC
        have hbw := hW.1.1.1.1.1
        go_wp2
        go_ret
        exact ⟨_, rfl, put_end HPI.out (by rw [Nat.sub_self]; exact hC), hbw⟩
      · refine ok_split 4 8 (by decide) ?_ ?_
        · simp only [addAfter, addL]
          refine ok_flow (fun W => Below w.heap.size w W) Nil_ [1, 2, 3, 5, 6, 7, 10, 11, 12, 0, 8, 4, 9, 13, 14] (fun _ => trivial) rfl (fun _ _ _ _ _ h => callsIn_wide.2 h) (by kernel_rfl) (by kernel_rfl) ((Below.refl _ _).drew) (trivial) ?_
          refine flow_val ?_ rfl (by kernel_rfl) (by rfl) (fun W hW => ?_) ?_
          rotate_left 1
          · go_simp <;> with_reducible rfl
          simp only [Act.put, List.setIfInBounds_toArray, List.set_cons_succ, List.set_cons_zero]
          refine flow_val ?_ rfl (by kernel_rfl) (by rfl) (fun W hW => ?_) ?_
          rotate_left 1
          · go_simp <;> with_reducible rfl
          simp only [Act.put, List.setIfInBounds_toArray, List.set_cons_succ, List.set_cons_zero]
          refine flow_val ?_ rfl (by kernel_rfl) (by rfl) (fun W hW => ?_) ?_
          rotate_left 1
          · go_simp <;> with_reducible rfl
          simp only [Act.put, List.setIfInBounds_toArray, List.set_cons_succ, List.set_cons_zero]
          refine flow_val ?_ rfl (by kernel_rfl) (by rfl) (fun W hW => ?_) ?_
          rotate_left 1
          · go_simp <;> with_reducible rfl
          simp only [Act.put, List.setIfInBounds_toArray, List.set_cons_succ, List.set_cons_zero]
          refine flow_val ?_ rfl (by kernel_rfl) (by rfl) (fun W hW => ?_) ?_
          rotate_left 1
          · go_simp <;> with_reducible rfl
          simp only [Act.put, List.setIfInBounds_toArray, List.set_cons_succ, List.set_cons_zero]
          refine flow_val ?_ rfl (by kernel_rfl) (by rfl) (fun W hW => ?_) ?_
          rotate_left 1
          · go_simp <;> with_reducible rfl
          simp only [Act.put, List.setIfInBounds_toArray, List.set_cons_succ, List.set_cons_zero]
          refine flow_val ?_ rfl (by kernel_rfl) (by rfl) (fun W hW => ?_) ?_
          rotate_left 1
          · go_simp <;> with_reducible rfl
          simp only [Act.put, List.setIfInBounds_toArray, List.set_cons_succ, List.set_cons_zero]
          refine flow_val ?_ rfl (by kernel_rfl) (by rfl) (fun W hW => ?_) ?_
          rotate_left 1
          · go_simp <;> with_reducible rfl
          simp only [Act.put, List.setIfInBounds_toArray, List.set_cons_succ, List.set_cons_zero]
          refine flow_val ?_ rfl (by kernel_rfl) (by rfl) (fun W hW => ?_) ?_
          rotate_left 1
          · go_simp <;> with_reducible rfl
          simp only [Act.put, List.setIfInBounds_toArray, List.set_cons_succ, List.set_cons_zero]
          refine flow_gmake (fun v W => W.ownsRow w.heap.size 40 2 v 0 [] ∧ ∃ g, v = .slice (some ⟨g, 0, none⟩) 0 0) rfl (by kernel_rfl) (by rfl) (by kernel_rfl) (fun W hW hC => ⟨_, _, by go_simp <;> with_reducible rfl, hW.alloc hW.size _, ownI_low (own_empty (w := W) 40 2) hW.size, _, rfl⟩) ?_
          rintro v46 ⟨W0, _, _, g46, rfl⟩
          simp only [Act.put, List.setIfInBounds_toArray, List.set_cons_succ, List.set_cons_zero]
          refine flow_gmake (fun u W => ∃ g, u = .slice (some ⟨g, 0, none⟩) 1 1 ∧ W.ownsRow w.heap.size 40 2 (.slice (some ⟨g46, 0, none⟩) 0 0) 0 [] ∧ NewI W (.slice (some ⟨g46, 0, none⟩) 0 0) u ⟨gd, n⟩) rfl (by kernel_rfl) (by rfl) (by kernel_rfl) (fun W hW hC => ⟨_, _, by go_simp <;> with_reducible rfl, ⟨hW.1.alloc hW.1.size _, trivial⟩, _, rfl, (Fr.of_below (B := 0) (T := []) (S := []) ((Below.refl _ W).alloc (Nat.le_refl _) _)).own hC.1 (by simp) (by simp), NewI.of hC.1⟩) ?_
          rintro u54 ⟨W0, _, g54, rfl, _⟩
          simp only [Act.put, List.setIfInBounds_toArray, List.set_cons_succ, List.set_cons_zero]
          refine flow_gmake (fun v W => W.ownsRow w.heap.size 40 2 v (0 + 0) ([] ++ (([] : List It).take 0).flatMap encI) ∧ ∃ g, (.slice (some ⟨g54, 0, none⟩) 1 1 : Value) = .slice (some ⟨g, 0, none⟩) 1 1 ∧ Rd W 2 (some ⟨g, 0, none⟩) 1 (encI ⟨gd, n⟩)) rfl (by kernel_rfl) (by rfl) (by kernel_rfl) (fun W hW hC => ?_) ?_
          · obtain ⟨_, e54, hO, hN⟩ := hC
            cases e54
            refine exec_append_rd (.tmp 46) (.tmp 49) 26 rfl w.heap.size 40 i1 (.agg #[.string ByteArray.empty, .int .i64 0]) 2 24 Try.underlying26 hi1 hy0 hy1 hy2 rfl (by decide) _ 0 [] rfl (hO) none 0 0 ((([] : List It).take 0).flatMap encI) rfl (HT.out W hW.1.1) (i_one _) (by unfold maxLen; omega) (by omega) hW.1.1.size (fun v' w' x2 x3 => ?_)
            have fx : Fr w.heap.size [40] [] W w' := (Fr.refl W).grown x3 (fun j hj => by
              obtain ⟨hb, cs, hc⟩ := own_block hO hj
              exact ⟨hb, .inr ⟨cs, _, _, hc, by simp⟩⟩)
            exact ⟨⟨⟨hW.1.1.trans (fx.below hW.1.1.size), trivial⟩, trivial⟩, x2, (NewI.grown hN x3)⟩
          rintro v50 ⟨W0, _, hv50, _⟩
          obtain ⟨A50, c50, rfl, _, _, _, _⟩ := own_slice hv50
          clear hv50
          simp only [Act.put, List.setIfInBounds_toArray, List.set_cons_succ, List.set_cons_zero]
          refine flow_gmake (fun v W => W.ownsRow w.heap.size 40 2 v (0 + 0 + 1) ([] ++ (([] : List It).take 0).flatMap encI ++ encI ⟨gd, n⟩)) rfl (by kernel_rfl) (by rfl) (by kernel_rfl) (fun W hW hC => ?_) ?_
          · obtain ⟨hO, g55, e55, hR⟩ := hC
            cases e55
            refine exec_append_rd (.tmp 50) (.tmp 54) 26 rfl w.heap.size 40 i1 (.agg #[.string ByteArray.empty, .int .i64 0]) 2 24 Try.underlying26 hi1 hy0 hy1 hy2 rfl (by decide) _ (0 + 0) _ rfl (hO) (some ⟨g54, 0, none⟩) 1 1 (encI ⟨gd, n⟩) rfl (hR) (by simp [encI, Value.oneCell']) (by unfold maxLen; omega) (by omega) hW.1.1.1.size (fun v' w' x2 x3 => ?_)
            have fx : Fr w.heap.size [40] [] W w' := (Fr.refl W).grown x3 (fun j hj => by
              obtain ⟨hb, cs, hc⟩ := own_block hO hj
              exact ⟨hb, .inr ⟨cs, _, _, hc, by simp⟩⟩)
            exact ⟨⟨⟨⟨hW.1.1.1.trans (fx.below hW.1.1.1.size), trivial⟩, trivial⟩, trivial⟩, x2⟩
          rintro v55 ⟨W0, _, hv55⟩
          obtain ⟨A55, c55, rfl, _, _, _, _⟩ := own_slice hv55
          clear hv55
          simp only [Act.put, List.setIfInBounds_toArray, List.set_cons_succ, List.set_cons_zero]
          refine flow_gmake (fun v W => W.ownsRow w.heap.size 40 2 v (0 + 0 + 1 + 0) ([] ++ (([] : List It).take 0).flatMap encI ++ encI ⟨gd, n⟩ ++ (([] : List It).drop 0).flatMap encI)) rfl (by kernel_rfl) (by rfl) (by kernel_rfl) (fun W hW hC => ?_) ?_
          · refine exec_append_rd (.tmp 55) (.tmp 58) 26 rfl w.heap.size 40 i1 (.agg #[.string ByteArray.empty, .int .i64 0]) 2 24 Try.underlying26 hi1 hy0 hy1 hy2 rfl (by decide) _ (0 + 0 + 1) _ rfl (hC) none 0 0 ((([] : List It).drop 0).flatMap encI) rfl (HD.out W hW.1.1.1.1) (i_one _) (by unfold maxLen; omega) (by omega) hW.1.1.1.1.size (fun v' w' x2 x3 => ?_)
            have fx : Fr w.heap.size [40] [] W w' := (Fr.refl W).grown x3 (fun j hj => by
              obtain ⟨hb, cs, hc⟩ := own_block hC hj
              exact ⟨hb, .inr ⟨cs, _, _, hc, by simp⟩⟩)
            exact ⟨⟨⟨⟨⟨hW.1.1.1.1.trans (fx.below hW.1.1.1.1.size), trivial⟩, trivial⟩, trivial⟩, trivial⟩, x2⟩
          rintro v59 ⟨W0, _, _⟩
          simp only [Act.put, List.setIfInBounds_toArray, List.set_cons_succ, List.set_cons_zero]
          refine flow_val ?_ rfl (by kernel_rfl) (by rfl) (fun W hW => ?_) ?_
          rotate_left 1
          · go_simp <;> with_reducible rfl
          simp only [Act.put, List.setIfInBounds_toArray, List.set_cons_succ, List.set_cons_zero]
          refine flow_done2 ?_
          intro W hW hC
          have hbw := hW.1.1.1.1.1
          go_wp2
          go_ret
          exact ⟨_, rfl, put_end HPI.out (by rw [Nat.sub_self]; exact hC), hbw⟩
        · simp only [addAfter, addL]
          refine ok_flow (fun W => Below w.heap.size w W) Nil_ [1, 2, 3, 5, 6, 7, 10, 11, 12, 0, 4, 8, 9, 13, 14] (fun _ => trivial) rfl (fun _ _ _ _ _ h => callsIn_wide.2 h) (by kernel_rfl) (by kernel_rfl) ((Below.refl _ _).drew) (trivial) ?_
          refine flow_val ?_ rfl (by kernel_rfl) (by rfl) (fun W hW => ?_) ?_
          rotate_left 1
          · go_simp <;> with_reducible rfl
          simp only [Act.put, List.setIfInBounds_toArray, List.set_cons_succ, List.set_cons_zero]
          refine flow_val ?_ rfl (by kernel_rfl) (by rfl) (fun W hW => ?_) ?_
          rotate_left 1
          · go_simp <;> with_reducible rfl
          simp only [Act.put, List.setIfInBounds_toArray, List.set_cons_succ, List.set_cons_zero]
          refine flow_val ?_ rfl (by kernel_rfl) (by rfl) (fun W hW => ?_) ?_
          rotate_left 1
          · go_simp <;> with_reducible rfl
          simp only [Act.put, List.setIfInBounds_toArray, List.set_cons_succ, List.set_cons_zero]
          refine flow_val ?_ rfl (by kernel_rfl) (by rfl) (fun W hW => ?_) ?_
          rotate_left 1
          · go_simp <;> with_reducible rfl
          simp only [Act.put, List.setIfInBounds_toArray, List.set_cons_succ, List.set_cons_zero]
          refine flow_val ?_ rfl (by kernel_rfl) (by rfl) (fun W hW => ?_) ?_
          rotate_left 1
          · go_simp <;> with_reducible rfl
          simp only [Act.put, List.setIfInBounds_toArray, List.set_cons_succ, List.set_cons_zero]
          refine flow_val ?_ rfl (by kernel_rfl) (by rfl) (fun W hW => ?_) ?_
          rotate_left 1
          · go_simp <;> with_reducible rfl
          simp only [Act.put, List.setIfInBounds_toArray, List.set_cons_succ, List.set_cons_zero]
          refine flow_val ?_ rfl (by kernel_rfl) (by rfl) (fun W hW => ?_) ?_
          rotate_left 1
          · go_simp <;> with_reducible rfl
          simp only [Act.put, List.setIfInBounds_toArray, List.set_cons_succ, List.set_cons_zero]
          refine flow_val ?_ rfl (by kernel_rfl) (by rfl) (fun W hW => ?_) ?_
          rotate_left 1
          · go_simp <;> with_reducible rfl
          simp only [Act.put, List.setIfInBounds_toArray, List.set_cons_succ, List.set_cons_zero]
          refine flow_val ?_ rfl (by kernel_rfl) (by rfl) (fun W hW => ?_) ?_
          rotate_left 1
          · go_simp <;> with_reducible rfl
          simp only [Act.put, List.setIfInBounds_toArray, List.set_cons_succ, List.set_cons_zero]
          refine flow_gmake (fun v W => W.ownsRow w.heap.size 40 2 v 0 [] ∧ ∃ g, v = .slice (some ⟨g, 0, none⟩) 0 0) rfl (by kernel_rfl) (by rfl) (by kernel_rfl) (fun W hW hC => ⟨_, _, by go_simp <;> with_reducible rfl, hW.alloc hW.size _, ownI_low (own_empty (w := W) 40 2) hW.size, _, rfl⟩) ?_
          rintro v46 ⟨W0, _, _, g46, rfl⟩
          simp only [Act.put, List.setIfInBounds_toArray, List.set_cons_succ, List.set_cons_zero]
          refine flow_gmake (fun v W => W.ownsRow w.heap.size 40 2 v (0 + 0) ([] ++ (([] : List It).take 0).flatMap encI)) rfl (by kernel_rfl) (by rfl) (by kernel_rfl) (fun W hW hC => ?_) ?_
          · refine exec_append_rd (.tmp 46) (.tmp 49) 26 rfl w.heap.size 40 i1 (.agg #[.string ByteArray.empty, .int .i64 0]) 2 24 Try.underlying26 hi1 hy0 hy1 hy2 rfl (by decide) _ 0 [] rfl (hC.1) none 0 0 ((([] : List It).take 0).flatMap encI) rfl (HT.out W hW.1) (i_one _) (by unfold maxLen; omega) (by omega) hW.1.size (fun v' w' x2 x3 => ?_)
            have fx : Fr w.heap.size [40] [] W w' := (Fr.refl W).grown x3 (fun j hj => by
              obtain ⟨hb, cs, hc⟩ := own_block hC.1 hj
              exact ⟨hb, .inr ⟨cs, _, _, hc, by simp⟩⟩)
            exact ⟨⟨hW.1.trans (fx.below hW.1.size), trivial⟩, x2⟩
          rintro v50 ⟨W0, _, hv50⟩
          obtain ⟨A50, c50, rfl, _, _, _, _⟩ := own_slice hv50
          clear hv50
          simp only [Act.put, List.setIfInBounds_toArray, List.set_cons_succ, List.set_cons_zero]
          refine flow_gmake (fun u W => ∃ g, u = .slice (some ⟨g, 0, none⟩) 1 1 ∧ W.ownsRow w.heap.size 40 2 (.slice A50 (0 + 0) c50) (0 + 0) ([] ++ (([] : List It).take 0).flatMap encI) ∧ Rd W 2 (some ⟨g, 0, none⟩) 1 (encI ⟨gd, n⟩)) rfl (by kernel_rfl) (by rfl) (by kernel_rfl) (fun W hW hC => ⟨_, _, by go_simp <;> with_reducible rfl, ⟨⟨hW.1.1.alloc hW.1.1.size _, trivial⟩, trivial⟩, _, rfl, (Fr.of_below (B := 0) (T := []) (S := []) ((Below.refl _ W).alloc (Nat.le_refl _) _)).own hC (by simp) (by simp), rd_one (block_new _ _)⟩) ?_
          rintro u54 ⟨W0, _, g54, rfl, _⟩
          simp only [Act.put, List.setIfInBounds_toArray, List.set_cons_succ, List.set_cons_zero]
          refine flow_gmake (fun v W => W.ownsRow w.heap.size 40 2 v (0 + 0 + 1) ([] ++ (([] : List It).take 0).flatMap encI ++ encI ⟨gd, n⟩)) rfl (by kernel_rfl) (by rfl) (by kernel_rfl) (fun W hW hC => ?_) ?_
          · obtain ⟨g55, e55, hO, hR⟩ := hC
            cases e55
            refine exec_append_rd (.tmp 50) (.tmp 54) 26 rfl w.heap.size 40 i1 (.agg #[.string ByteArray.empty, .int .i64 0]) 2 24 Try.underlying26 hi1 hy0 hy1 hy2 rfl (by decide) _ (0 + 0) _ rfl (hO) (some ⟨g54, 0, none⟩) 1 1 (encI ⟨gd, n⟩) rfl (hR) (by simp [encI, Value.oneCell']) (by unfold maxLen; omega) (by omega) hW.1.1.1.size (fun v' w' x2 x3 => ?_)
            have fx : Fr w.heap.size [40] [] W w' := (Fr.refl W).grown x3 (fun j hj => by
              obtain ⟨hb, cs, hc⟩ := own_block hO hj
              exact ⟨hb, .inr ⟨cs, _, _, hc, by simp⟩⟩)
            exact ⟨⟨⟨⟨hW.1.1.1.trans (fx.below hW.1.1.1.size), trivial⟩, trivial⟩, trivial⟩, x2⟩
          rintro v55 ⟨W0, _, hv55⟩
          obtain ⟨A55, c55, rfl, _, _, _, _⟩ := own_slice hv55
          clear hv55
          simp only [Act.put, List.setIfInBounds_toArray, List.set_cons_succ, List.set_cons_zero]
          refine flow_gmake (fun v W => W.ownsRow w.heap.size 40 2 v (0 + 0 + 1 + 0) ([] ++ (([] : List It).take 0).flatMap encI ++ encI ⟨gd, n⟩ ++ (([] : List It).drop 0).flatMap encI)) rfl (by kernel_rfl) (by rfl) (by kernel_rfl) (fun W hW hC => ?_) ?_
          · refine exec_append_rd (.tmp 55) (.tmp 58) 26 rfl w.heap.size 40 i1 (.agg #[.string ByteArray.empty, .int .i64 0]) 2 24 Try.underlying26 hi1 hy0 hy1 hy2 rfl (by decide) _ (0 + 0 + 1) _ rfl (hC) none 0 0 ((([] : List It).drop 0).flatMap encI) rfl (HD.out W hW.1.1.1.1) (i_one _) (by unfold maxLen; omega) (by omega) hW.1.1.1.1.size (fun v' w' x2 x3 => ?_)
            have fx : Fr w.heap.size [40] [] W w' := (Fr.refl W).grown x3 (fun j hj => by
              obtain ⟨hb, cs, hc⟩ := own_block hC hj
              exact ⟨hb, .inr ⟨cs, _, _, hc, by simp⟩⟩)
            exact ⟨⟨⟨⟨⟨hW.1.1.1.1.trans (fx.below hW.1.1.1.1.size), trivial⟩, trivial⟩, trivial⟩, trivial⟩, x2⟩
          rintro v59 ⟨W0, _, _⟩
          simp only [Act.put, List.setIfInBounds_toArray, List.set_cons_succ, List.set_cons_zero]
          refine flow_val ?_ rfl (by kernel_rfl) (by rfl) (fun W hW => ?_) ?_
          rotate_left 1
          · go_simp <;> with_reducible rfl
          simp only [Act.put, List.setIfInBounds_toArray, List.set_cons_succ, List.set_cons_zero]
          refine flow_done2 ?_
          intro W hW hC
          have hbw := hW.1.1.1.1.1
          go_wp2
          go_ret
          exact ⟨_, rfl, put_end HPI.out (by rw [Nat.sub_self]; exact hC), hbw⟩
  · cases hv
    have HR := Lib.hid hr
    have hmI : (0 : Int) ≤ m := by omega
    clear hr hA h hm2
    go_enter Try.func30, Try.ntmps30
    go_wp2_with fail
    go_loopw [7] (fun iv wr => w = wr ∧ ∃ k : Nat, k ≤ m ∧ iv = .int .i64 k ∧ ∀ j (hj : j < l.length), j < k → ltS l[j].good gd = true) (fun iv => fun _ => m - (intOf iv).toNat)
    case atStart => exact ⟨rfl, 0, Nat.zero_le _, rfl, fun j hj h => absurd h (by omega)⟩
    case round =>
      obtain ⟨rfl, k, hk, rfl, hq⟩ := hrel
      have HQ := Lib.hid hq
      clear hq
      have HT : Hid (∀ W, Below w.heap.size w W → Rd W 2 (some ⟨g2, 0, none⟩) k ((l.take k).flatMap encI)) := Lib.hid (fun W hW => by
        have := (HR.out.below hW).take (k := k) (by omega)
        rwa [flat_take] at this)
      have HD : Hid (∀ W, Below w.heap.size w W → Rd W 2 (some ⟨g2, k * 2, none⟩) (m - k) ((l.drop k).flatMap encI)) := Lib.hid (fun W hW => by
        have := (HR.out.below hW).drop (k := k) (by omega) (A := some ⟨g2, k * 2, none⟩) (fun _ => by rw [Nat.zero_add])
        rwa [flat_drop] at this)
      have hkI : (k : Int) ≤ (m : Int) := by omega
      have hkc : k ≤ c2 := by omega
      by_cases hlt : k < m
      · have hkl : k < l.length := by have := HM.out; omega
        obtain ⟨g, o, e, hg, c0, c1⟩ := rdi_at (HM.out.symm ▸ HR.out : Rd w 2 (some ⟨g2, 0, none⟩) l.length (l.flatMap encI)) hkl
        cases e
        simp only [Nat.zero_add] at c0 c1
        have hlt' : decide ((k : Int) < (m : Int)) = true := by simp; omega
        have hltI : (k : Int) < (m : Int) := by omega
        obtain ⟨z, hz⟩ : ∃ z, l[k].good = z := ⟨_, rfl⟩
        obtain ⟨zn, hzn⟩ : ∃ zn, l[k].n = zn := ⟨_, rfl⟩
        rw [hz] at c0
        rw [hzn] at c1
        have HZ := Lib.hid hz
        clear hz hzn hg
        obtain ⟨LT, hLT⟩ : ∃ LT, ltS z gd = LT := ⟨_, rfl⟩
        have HLT := Lib.hid hLT
        have hlt2 : Op.bytesLess z.toList gd.toList = LT := hLT
        clear hLT
        cases LT
        · obtain ⟨EQ, hEQ⟩ : ∃ EQ, (z.toList == gd.toList) = EQ := ⟨_, rfl⟩
          have HEQ := Lib.hid hEQ
          cases EQ
          · have HPI : Hid (putP gd n l = l.take k ++ (⟨gd, n⟩ :: l.drop k) ∧ k ≤ m ∧ l.length = m) := Lib.hid ⟨putP_in (by omega) HQ.out (fun _ => ⟨by rw [HZ.out]; exact HLT.out, by rw [HZ.out]; exact HEQ.out⟩), by omega, HM.out⟩
            have hck : ¬ c2 = k := by omega
            go_wp2_with fail
            refine (wpIn_wide (n := 9)).1 (region_of_ok (by kernel_rfl) (ok_split 0 8 (by decide) ?_ ?_))
            · simp only [addAfter, addL]
              refine ok_flow (fun W => Below w.heap.size w W) Nil_ [1, 2, 3, 5, 6, 7, 10, 11, 12, 8, 0, 4, 9, 13, 14] (fun _ => trivial) rfl (fun _ _ _ _ _ h => callsIn_wide.2 h) (by kernel_rfl) (by kernel_rfl) ((Below.refl _ _).drew) (trivial) ?_
              refine flow_val ?_ rfl (by kernel_rfl) (by rfl) (fun W hW => ?_) ?_
              rotate_left 1
              · go_simp <;> with_reducible rfl
              simp only [Act.put, List.setIfInBounds_toArray, List.set_cons_succ, List.set_cons_zero]
              refine flow_val ?_ rfl (by kernel_rfl) (by rfl) (fun W hW => ?_) ?_
              rotate_left 1
              · go_simp <;> with_reducible rfl
              simp only [Act.put, List.setIfInBounds_toArray, List.set_cons_succ, List.set_cons_zero]
              refine flow_val ?_ rfl (by kernel_rfl) (by rfl) (fun W hW => ?_) ?_
              rotate_left 1
              · go_simp <;> with_reducible rfl
              simp only [Act.put, List.setIfInBounds_toArray, List.set_cons_succ, List.set_cons_zero]
              refine flow_val ?_ rfl (by kernel_rfl) (by rfl) (fun W hW => ?_) ?_
              rotate_left 1
              · go_simp <;> with_reducible rfl
              simp only [Act.put, List.setIfInBounds_toArray, List.set_cons_succ, List.set_cons_zero]
              refine flow_val ?_ rfl (by kernel_rfl) (by rfl) (fun W hW => ?_) ?_
              rotate_left 1
              · go_simp <;> with_reducible rfl
              simp only [Act.put, List.setIfInBounds_toArray, List.set_cons_succ, List.set_cons_zero]
              refine flow_val ?_ rfl (by kernel_rfl) (by rfl) (fun W hW => ?_) ?_
              rotate_left 1
              · go_simp <;> with_reducible rfl
              simp only [Act.put, List.setIfInBounds_toArray, List.set_cons_succ, List.set_cons_zero]
              refine flow_val ?_ rfl (by kernel_rfl) (by rfl) (fun W hW => ?_) ?_
              rotate_left 1
              · go_simp <;> with_reducible rfl
              simp only [Act.put, List.setIfInBounds_toArray, List.set_cons_succ, List.set_cons_zero]
              refine flow_val ?_ rfl (by kernel_rfl) (by rfl) (fun W hW => ?_) ?_
              rotate_left 1
              · go_simp <;> with_reducible rfl
              simp only [Act.put, List.setIfInBounds_toArray, List.set_cons_succ, List.set_cons_zero]
              refine flow_val ?_ rfl (by kernel_rfl) (by rfl) (fun W hW => ?_) ?_
              rotate_left 1
              · go_simp <;> with_reducible rfl
              simp only [Act.put, List.setIfInBounds_toArray, List.set_cons_succ, List.set_cons_zero]
              refine flow_gmake (fun u W => ∃ g, u = .slice (some ⟨g, 0, none⟩) 1 1 ∧ W.heap[g]? = some (.cells #[.string gd, .int .i64 n] 40 (0, 0))) rfl (by kernel_rfl) (by rfl) (by kernel_rfl) (fun W hW hC => ⟨_, _, by go_simp <;> with_reducible rfl, hW.alloc hW.size _, _, rfl, block_new _ _⟩) ?_
              rintro u54 ⟨W0, _, g54, rfl, _⟩
              simp only [Act.put, List.setIfInBounds_toArray, List.set_cons_succ, List.set_cons_zero]
              refine flow_gmake (fun v W => W.ownsRow w.heap.size 40 2 v 0 [] ∧ (∃ g, v = .slice (some ⟨g, 0, none⟩) 0 0) ∧ NewI W v (.slice (some ⟨g54, 0, none⟩) 1 1) ⟨gd, n⟩) rfl (by kernel_rfl) (by rfl) (by kernel_rfl) (fun W hW hC => ⟨_, _, by go_simp <;> with_reducible rfl, ⟨hW.1.alloc hW.1.size _, trivial⟩, ownI_low (own_empty (w := W) 40 2) hW.1.size, ⟨_, rfl⟩, new_a hC⟩) ?_
              rintro v46 ⟨W0, _, _, ⟨g46, rfl⟩, _⟩
              simp only [Act.put, List.setIfInBounds_toArray, List.set_cons_succ, List.set_cons_zero]
              refine flow_gmake (fun v W => W.ownsRow w.heap.size 40 2 v (0 + k) ([] ++ (l.take k).flatMap encI) ∧ ∃ g, (.slice (some ⟨g54, 0, none⟩) 1 1 : Value) = .slice (some ⟨g, 0, none⟩) 1 1 ∧ Rd W 2 (some ⟨g, 0, none⟩) 1 (encI ⟨gd, n⟩)) rfl (by kernel_rfl) (by rfl) (by kernel_rfl) (fun W hW hC => ?_) ?_
              · obtain ⟨hO, _, hN⟩ := hC
                refine exec_append_rd (.tmp 46) (.tmp 49) 26 rfl w.heap.size 40 i1 (.agg #[.string ByteArray.empty, .int .i64 0]) 2 24 Try.underlying26 hi1 hy0 hy1 hy2 rfl (by decide) _ 0 [] rfl (hO) (some ⟨g2, 0, none⟩) k c2 ((l.take k).flatMap encI) rfl (HT.out W hW.1.1) (i_one _) (by unfold maxLen; omega) (by omega) hW.1.1.size (fun v' w' x2 x3 => ?_)
                have fx : Fr w.heap.size [40] [] W w' := (Fr.refl W).grown x3 (fun j hj => by
                  obtain ⟨hb, cs, hc⟩ := own_block hO hj
                  exact ⟨hb, .inr ⟨cs, _, _, hc, by simp⟩⟩)
                exact ⟨⟨⟨hW.1.1.trans (fx.below hW.1.1.size), trivial⟩, trivial⟩, x2, (NewI.grown hN x3)⟩
              rintro v50 ⟨W0, _, hv50, _⟩
              obtain ⟨A50, c50, rfl, _, _, _, _⟩ := own_slice hv50
              clear hv50
              simp only [Act.put, List.setIfInBounds_toArray, List.set_cons_succ, List.set_cons_zero]
              refine flow_gmake (fun v W => W.ownsRow w.heap.size 40 2 v (0 + k + 1) ([] ++ (l.take k).flatMap encI ++ encI ⟨gd, n⟩)) rfl (by kernel_rfl) (by rfl) (by kernel_rfl) (fun W hW hC => ?_) ?_
              · obtain ⟨hO, g55, e55, hR⟩ := hC
                cases e55
                refine exec_append_rd (.tmp 50) (.tmp 54) 26 rfl w.heap.size 40 i1 (.agg #[.string ByteArray.empty, .int .i64 0]) 2 24 Try.underlying26 hi1 hy0 hy1 hy2 rfl (by decide) _ (0 + k) _ rfl (hO) (some ⟨g54, 0, none⟩) 1 1 (encI ⟨gd, n⟩) rfl (hR) (by simp [encI, Value.oneCell']) (by unfold maxLen; omega) (by omega) hW.1.1.1.size (fun v' w' x2 x3 => ?_)
                have fx : Fr w.heap.size [40] [] W w' := (Fr.refl W).grown x3 (fun j hj => by
                  obtain ⟨hb, cs, hc⟩ := own_block hO hj
                  exact ⟨hb, .inr ⟨cs, _, _, hc, by simp⟩⟩)
                exact ⟨⟨⟨⟨hW.1.1.1.trans (fx.below hW.1.1.1.size), trivial⟩, trivial⟩, trivial⟩, x2⟩
              rintro v55 ⟨W0, _, hv55⟩
              obtain ⟨A55, c55, rfl, _, _, _, _⟩ := own_slice hv55
              clear hv55
              simp only [Act.put, List.setIfInBounds_toArray, List.set_cons_succ, List.set_cons_zero]
              refine flow_gmake (fun v W => W.ownsRow w.heap.size 40 2 v (0 + k + 1 + (m - k)) ([] ++ (l.take k).flatMap encI ++ encI ⟨gd, n⟩ ++ (l.drop k).flatMap encI)) rfl (by kernel_rfl) (by rfl) (by kernel_rfl) (fun W hW hC => ?_) ?_
              · refine exec_append_rd (.tmp 55) (.tmp 58) 26 rfl w.heap.size 40 i1 (.agg #[.string ByteArray.empty, .int .i64 0]) 2 24 Try.underlying26 hi1 hy0 hy1 hy2 rfl (by decide) _ (0 + k + 1) _ rfl (hC) (some ⟨g2, k * 2, none⟩) (m - k) (c2 - k) ((l.drop k).flatMap encI) rfl (HD.out W hW.1.1.1.1) (i_one _) (by unfold maxLen; omega) (by omega) hW.1.1.1.1.size (fun v' w' x2 x3 => ?_)
                have fx : Fr w.heap.size [40] [] W w' := (Fr.refl W).grown x3 (fun j hj => by
                  obtain ⟨hb, cs, hc⟩ := own_block hC hj
                  exact ⟨hb, .inr ⟨cs, _, _, hc, by simp⟩⟩)
                exact ⟨⟨⟨⟨⟨hW.1.1.1.1.trans (fx.below hW.1.1.1.1.size), trivial⟩, trivial⟩, trivial⟩, trivial⟩, x2⟩
              rintro v59 ⟨W0, _, _⟩
              simp only [Act.put, List.setIfInBounds_toArray, List.set_cons_succ, List.set_cons_zero]
              refine flow_val ?_ rfl (by kernel_rfl) (by rfl) (fun W hW => ?_) ?_
              rotate_left 1
              · go_simp <;> with_reducible rfl
              simp only [Act.put, List.setIfInBounds_toArray, List.set_cons_succ, List.set_cons_zero]
              refine flow_done2 ?_
              intro W hW hC
              have hbw := hW.1.1.1.1.1
              go_wp2
              go_ret
              exact ⟨_, rfl, put_end HPI.out hC, hbw⟩
            · refine ok_split 4 8 (by decide) ?_ ?_
              · simp only [addAfter, addL]
                refine ok_flow (fun W => Below w.heap.size w W) Nil_ [1, 2, 3, 5, 6, 7, 10, 11, 12, 0, 8, 4, 9, 13, 14] (fun _ => trivial) rfl (fun _ _ _ _ _ h => callsIn_wide.2 h) (by kernel_rfl) (by kernel_rfl) ((Below.refl _ _).drew) (trivial) ?_
                refine flow_val ?_ rfl (by kernel_rfl) (by rfl) (fun W hW => ?_) ?_
                rotate_left 1
                · go_simp <;> with_reducible rfl
                simp only [Act.put, List.setIfInBounds_toArray, List.set_cons_succ, List.set_cons_zero]
                refine flow_val ?_ rfl (by kernel_rfl) (by rfl) (fun W hW => ?_) ?_
                rotate_left 1
                · go_simp <;> with_reducible rfl
                simp only [Act.put, List.setIfInBounds_toArray, List.set_cons_succ, List.set_cons_zero]
                refine flow_val ?_ rfl (by kernel_rfl) (by rfl) (fun W hW => ?_) ?_
                rotate_left 1
                · go_simp <;> with_reducible rfl
                simp only [Act.put, List.setIfInBounds_toArray, List.set_cons_succ, List.set_cons_zero]
                refine flow_val ?_ rfl (by kernel_rfl) (by rfl) (fun W hW => ?_) ?_
                rotate_left 1
                · go_simp <;> with_reducible rfl
                simp only [Act.put, List.setIfInBounds_toArray, List.set_cons_succ, List.set_cons_zero]
                refine flow_val ?_ rfl (by kernel_rfl) (by rfl) (fun W hW => ?_) ?_
                rotate_left 1
                · go_simp <;> with_reducible rfl
                simp only [Act.put, List.setIfInBounds_toArray, List.set_cons_succ, List.set_cons_zero]
                refine flow_val ?_ rfl (by kernel_rfl) (by rfl) (fun W hW => ?_) ?_
                rotate_left 1
                · go_simp <;> with_reducible rfl
                simp only [Act.put, List.setIfInBounds_toArray, List.set_cons_succ, List.set_cons_zero]
                refine flow_val ?_ rfl (by kernel_rfl) (by rfl) (fun W hW => ?_) ?_
                rotate_left 1
                · go_simp <;> with_reducible rfl
                simp only [Act.put, List.setIfInBounds_toArray, List.set_cons_succ, List.set_cons_zero]
                refine flow_val ?_ rfl (by kernel_rfl) (by rfl) (fun W hW => ?_) ?_
                rotate_left 1
                · go_simp <;> with_reducible rfl
                simp only [Act.put, List.setIfInBounds_toArray, List.set_cons_succ, List.set_cons_zero]
                refine flow_val ?_ rfl (by kernel_rfl) (by rfl) (fun W hW => ?_) ?_
                rotate_left 1
                · go_simp <;> with_reducible rfl
                simp only [Act.put, List.setIfInBounds_toArray, List.set_cons_succ, List.set_cons_zero]
                refine flow_gmake (fun v W => W.ownsRow w.heap.size 40 2 v 0 [] ∧ ∃ g, v = .slice (some ⟨g, 0, none⟩) 0 0) rfl (by kernel_rfl) (by rfl) (by kernel_rfl) (fun W hW hC => ⟨_, _, by go_simp <;> with_reducible rfl, hW.alloc hW.size _, ownI_low (own_empty (w := W) 40 2) hW.size, _, rfl⟩) ?_
                rintro v46 ⟨W0, _, _, g46, rfl⟩
                simp only [Act.put, List.setIfInBounds_toArray, List.set_cons_succ, List.set_cons_zero]
                refine flow_gmake (fun u W => ∃ g, u = .slice (some ⟨g, 0, none⟩) 1 1 ∧ W.ownsRow w.heap.size 40 2 (.slice (some ⟨g46, 0, none⟩) 0 0) 0 [] ∧ NewI W (.slice (some ⟨g46, 0, none⟩) 0 0) u ⟨gd, n⟩) rfl (by kernel_rfl) (by rfl) (by kernel_rfl) (fun W hW hC => ⟨_, _, by go_simp <;> with_reducible rfl, ⟨hW.1.alloc hW.1.size _, trivial⟩, _, rfl, (Fr.of_below (B := 0) (T := []) (S := []) ((Below.refl _ W).alloc (Nat.le_refl _) _)).own hC.1 (by simp) (by simp), NewI.of hC.1⟩) ?_
                rintro u54 ⟨W0, _, g54, rfl, _⟩
                simp only [Act.put, List.setIfInBounds_toArray, List.set_cons_succ, List.set_cons_zero]
                refine flow_gmake (fun v W => W.ownsRow w.heap.size 40 2 v (0 + k) ([] ++ (l.take k).flatMap encI) ∧ ∃ g, (.slice (some ⟨g54, 0, none⟩) 1 1 : Value) = .slice (some ⟨g, 0, none⟩) 1 1 ∧ Rd W 2 (some ⟨g, 0, none⟩) 1 (encI ⟨gd, n⟩)) rfl (by kernel_rfl) (by rfl) (by kernel_rfl) (fun W hW hC => ?_) ?_
                · obtain ⟨_, e54, hO, hN⟩ := hC
                  cases e54
                  refine exec_append_rd (.tmp 46) (.tmp 49) 26 rfl w.heap.size 40 i1 (.agg #[.string ByteArray.empty, .int .i64 0]) 2 24 Try.underlying26 hi1 hy0 hy1 hy2 rfl (by decide) _ 0 [] rfl (hO) (some ⟨g2, 0, none⟩) k c2 ((l.take k).flatMap encI) rfl (HT.out W hW.1.1) (i_one _) (by unfold maxLen; omega) (by omega) hW.1.1.size (fun v' w' x2 x3 => ?_)
                  have fx : Fr w.heap.size [40] [] W w' := (Fr.refl W).grown x3 (fun j hj => by
                    obtain ⟨hb, cs, hc⟩ := own_block hO hj
                    exact ⟨hb, .inr ⟨cs, _, _, hc, by simp⟩⟩)
                  exact ⟨⟨⟨hW.1.1.trans (fx.below hW.1.1.size), trivial⟩, trivial⟩, x2, (NewI.grown hN x3)⟩
                rintro v50 ⟨W0, _, hv50, _⟩
                obtain ⟨A50, c50, rfl, _, _, _, _⟩ := own_slice hv50
                clear hv50
                simp only [Act.put, List.setIfInBounds_toArray, List.set_cons_succ, List.set_cons_zero]
                refine flow_gmake (fun v W => W.ownsRow w.heap.size 40 2 v (0 + k + 1) ([] ++ (l.take k).flatMap encI ++ encI ⟨gd, n⟩)) rfl (by kernel_rfl) (by rfl) (by kernel_rfl) (fun W hW hC => ?_) ?_
                · obtain ⟨hO, g55, e55, hR⟩ := hC
                  cases e55
                  refine exec_append_rd (.tmp 50) (.tmp 54) 26 rfl w.heap.size 40 i1 (.agg #[.string ByteArray.empty, .int .i64 0]) 2 24 Try.underlying26 hi1 hy0 hy1 hy2 rfl (by decide) _ (0 + k) _ rfl (hO) (some ⟨g54, 0, none⟩) 1 1 (encI ⟨gd, n⟩) rfl (hR) (by simp [encI, Value.oneCell']) (by unfold maxLen; omega) (by omega) hW.1.1.1.size (fun v' w' x2 x3 => ?_)
                  have fx : Fr w.heap.size [40] [] W w' := (Fr.refl W).grown x3 (fun j hj => by
                    obtain ⟨hb, cs, hc⟩ := own_block hO hj
                    exact ⟨hb, .inr ⟨cs, _, _, hc, by simp⟩⟩)
                  exact ⟨⟨⟨⟨hW.1.1.1.trans (fx.below hW.1.1.1.size), trivial⟩, trivial⟩, trivial⟩, x2⟩
                rintro v55 ⟨W0, _, hv55⟩
                obtain ⟨A55, c55, rfl, _, _, _, _⟩ := own_slice hv55
                clear hv55
                simp only [Act.put, List.setIfInBounds_toArray, List.set_cons_succ, List.set_cons_zero]
                refine flow_gmake (fun v W => W.ownsRow w.heap.size 40 2 v (0 + k + 1 + (m - k)) ([] ++ (l.take k).flatMap encI ++ encI ⟨gd, n⟩ ++ (l.drop k).flatMap encI)) rfl (by kernel_rfl) (by rfl) (by kernel_rfl) (fun W hW hC => ?_) ?_
                · refine exec_append_rd (.tmp 55) (.tmp 58) 26 rfl w.heap.size 40 i1 (.agg #[.string ByteArray.empty, .int .i64 0]) 2 24 Try.underlying26 hi1 hy0 hy1 hy2 rfl (by decide) _ (0 + k + 1) _ rfl (hC) (some ⟨g2, k * 2, none⟩) (m - k) (c2 - k) ((l.drop k).flatMap encI) rfl (HD.out W hW.1.1.1.1) (i_one _) (by unfold maxLen; omega) (by omega) hW.1.1.1.1.size (fun v' w' x2 x3 => ?_)
                  have fx : Fr w.heap.size [40] [] W w' := (Fr.refl W).grown x3 (fun j hj => by
                    obtain ⟨hb, cs, hc⟩ := own_block hC hj
                    exact ⟨hb, .inr ⟨cs, _, _, hc, by simp⟩⟩)
                  exact ⟨⟨⟨⟨⟨hW.1.1.1.1.trans (fx.below hW.1.1.1.1.size), trivial⟩, trivial⟩, trivial⟩, trivial⟩, x2⟩
                rintro v59 ⟨W0, _, _⟩
                simp only [Act.put, List.setIfInBounds_toArray, List.set_cons_succ, List.set_cons_zero]
                refine flow_val ?_ rfl (by kernel_rfl) (by rfl) (fun W hW => ?_) ?_
                rotate_left 1
                · go_simp <;> with_reducible rfl
                simp only [Act.put, List.setIfInBounds_toArray, List.set_cons_succ, List.set_cons_zero]
                refine flow_done2 ?_
                intro W hW hC
                have hbw := hW.1.1.1.1.1
                go_wp2
                go_ret
                exact ⟨_, rfl, put_end HPI.out hC, hbw⟩
              · simp only [addAfter, addL]
                refine ok_flow (fun W => Below w.heap.size w W) Nil_ [1, 2, 3, 5, 6, 7, 10, 11, 12, 0, 4, 8, 9, 13, 14] (fun _ => trivial) rfl (fun _ _ _ _ _ h => callsIn_wide.2 h) (by kernel_rfl) (by kernel_rfl) ((Below.refl _ _).drew) (trivial) ?_
                refine flow_val ?_ rfl (by kernel_rfl) (by rfl) (fun W hW => ?_) ?_
                rotate_left 1
                · go_simp <;> with_reducible rfl
                simp only [Act.put, List.setIfInBounds_toArray, List.set_cons_succ, List.set_cons_zero]
                refine flow_val ?_ rfl (by kernel_rfl) (by rfl) (fun W hW => ?_) ?_
                rotate_left 1
                · go_simp <;> with_reducible rfl
                simp only [Act.put, List.setIfInBounds_toArray, List.set_cons_succ, List.set_cons_zero]
                refine flow_val ?_ rfl (by kernel_rfl) (by rfl) (fun W hW => ?_) ?_
                rotate_left 1
                · go_simp <;> with_reducible rfl
                simp only [Act.put, List.setIfInBounds_toArray, List.set_cons_succ, List.set_cons_zero]
                refine flow_val ?_ rfl (by kernel_rfl) (by rfl) (fun W hW => ?_) ?_
                rotate_left 1
                · go_simp <;> with_reducible rfl
                simp only [Act.put, List.setIfInBounds_toArray, List.set_cons_succ, List.set_cons_zero]
                refine flow_val ?_ rfl (by kernel_rfl) (by rfl) (fun W hW => ?_) ?_
                rotate_left 1
                · go_simp <;> with_reducible rfl
                simp only [Act.put, List.setIfInBounds_toArray, List.set_cons_succ, List.set_cons_zero]
                refine flow_val ?_ rfl (by kernel_rfl) (by rfl) (fun W hW => ?_) ?_
                rotate_left 1
                · go_simp <;> with_reducible rfl
                simp only [Act.put, List.setIfInBounds_toArray, List.set_cons_succ, List.set_cons_zero]
                refine flow_val ?_ rfl (by kernel_rfl) (by rfl) (fun W hW => ?_) ?_
                rotate_left 1
                · go_simp <;> with_reducible rfl
                simp only [Act.put, List.setIfInBounds_toArray, List.set_cons_succ, List.set_cons_zero]
                refine flow_val ?_ rfl (by kernel_rfl) (by rfl) (fun W hW => ?_) ?_
                rotate_left 1
                · go_simp <;> with_reducible rfl
                simp only [Act.put, List.setIfInBounds_toArray, List.set_cons_succ, List.set_cons_zero]
                refine flow_val ?_ rfl (by kernel_rfl) (by rfl) (fun W hW => ?_) ?_
                rotate_left 1
                · go_simp <;> with_reducible rfl
                simp only [Act.put, List.setIfInBounds_toArray, List.set_cons_succ, List.set_cons_zero]
                refine flow_gmake (fun v W => W.ownsRow w.heap.size 40 2 v 0 [] ∧ ∃ g, v = .slice (some ⟨g, 0, none⟩) 0 0) rfl (by kernel_rfl) (by rfl) (by kernel_rfl) (fun W hW hC => ⟨_, _, by go_simp <;> with_reducible rfl, hW.alloc hW.size _, ownI_low (own_empty (w := W) 40 2) hW.size, _, rfl⟩) ?_
                rintro v46 ⟨W0, _, _, g46, rfl⟩
                simp only [Act.put, List.setIfInBounds_toArray, List.set_cons_succ, List.set_cons_zero]
                refine flow_gmake (fun v W => W.ownsRow w.heap.size 40 2 v (0 + k) ([] ++ (l.take k).flatMap encI)) rfl (by kernel_rfl) (by rfl) (by kernel_rfl) (fun W hW hC => ?_) ?_
                · refine exec_append_rd (.tmp 46) (.tmp 49) 26 rfl w.heap.size 40 i1 (.agg #[.string ByteArray.empty, .int .i64 0]) 2 24 Try.underlying26 hi1 hy0 hy1 hy2 rfl (by decide) _ 0 [] rfl (hC.1) (some ⟨g2, 0, none⟩) k c2 ((l.take k).flatMap encI) rfl (HT.out W hW.1) (i_one _) (by unfold maxLen; omega) (by omega) hW.1.size (fun v' w' x2 x3 => ?_)
                  have fx : Fr w.heap.size [40] [] W w' := (Fr.refl W).grown x3 (fun j hj => by
                    obtain ⟨hb, cs, hc⟩ := own_block hC.1 hj
                    exact ⟨hb, .inr ⟨cs, _, _, hc, by simp⟩⟩)
                  exact ⟨⟨hW.1.trans (fx.below hW.1.size), trivial⟩, x2⟩
                rintro v50 ⟨W0, _, hv50⟩
                obtain ⟨A50, c50, rfl, _, _, _, _⟩ := own_slice hv50
                clear hv50
                simp only [Act.put, List.setIfInBounds_toArray, List.set_cons_succ, List.set_cons_zero]
                refine flow_gmake (fun u W => ∃ g, u = .slice (some ⟨g, 0, none⟩) 1 1 ∧ W.ownsRow w.heap.size 40 2 (.slice A50 (0 + k) c50) (0 + k) ([] ++ (l.take k).flatMap encI) ∧ Rd W 2 (some ⟨g, 0, none⟩) 1 (encI ⟨gd, n⟩)) rfl (by kernel_rfl) (by rfl) (by kernel_rfl) (fun W hW hC => ⟨_, _, by go_simp <;> with_reducible rfl, ⟨⟨hW.1.1.alloc hW.1.1.size _, trivial⟩, trivial⟩, _, rfl, (Fr.of_below (B := 0) (T := []) (S := []) ((Below.refl _ W).alloc (Nat.le_refl _) _)).own hC (by simp) (by simp), rd_one (block_new _ _)⟩) ?_
                rintro u54 ⟨W0, _, g54, rfl, _⟩
                simp only [Act.put, List.setIfInBounds_toArray, List.set_cons_succ, List.set_cons_zero]
                refine flow_gmake (fun v W => W.ownsRow w.heap.size 40 2 v (0 + k + 1) ([] ++ (l.take k).flatMap encI ++ encI ⟨gd, n⟩)) rfl (by kernel_rfl) (by rfl) (by kernel_rfl) (fun W hW hC => ?_) ?_
                · obtain ⟨g55, e55, hO, hR⟩ := hC
                  cases e55
                  refine exec_append_rd (.tmp 50) (.tmp 54) 26 rfl w.heap.size 40 i1 (.agg #[.string ByteArray.empty, .int .i64 0]) 2 24 Try.underlying26 hi1 hy0 hy1 hy2 rfl (by decide) _ (0 + k) _ rfl (hO) (some ⟨g54, 0, none⟩) 1 1 (encI ⟨gd, n⟩) rfl (hR) (by simp [encI, Value.oneCell']) (by unfold maxLen; omega) (by omega) hW.1.1.1.size (fun v' w' x2 x3 => ?_)
                  have fx : Fr w.heap.size [40] [] W w' := (Fr.refl W).grown x3 (fun j hj => by
                    obtain ⟨hb, cs, hc⟩ := own_block hO hj
                    exact ⟨hb, .inr ⟨cs, _, _, hc, by simp⟩⟩)
                  exact ⟨⟨⟨⟨hW.1.1.1.trans (fx.below hW.1.1.1.size), trivial⟩, trivial⟩, trivial⟩, x2⟩
                rintro v55 ⟨W0, _, hv55⟩
                obtain ⟨A55, c55, rfl, _, _, _, _⟩ := own_slice hv55
                clear hv55
                simp only [Act.put, List.setIfInBounds_toArray, List.set_cons_succ, List.set_cons_zero]
                refine flow_gmake (fun v W => W.ownsRow w.heap.size 40 2 v (0 + k + 1 + (m - k)) ([] ++ (l.take k).flatMap encI ++ encI ⟨gd, n⟩ ++ (l.drop k).flatMap encI)) rfl (by kernel_rfl) (by rfl) (by kernel_rfl) (fun W hW hC => ?_) ?_
                · refine exec_append_rd (.tmp 55) (.tmp 58) 26 rfl w.heap.size 40 i1 (.agg #[.string ByteArray.empty, .int .i64 0]) 2 24 Try.underlying26 hi1 hy0 hy1 hy2 rfl (by decide) _ (0 + k + 1) _ rfl (hC) (some ⟨g2, k * 2, none⟩) (m - k) (c2 - k) ((l.drop k).flatMap encI) rfl (HD.out W hW.1.1.1.1) (i_one _) (by unfold maxLen; omega) (by omega) hW.1.1.1.1.size (fun v' w' x2 x3 => ?_)
                  have fx : Fr w.heap.size [40] [] W w' := (Fr.refl W).grown x3 (fun j hj => by
                    obtain ⟨hb, cs, hc⟩ := own_block hC hj
                    exact ⟨hb, .inr ⟨cs, _, _, hc, by simp⟩⟩)
                  exact ⟨⟨⟨⟨⟨hW.1.1.1.1.trans (fx.below hW.1.1.1.1.size), trivial⟩, trivial⟩, trivial⟩, trivial⟩, x2⟩
                rintro v59 ⟨W0, _, _⟩
                simp only [Act.put, List.setIfInBounds_toArray, List.set_cons_succ, List.set_cons_zero]
                refine flow_val ?_ rfl (by kernel_rfl) (by rfl) (fun W hW => ?_) ?_
                rotate_left 1
                · go_simp <;> with_reducible rfl
                simp only [Act.put, List.setIfInBounds_toArray, List.set_cons_succ, List.set_cons_zero]
                refine flow_done2 ?_
                intro W hW hC
                have hbw := hW.1.1.1.1.1
                go_wp2
                go_ret
                exact ⟨_, rfl, put_end HPI.out hC, hbw⟩
          · have HPA : Hid (putP gd n l = l.set k ⟨gd, n⟩) := Lib.hid (putP_at hkl HQ.out (by rw [HZ.out]; exact HLT.out) (by rw [HZ.out]; exact HEQ.out))
            have HFS : Hid ((l.flatMap encI).set (k * 2 + 1) (.int .i64 n) = (l.set k ⟨gd, n⟩).flatMap encI) := Lib.hid (flat_set hkl (by rw [HZ.out]; exact HEQ.out))
            have HR2 := Lib.hid (HR.out.below ((Below.refl _ w).alloc (Nat.le_refl _) (.cells #[] 40)))
            have HOE := Lib.hid (own_empty (w := w) 40 2)
            go_wp2_with (at_builtin
                         refine wpList_append_rd _ rfl (.tmp 37) (.tmp 38) 26 rfl w.heap.size 40 i1 (.agg #[.string ByteArray.empty, .int .i64 0]) 2 24 Try.underlying26 hi1 hy0 hy1 hy2 rfl (by decide) (.slice (some ⟨w.heap.size, 0, none⟩) 0 0) 0 [] rfl HOE.out (some ⟨g2, 0, none⟩) m c2 (l.flatMap encI) rfl HR2.out (i_one l) (by unfold maxLen; omega) (by omega) (by simp) ?_
                         intro v2 w2 hown2 hgrow2 _
                         have hb2 : Below w.heap.size w w2 := ((Below.refl _ w).alloc (Nat.le_refl _) (.cells #[] 40)).trans ((((Fr.refl (w.alloc (.cells #[] 40))).grown (B := w.heap.size) (T := [40]) (S := []) hgrow2 fun j hj => by
                           obtain ⟨hb, cs, hc⟩ := own_block HOE.out hj
                           exact ⟨hb, .inr ⟨cs, _, _, hc, by simp⟩⟩)).below (by simp))
                         simp only [Nat.zero_add, List.nil_append] at hown2
                         obtain ⟨g3, c3, rfl⟩ := own_pos hown2 (by omega)
                         have HO2 := Lib.hid hown2
                         have HB2 := Lib.hid hb2
                         obtain ⟨hb3, cs3, hc3⟩ := own_block hown2 rfl
                         have hrd3 := (own_slice hown2)
                         obtain ⟨A4, c4, e4, _, _, hr4, _⟩ := hrd3
                         cases e4
                         obtain ⟨g5, o5, e5, _, d0, d1⟩ := rdi_at (HM.out.symm ▸ hr4 : Rd w2 2 (some ⟨g3, 0, none⟩) l.length (l.flatMap encI)) hkl
                         cases e5
                         have d2 : w2.frozen? ⟨g3, 0 + k * 2 + 1, none⟩ = false := frozen_at hc3 _
                         simp only [Nat.zero_add] at d1 d2
                         have HG3 := Lib.hid hb3
                         clear hown2 hgrow2 hb2 hr4 d0 hc3 hb3)
            go_ret
            refine ⟨_, rfl, ?_, HB2.out.setCell (p := ⟨g3, _, none⟩) HG3.out _⟩
            have h9 := own_set HO2.out (i := k * 2 + 1) (by omega) (.int .i64 n)
            rw [HPA.out, ← HFS.out, List.length_set, HM.out]
            exact h9
        · go_wp2_with fail
          go_roundw
          case rel => exact ⟨by simp, k + 1, hlt, by go_num, fun j hj hjk => by
            rcases Nat.lt_or_ge j k with h | h
            · exact HQ.out j hj h
            · obtain rfl : j = k := by omega
              rw [HZ.out]; exact HLT.out⟩
          case measure => simp [intOf]; omega
      · have ekm : k = m := by omega
        have hlt' : decide ((k : Int) < (m : Int)) = false := by simp; omega
        have HPI : Hid (putP gd n l = l.take k ++ (⟨gd, n⟩ :: l.drop k) ∧ k ≤ m ∧ l.length = m) := Lib.hid ⟨putP_in (by have := HM.out; omega) HQ.out (fun h => absurd h (by have := HM.out; omega)), by omega, HM.out⟩
        clear hlt hlt'
        subst ekm
        have HD0 : Hid (∀ A W, Rd W 2 A 0 ((l.drop k).flatMap encI)) := Lib.hid (fun A W => by
          rw [List.drop_of_length_le (by have := HM.out; omega)]
          exact Rd.nil)
        by_cases hck : k = c2
        · subst hck
          go_wp2_with fail
          refine (wpIn_wide (n := 9)).1 (region_of_ok (by kernel_rfl) (ok_split 0 8 (by decide) ?_ ?_))
          · simp only [addAfter, addL]
            refine ok_flow (fun W => Below w.heap.size w W) Nil_ [1, 2, 3, 5, 6, 7, 10, 11, 12, 8, 0, 4, 9, 13, 14] (fun _ => trivial) rfl (fun _ _ _ _ _ h => callsIn_wide.2 h) (by kernel_rfl) (by kernel_rfl) ((Below.refl _ _).drew) (trivial) ?_
            refine flow_val ?_ rfl (by kernel_rfl) (by rfl) (fun W hW => ?_) ?_
            rotate_left 1
            · go_simp <;> with_reducible rfl
            simp only [Act.put, List.setIfInBounds_toArray, List.set_cons_succ, List.set_cons_zero]
            refine flow_val ?_ rfl (by kernel_rfl) (by rfl) (fun W hW => ?_) ?_
            rotate_left 1
            · go_simp <;> with_reducible rfl
            simp only [Act.put, List.setIfInBounds_toArray, List.set_cons_succ, List.set_cons_zero]
            refine flow_val ?_ rfl (by kernel_rfl) (by rfl) (fun W hW => ?_) ?_
            rotate_left 1
            · go_simp <;> with_reducible rfl
            simp only [Act.put, List.setIfInBounds_toArray, List.set_cons_succ, List.set_cons_zero]
            refine flow_val ?_ rfl (by kernel_rfl) (by rfl) (fun W hW => ?_) ?_
            rotate_left 1
            · go_simp <;> with_reducible rfl
            simp only [Act.put, List.setIfInBounds_toArray, List.set_cons_succ, List.set_cons_zero]
            refine flow_val ?_ rfl (by kernel_rfl) (by rfl) (fun W hW => ?_) ?_
            rotate_left 1
            · go_simp <;> with_reducible rfl
            simp only [Act.put, List.setIfInBounds_toArray, List.set_cons_succ, List.set_cons_zero]
            refine flow_val ?_ rfl (by kernel_rfl) (by rfl) (fun W hW => ?_) ?_
            rotate_left 1
            · go_simp <;> with_reducible rfl
            simp only [Act.put, List.setIfInBounds_toArray, List.set_cons_succ, List.set_cons_zero]
            refine flow_val ?_ rfl (by kernel_rfl) (by rfl) (fun W hW => ?_) ?_
            rotate_left 1
            · go_simp <;> with_reducible rfl
            simp only [Act.put, List.setIfInBounds_toArray, List.set_cons_succ, List.set_cons_zero]
            refine flow_val ?_ rfl (by kernel_rfl) (by rfl) (fun W hW => ?_) ?_
            rotate_left 1
            · go_simp <;> with_reducible rfl
            simp only [Act.put, List.setIfInBounds_toArray, List.set_cons_succ, List.set_cons_zero]
            refine flow_val ?_ rfl (by kernel_rfl) (by rfl) (fun W hW => ?_) ?_
            rotate_left 1
            · go_simp <;> with_reducible rfl
            simp only [Act.put, List.setIfInBounds_toArray, List.set_cons_succ, List.set_cons_zero]
            refine flow_gmake (fun u W => ∃ g, u = .slice (some ⟨g, 0, none⟩) 1 1 ∧ W.heap[g]? = some (.cells #[.string gd, .int .i64 n] 40 (0, 0))) rfl (by kernel_rfl) (by rfl) (by kernel_rfl) (fun W hW hC => ⟨_, _, by go_simp <;> with_reducible rfl, hW.alloc hW.size _, _, rfl, block_new _ _⟩) ?_
            rintro u54 ⟨W0, _, g54, rfl, _⟩
            simp only [Act.put, List.setIfInBounds_toArray, List.set_cons_succ, List.set_cons_zero]
            refine flow_gmake (fun v W => W.ownsRow w.heap.size 40 2 v 0 [] ∧ (∃ g, v = .slice (some ⟨g, 0, none⟩) 0 0) ∧ NewI W v (.slice (some ⟨g54, 0, none⟩) 1 1) ⟨gd, n⟩) rfl (by kernel_rfl) (by rfl) (by kernel_rfl) (fun W hW hC => ⟨_, _, by go_simp <;> with_reducible rfl, ⟨hW.1.alloc hW.1.size _, trivial⟩, ownI_low (own_empty (w := W) 40 2) hW.1.size, ⟨_, rfl⟩, new_a hC⟩) ?_
            rintro v46 ⟨W0, _, _, ⟨g46, rfl⟩, _⟩
            simp only [Act.put, List.setIfInBounds_toArray, List.set_cons_succ, List.set_cons_zero]
            refine flow_gmake (fun v W => W.ownsRow w.heap.size 40 2 v (0 + k) ([] ++ (l.take k).flatMap encI) ∧ ∃ g, (.slice (some ⟨g54, 0, none⟩) 1 1 : Value) = .slice (some ⟨g, 0, none⟩) 1 1 ∧ Rd W 2 (some ⟨g, 0, none⟩) 1 (encI ⟨gd, n⟩)) rfl (by kernel_rfl) (by rfl) (by kernel_rfl) (fun W hW hC => ?_) ?_
            · obtain ⟨hO, _, hN⟩ := hC
              refine exec_append_rd (.tmp 46) (.tmp 49) 26 rfl w.heap.size 40 i1 (.agg #[.string ByteArray.empty, .int .i64 0]) 2 24 Try.underlying26 hi1 hy0 hy1 hy2 rfl (by decide) _ 0 [] rfl (hO) (some ⟨g2, 0, none⟩) k k ((l.take k).flatMap encI) rfl (HT.out W hW.1.1) (i_one _) (by unfold maxLen; omega) (by omega) hW.1.1.size (fun v' w' x2 x3 => ?_)
              have fx : Fr w.heap.size [40] [] W w' := (Fr.refl W).grown x3 (fun j hj => by
                obtain ⟨hb, cs, hc⟩ := own_block hO hj
                exact ⟨hb, .inr ⟨cs, _, _, hc, by simp⟩⟩)
              exact ⟨⟨⟨hW.1.1.trans (fx.below hW.1.1.size), trivial⟩, trivial⟩, x2, (NewI.grown hN x3)⟩
            rintro v50 ⟨W0, _, hv50, _⟩
            obtain ⟨A50, c50, rfl, _, _, _, _⟩ := own_slice hv50
            clear hv50
            simp only [Act.put, List.setIfInBounds_toArray, List.set_cons_succ, List.set_cons_zero]
            refine flow_gmake (fun v W => W.ownsRow w.heap.size 40 2 v (0 + k + 1) ([] ++ (l.take k).flatMap encI ++ encI ⟨gd, n⟩)) rfl (by kernel_rfl) (by rfl) (by kernel_rfl) (fun W hW hC => ?_) ?_
            · obtain ⟨hO, g55, e55, hR⟩ := hC
              cases e55
              refine exec_append_rd (.tmp 50) (.tmp 54) 26 rfl w.heap.size 40 i1 (.agg #[.string ByteArray.empty, .int .i64 0]) 2 24 Try.underlying26 hi1 hy0 hy1 hy2 rfl (by decide) _ (0 + k) _ rfl (hO) (some ⟨g54, 0, none⟩) 1 1 (encI ⟨gd, n⟩) rfl (hR) (by simp [encI, Value.oneCell']) (by unfold maxLen; omega) (by omega) hW.1.1.1.size (fun v' w' x2 x3 => ?_)
              have fx : Fr w.heap.size [40] [] W w' := (Fr.refl W).grown x3 (fun j hj => by
                obtain ⟨hb, cs, hc⟩ := own_block hO hj
                exact ⟨hb, .inr ⟨cs, _, _, hc, by simp⟩⟩)
              exact ⟨⟨⟨⟨hW.1.1.1.trans (fx.below hW.1.1.1.size), trivial⟩, trivial⟩, trivial⟩, x2⟩
            rintro v55 ⟨W0, _, hv55⟩
            obtain ⟨A55, c55, rfl, _, _, _, _⟩ := own_slice hv55
            clear hv55
            simp only [Act.put, List.setIfInBounds_toArray, List.set_cons_succ, List.set_cons_zero]
            refine flow_gmake (fun v W => W.ownsRow w.heap.size 40 2 v (0 + k + 1 + 0) ([] ++ (l.take k).flatMap encI ++ encI ⟨gd, n⟩ ++ (l.drop k).flatMap encI)) rfl (by kernel_rfl) (by rfl) (by kernel_rfl) (fun W hW hC => ?_) ?_
            · refine exec_append_rd (.tmp 55) (.tmp 58) 26 rfl w.heap.size 40 i1 (.agg #[.string ByteArray.empty, .int .i64 0]) 2 24 Try.underlying26 hi1 hy0 hy1 hy2 rfl (by decide) _ (0 + k + 1) _ rfl (hC) _ 0 0 ((l.drop k).flatMap encI) rfl (HD0.out _ W) (i_one _) (by unfold maxLen; omega) (by omega) hW.1.1.1.1.size (fun v' w' x2 x3 => ?_)
              have fx : Fr w.heap.size [40] [] W w' := (Fr.refl W).grown x3 (fun j hj => by
                obtain ⟨hb, cs, hc⟩ := own_block hC hj
                exact ⟨hb, .inr ⟨cs, _, _, hc, by simp⟩⟩)
              exact ⟨⟨⟨⟨⟨hW.1.1.1.1.trans (fx.below hW.1.1.1.1.size), trivial⟩, trivial⟩, trivial⟩, trivial⟩, x2⟩
            rintro v59 ⟨W0, _, _⟩
            simp only [Act.put, List.setIfInBounds_toArray, List.set_cons_succ, List.set_cons_zero]
            refine flow_val ?_ rfl (by kernel_rfl) (by rfl) (fun W hW => ?_) ?_
            rotate_left 1
            · go_simp <;> with_reducible rfl
            simp only [Act.put, List.setIfInBounds_toArray, List.set_cons_succ, List.set_cons_zero]
            refine flow_done2 ?_
            intro W hW hC
            have hbw := hW.1.1.1.1.1
            go_wp2
            go_ret
            exact ⟨_, rfl, put_end HPI.out (by rw [Nat.sub_self]; exact hC), hbw⟩
          · refine ok_split 4 8 (by decide) ?_ ?_
            · simp only [addAfter, addL]
              refine ok_flow (fun W => Below w.heap.size w W) Nil_ [1, 2, 3, 5, 6, 7, 10, 11, 12, 0, 8, 4, 9, 13, 14] (fun _ => trivial) rfl (fun _ _ _ _ _ h => callsIn_wide.2 h) (by kernel_rfl) (by kernel_rfl) ((Below.refl _ _).drew) (trivial) ?_
              refine flow_val ?_ rfl (by kernel_rfl) (by rfl) (fun W hW => ?_) ?_
              rotate_left 1
              · go_simp <;> with_reducible rfl
              simp only [Act.put, List.setIfInBounds_toArray, List.set_cons_succ, List.set_cons_zero]
              refine flow_val ?_ rfl (by kernel_rfl) (by rfl) (fun W hW => ?_) ?_
              rotate_left 1
              · go_simp <;> with_reducible rfl
              simp only [Act.put, List.setIfInBounds_toArray, List.set_cons_succ, List.set_cons_zero]
              refine flow_val ?_ rfl (by kernel_rfl) (by rfl) (fun W hW => ?_) ?_
              rotate_left 1
              · go_simp <;> with_reducible rfl
              simp only [Act.put, List.setIfInBounds_toArray, List.set_cons_succ, List.set_cons_zero]
              refine flow_val ?_ rfl (by kernel_rfl) (by rfl) (fun W hW => ?_) ?_
              rotate_left 1
              · go_simp <;> with_reducible rfl
              simp only [Act.put, List.setIfInBounds_toArray, List.set_cons_succ, List.set_cons_zero]
              refine flow_val ?_ rfl (by kernel_rfl) (by rfl) (fun W hW => ?_) ?_
              rotate_left 1
              · go_simp <;> with_reducible rfl
              simp only [Act.put, List.setIfInBounds_toArray, List.set_cons_succ, List.set_cons_zero]
              refine flow_val ?_ rfl (by kernel_rfl) (by rfl) (fun W hW => ?_) ?_
              rotate_left 1
              · go_simp <;> with_reducible rfl
              simp only [Act.put, List.setIfInBounds_toArray, List.set_cons_succ, List.set_cons_zero]
              refine flow_val ?_ rfl (by kernel_rfl) (by rfl) (fun W hW => ?_) ?_
              rotate_left 1
              · go_simp <;> with_reducible rfl
              simp only [Act.put, List.setIfInBounds_toArray, List.set_cons_succ, List.set_cons_zero]
              refine flow_val ?_ rfl (by kernel_rfl) (by rfl) (fun W hW => ?_) ?_
              rotate_left 1
              · go_simp <;> with_reducible rfl
              simp only [Act.put, List.setIfInBounds_toArray, List.set_cons_succ, List.set_cons_zero]
              refine flow_val ?_ rfl (by kernel_rfl) (by rfl) (fun W hW => ?_) ?_
              rotate_left 1
              · go_simp <;> with_reducible rfl
              simp only [Act.put, List.setIfInBounds_toArray, List.set_cons_succ, List.set_cons_zero]
              refine flow_gmake (fun v W => W.ownsRow w.heap.size 40 2 v 0 [] ∧ ∃ g, v = .slice (some ⟨g, 0, none⟩) 0 0) rfl (by kernel_rfl) (by rfl) (by kernel_rfl) (fun W hW hC => ⟨_, _, by go_simp <;> with_reducible rfl, hW.alloc hW.size _, ownI_low (own_empty (w := W) 40 2) hW.size, _, rfl⟩) ?_
              rintro v46 ⟨W0, _, _, g46, rfl⟩
              simp only [Act.put, List.setIfInBounds_toArray, List.set_cons_succ, List.set_cons_zero]
              refine flow_gmake (fun u W => ∃ g, u = .slice (some ⟨g, 0, none⟩) 1 1 ∧ W.ownsRow w.heap.size 40 2 (.slice (some ⟨g46, 0, none⟩) 0 0) 0 [] ∧ NewI W (.slice (some ⟨g46, 0, none⟩) 0 0) u ⟨gd, n⟩) rfl (by kernel_rfl) (by rfl) (by kernel_rfl) (fun W hW hC => ⟨_, _, by go_simp <;> with_reducible rfl, ⟨hW.1.alloc hW.1.size _, trivial⟩, _, rfl, (Fr.of_below (B := 0) (T := []) (S := []) ((Below.refl _ W).alloc (Nat.le_refl _) _)).own hC.1 (by simp) (by simp), NewI.of hC.1⟩) ?_
              rintro u54 ⟨W0, _, g54, rfl, _⟩
              simp only [Act.put, List.setIfInBounds_toArray, List.set_cons_succ, List.set_cons_zero]
              refine flow_gmake (fun v W => W.ownsRow w.heap.size 40 2 v (0 + k) ([] ++ (l.take k).flatMap encI) ∧ ∃ g, (.slice (some ⟨g54, 0, none⟩) 1 1 : Value) = .slice (some ⟨g, 0, none⟩) 1 1 ∧ Rd W 2 (some ⟨g, 0, none⟩) 1 (encI ⟨gd, n⟩)) rfl (by kernel_rfl) (by rfl) (by kernel_rfl) (fun W hW hC => ?_) ?_
              · obtain ⟨_, e54, hO, hN⟩ := hC
                cases e54
                refine exec_append_rd (.tmp 46) (.tmp 49) 26 rfl w.heap.size 40 i1 (.agg #[.string ByteArray.empty, .int .i64 0]) 2 24 Try.underlying26 hi1 hy0 hy1 hy2 rfl (by decide) _ 0 [] rfl (hO) (some ⟨g2, 0, none⟩) k k ((l.take k).flatMap encI) rfl (HT.out W hW.1.1) (i_one _) (by unfold maxLen; omega) (by omega) hW.1.1.size (fun v' w' x2 x3 => ?_)
                have fx : Fr w.heap.size [40] [] W w' := (Fr.refl W).grown x3 (fun j hj => by
                  obtain ⟨hb, cs, hc⟩ := own_block hO hj
                  exact ⟨hb, .inr ⟨cs, _, _, hc, by simp⟩⟩)
                exact ⟨⟨⟨hW.1.1.trans (fx.below hW.1.1.size), trivial⟩, trivial⟩, x2, (NewI.grown hN x3)⟩
              rintro v50 ⟨W0, _, hv50, _⟩
              obtain ⟨A50, c50, rfl, _, _, _, _⟩ := own_slice hv50
              clear hv50
              simp only [Act.put, List.setIfInBounds_toArray, List.set_cons_succ, List.set_cons_zero]
              refine flow_gmake (fun v W => W.ownsRow w.heap.size 40 2 v (0 + k + 1) ([] ++ (l.take k).flatMap encI ++ encI ⟨gd, n⟩)) rfl (by kernel_rfl) (by rfl) (by kernel_rfl) (fun W hW hC => ?_) ?_
              · obtain ⟨hO, g55, e55, hR⟩ := hC
                cases e55
                refine exec_append_rd (.tmp 50) (.tmp 54) 26 rfl w.heap.size 40 i1 (.agg #[.string ByteArray.empty, .int .i64 0]) 2 24 Try.underlying26 hi1 hy0 hy1 hy2 rfl (by decide) _ (0 + k) _ rfl (hO) (some ⟨g54, 0, none⟩) 1 1 (encI ⟨gd, n⟩) rfl (hR) (by simp [encI, Value.oneCell']) (by unfold maxLen; omega) (by omega) hW.1.1.1.size (fun v' w' x2 x3 => ?_)
                have fx : Fr w.heap.size [40] [] W w' := (Fr.refl W).grown x3 (fun j hj => by
                  obtain ⟨hb, cs, hc⟩ := own_block hO hj
                  exact ⟨hb, .inr ⟨cs, _, _, hc, by simp⟩⟩)
                exact ⟨⟨⟨⟨hW.1.1.1.trans (fx.below hW.1.1.1.size), trivial⟩, trivial⟩, trivial⟩, x2⟩
              rintro v55 ⟨W0, _, hv55⟩
              obtain ⟨A55, c55, rfl, _, _, _, _⟩ := own_slice hv55
              clear hv55
              simp only [Act.put, List.setIfInBounds_toArray, List.set_cons_succ, List.set_cons_zero]
              refine flow_gmake (fun v W => W.ownsRow w.heap.size 40 2 v (0 + k + 1 + 0) ([] ++ (l.take k).flatMap encI ++ encI ⟨gd, n⟩ ++ (l.drop k).flatMap encI)) rfl (by kernel_rfl) (by rfl) (by kernel_rfl) (fun W hW hC => ?_) ?_
              · refine exec_append_rd (.tmp 55) (.tmp 58) 26 rfl w.heap.size 40 i1 (.agg #[.string ByteArray.empty, .int .i64 0]) 2 24 Try.underlying26 hi1 hy0 hy1 hy2 rfl (by decide) _ (0 + k + 1) _ rfl (hC) _ 0 0 ((l.drop k).flatMap encI) rfl (HD0.out _ W) (i_one _) (by unfold maxLen; omega) (by omega) hW.1.1.1.1.size (fun v' w' x2 x3 => ?_)
                have fx : Fr w.heap.size [40] [] W w' := (Fr.refl W).grown x3 (fun j hj => by
                  obtain ⟨hb, cs, hc⟩ := own_block hC hj
                  exact ⟨hb, .inr ⟨cs, _, _, hc, by simp⟩⟩)
                exact ⟨⟨⟨⟨⟨hW.1.1.1.1.trans (fx.below hW.1.1.1.1.size), trivial⟩, trivial⟩, trivial⟩, trivial⟩, x2⟩
              rintro v59 ⟨W0, _, _⟩
              simp only [Act.put, List.setIfInBounds_toArray, List.set_cons_succ, List.set_cons_zero]
              refine flow_val ?_ rfl (by kernel_rfl) (by rfl) (fun W hW => ?_) ?_
              rotate_left 1
              · go_simp <;> with_reducible rfl
              simp only [Act.put, List.setIfInBounds_toArray, List.set_cons_succ, List.set_cons_zero]
              refine flow_done2 ?_
              intro W hW hC
              have hbw := hW.1.1.1.1.1
              go_wp2
              go_ret
              exact ⟨_, rfl, put_end HPI.out (by rw [Nat.sub_self]; exact hC), hbw⟩
            · simp only [addAfter, addL]
              refine ok_flow (fun W => Below w.heap.size w W) Nil_ [1, 2, 3, 5, 6, 7, 10, 11, 12, 0, 4, 8, 9, 13, 14] (fun _ => trivial) rfl (fun _ _ _ _ _ h => callsIn_wide.2 h) (by kernel_rfl) (by kernel_rfl) ((Below.refl _ _).drew) (trivial) ?_
              refine flow_val ?_ rfl (by kernel_rfl) (by rfl) (fun W hW => ?_) ?_
              rotate_left 1
              · go_simp <;> with_reducible rfl
              simp only [Act.put, List.setIfInBounds_toArray, List.set_cons_succ, List.set_cons_zero]
              refine flow_val ?_ rfl (by kernel_rfl) (by rfl) (fun W hW => ?_) ?_
              rotate_left 1
              · go_simp <;> with_reducible rfl
              simp only [Act.put, List.setIfInBounds_toArray, List.set_cons_succ, List.set_cons_zero]
              refine flow_val ?_ rfl (by kernel_rfl) (by rfl) (fun W hW => ?_) ?_
              rotate_left 1
              · go_simp <;> with_reducible rfl
              simp only [Act.put, List.setIfInBounds_toArray, List.set_cons_succ, List.set_cons_zero]
              refine flow_val ?_ rfl (by kernel_rfl) (by rfl) (fun W hW => ?_) ?_
              rotate_left 1
              · go_simp <;> with_reducible rfl
              simp only [Act.put, List.setIfInBounds_toArray, List.set_cons_succ, List.set_cons_zero]
              refine flow_val ?_ rfl (by kernel_rfl) (by rfl) (fun W hW => ?_) ?_
              rotate_left 1
              · go_simp <;> with_reducible rfl
              simp only [Act.put, List.setIfInBounds_toArray, List.set_cons_succ, List.set_cons_zero]
              refine flow_val ?_ rfl (by kernel_rfl) (by rfl) (fun W hW => ?_) ?_
              rotate_left 1
              · go_simp <;> with_reducible rfl
              simp only [Act.put, List.setIfInBounds_toArray, List.set_cons_succ, List.set_cons_zero]
              refine flow_val ?_ rfl (by kernel_rfl) (by rfl) (fun W hW => ?_) ?_
              rotate_left 1
              · go_simp <;> with_reducible rfl
              simp only [Act.put, List.setIfInBounds_toArray, List.set_cons_succ, List.set_cons_zero]
              refine flow_val ?_ rfl (by kernel_rfl) (by rfl) (fun W hW => ?_) ?_
              rotate_left 1
              · go_simp <;> with_reducible rfl
              simp only [Act.put, List.setIfInBounds_toArray, List.set_cons_succ, List.set_cons_zero]
              refine flow_val ?_ rfl (by kernel_rfl) (by rfl) (fun W hW => ?_) ?_
              rotate_left 1
              · go_simp <;> with_reducible rfl
              simp only [Act.put, List.setIfInBounds_toArray, List.set_cons_succ, List.set_cons_zero]
              refine flow_gmake (fun v W => W.ownsRow w.heap.size 40 2 v 0 [] ∧ ∃ g, v = .slice (some ⟨g, 0, none⟩) 0 0) rfl (by kernel_rfl) (by rfl) (by kernel_rfl) (fun W hW hC => ⟨_, _, by go_simp <;> with_reducible rfl, hW.alloc hW.size _, ownI_low (own_empty (w := W) 40 2) hW.size, _, rfl⟩) ?_
              rintro v46 ⟨W0, _, _, g46, rfl⟩
              simp only [Act.put, List.setIfInBounds_toArray, List.set_cons_succ, List.set_cons_zero]
              refine flow_gmake (fun v W => W.ownsRow w.heap.size 40 2 v (0 + k) ([] ++ (l.take k).flatMap encI)) rfl (by kernel_rfl) (by rfl) (by kernel_rfl) (fun W hW hC => ?_) ?_
              · refine exec_append_rd (.tmp 46) (.tmp 49) 26 rfl w.heap.size 40 i1 (.agg #[.string ByteArray.empty, .int .i64 0]) 2 24 Try.underlying26 hi1 hy0 hy1 hy2 rfl (by decide) _ 0 [] rfl (hC.1) (some ⟨g2, 0, none⟩) k k ((l.take k).flatMap encI) rfl (HT.out W hW.1) (i_one _) (by unfold maxLen; omega) (by omega) hW.1.size (fun v' w' x2 x3 => ?_)
                have fx : Fr w.heap.size [40] [] W w' := (Fr.refl W).grown x3 (fun j hj => by
                  obtain ⟨hb, cs, hc⟩ := own_block hC.1 hj
                  exact ⟨hb, .inr ⟨cs, _, _, hc, by simp⟩⟩)
                exact ⟨⟨hW.1.trans (fx.below hW.1.size), trivial⟩, x2⟩
              rintro v50 ⟨W0, _, hv50⟩
              obtain ⟨A50, c50, rfl, _, _, _, _⟩ := own_slice hv50
              clear hv50
              simp only [Act.put, List.setIfInBounds_toArray, List.set_cons_succ, List.set_cons_zero]
              refine flow_gmake (fun u W => ∃ g, u = .slice (some ⟨g, 0, none⟩) 1 1 ∧ W.ownsRow w.heap.size 40 2 (.slice A50 (0 + k) c50) (0 + k) ([] ++ (l.take k).flatMap encI) ∧ Rd W 2 (some ⟨g, 0, none⟩) 1 (encI ⟨gd, n⟩)) rfl (by kernel_rfl) (by rfl) (by kernel_rfl) (fun W hW hC => ⟨_, _, by go_simp <;> with_reducible rfl, ⟨⟨hW.1.1.alloc hW.1.1.size _, trivial⟩, trivial⟩, _, rfl, (Fr.of_below (B := 0) (T := []) (S := []) ((Below.refl _ W).alloc (Nat.le_refl _) _)).own hC (by simp) (by simp), rd_one (block_new _ _)⟩) ?_
              rintro u54 ⟨W0, _, g54, rfl, _⟩
              simp only [Act.put, List.setIfInBounds_toArray, List.set_cons_succ, List.set_cons_zero]
              refine flow_gmake (fun v W => W.ownsRow w.heap.size 40 2 v (0 + k + 1) ([] ++ (l.take k).flatMap encI ++ encI ⟨gd, n⟩)) rfl (by kernel_rfl) (by rfl) (by kernel_rfl) (fun W hW hC => ?_) ?_
              · obtain ⟨g55, e55, hO, hR⟩ := hC
                cases e55
                refine exec_append_rd (.tmp 50) (.tmp 54) 26 rfl w.heap.size 40 i1 (.agg #[.string ByteArray.empty, .int .i64 0]) 2 24 Try.underlying26 hi1 hy0 hy1 hy2 rfl (by decide) _ (0 + k) _ rfl (hO) (some ⟨g54, 0, none⟩) 1 1 (encI ⟨gd, n⟩) rfl (hR) (by simp [encI, Value.oneCell']) (by unfold maxLen; omega) (by omega) hW.1.1.1.size (fun v' w' x2 x3 => ?_)
                have fx : Fr w.heap.size [40] [] W w' := (Fr.refl W).grown x3 (fun j hj => by
                  obtain ⟨hb, cs, hc⟩ := own_block hO hj
                  exact ⟨hb, .inr ⟨cs, _, _, hc, by simp⟩⟩)
                exact ⟨⟨⟨⟨hW.1.1.1.trans (fx.below hW.1.1.1.size), trivial⟩, trivial⟩, trivial⟩, x2⟩
              rintro v55 ⟨W0, _, hv55⟩
              obtain ⟨A55, c55, rfl, _, _, _, _⟩ := own_slice hv55
              clear hv55
              simp only [Act.put, List.setIfInBounds_toArray, List.set_cons_succ, List.set_cons_zero]
              refine flow_gmake (fun v W => W.ownsRow w.heap.size 40 2 v (0 + k + 1 + 0) ([] ++ (l.take k).flatMap encI ++ encI ⟨gd, n⟩ ++ (l.drop k).flatMap encI)) rfl (by kernel_rfl) (by rfl) (by kernel_rfl) (fun W hW hC => ?_) ?_
              · refine exec_append_rd (.tmp 55) (.tmp 58) 26 rfl w.heap.size 40 i1 (.agg #[.string ByteArray.empty, .int .i64 0]) 2 24 Try.underlying26 hi1 hy0 hy1 hy2 rfl (by decide) _ (0 + k + 1) _ rfl (hC) _ 0 0 ((l.drop k).flatMap encI) rfl (HD0.out _ W) (i_one _) (by unfold maxLen; omega) (by omega) hW.1.1.1.1.size (fun v' w' x2 x3 => ?_)
                have fx : Fr w.heap.size [40] [] W w' := (Fr.refl W).grown x3 (fun j hj => by
                  obtain ⟨hb, cs, hc⟩ := own_block hC hj
                  exact ⟨hb, .inr ⟨cs, _, _, hc, by simp⟩⟩)
                exact ⟨⟨⟨⟨⟨hW.1.1.1.1.trans (fx.below hW.1.1.1.1.size), trivial⟩, trivial⟩, trivial⟩, trivial⟩, x2⟩
              rintro v59 ⟨W0, _, _⟩
              simp only [Act.put, List.setIfInBounds_toArray, List.set_cons_succ, List.set_cons_zero]
              refine flow_val ?_ rfl (by kernel_rfl) (by rfl) (fun W hW => ?_) ?_
              rotate_left 1
              · go_simp <;> with_reducible rfl
              simp only [Act.put, List.setIfInBounds_toArray, List.set_cons_succ, List.set_cons_zero]
              refine flow_done2 ?_
              intro W hW hC
              have hbw := hW.1.1.1.1.1
              go_wp2
              go_ret
              exact ⟨_, rfl, put_end HPI.out (by rw [Nat.sub_self]; exact hC), hbw⟩
        · have hck2 : ¬ c2 = k := fun h => hck h.symm
          clear hck
          go_wp2_with fail
          refine (wpIn_wide (n := 9)).1 (region_of_ok (by kernel_rfl) (ok_split 0 8 (by decide) ?_ ?_))
          · simp only [addAfter, addL]
            refine ok_flow (fun W => Below w.heap.size w W) Nil_ [1, 2, 3, 5, 6, 7, 10, 11, 12, 8, 0, 4, 9, 13, 14] (fun _ => trivial) rfl (fun _ _ _ _ _ h => callsIn_wide.2 h) (by kernel_rfl) (by kernel_rfl) ((Below.refl _ _).drew) (trivial) ?_
            refine flow_val ?_ rfl (by kernel_rfl) (by rfl) (fun W hW => ?_) ?_
            rotate_left 1
            · go_simp <;> with_reducible rfl
            simp only [Act.put, List.setIfInBounds_toArray, List.set_cons_succ, List.set_cons_zero]
            refine flow_val ?_ rfl (by kernel_rfl) (by rfl) (fun W hW => ?_) ?_
            rotate_left 1
            · go_simp <;> with_reducible rfl
            simp only [Act.put, List.setIfInBounds_toArray, List.set_cons_succ, List.set_cons_zero]
            refine flow_val ?_ rfl (by kernel_rfl) (by rfl) (fun W hW => ?_) ?_
            rotate_left 1
            · go_simp <;> with_reducible rfl
            simp only [Act.put, List.setIfInBounds_toArray, List.set_cons_succ, List.set_cons_zero]
            refine flow_val ?_ rfl (by kernel_rfl) (by rfl) (fun W hW => ?_) ?_
            rotate_left 1
            · go_simp <;> with_reducible rfl
            simp only [Act.put, List.setIfInBounds_toArray, List.set_cons_succ, List.set_cons_zero]
            refine flow_val ?_ rfl (by kernel_rfl) (by rfl) (fun W hW => ?_) ?_
            rotate_left 1
            · go_simp <;> with_reducible rfl
            simp only [Act.put, List.setIfInBounds_toArray, List.set_cons_succ, List.set_cons_zero]
            refine flow_val ?_ rfl (by kernel_rfl) (by rfl) (fun W hW => ?_) ?_
            rotate_left 1
            · go_simp <;> with_reducible rfl
            simp only [Act.put, List.setIfInBounds_toArray, List.set_cons_succ, List.set_cons_zero]
            refine flow_val ?_ rfl (by kernel_rfl) (by rfl) (fun W hW => ?_) ?_
            rotate_left 1
            · go_simp <;> with_reducible rfl
            simp only [Act.put, List.setIfInBounds_toArray, List.set_cons_succ, List.set_cons_zero]
            refine flow_val ?_ rfl (by kernel_rfl) (by rfl) (fun W hW => ?_) ?_
            rotate_left 1
            · go_simp <;> with_reducible rfl
            simp only [Act.put, List.setIfInBounds_toArray, List.set_cons_succ, List.set_cons_zero]
            refine flow_val ?_ rfl (by kernel_rfl) (by rfl) (fun W hW => ?_) ?_
            rotate_left 1
            · go_simp <;> with_reducible rfl
            simp only [Act.put, List.setIfInBounds_toArray, List.set_cons_succ, List.set_cons_zero]
            refine flow_gmake (fun u W => ∃ g, u = .slice (some ⟨g, 0, none⟩) 1 1 ∧ W.heap[g]? = some (.cells #[.string gd, .int .i64 n] 40 (0, 0))) rfl (by kernel_rfl) (by rfl) (by kernel_rfl) (fun W hW hC => ⟨_, _, by go_simp <;> with_reducible rfl, hW.alloc hW.size _, _, rfl, block_new _ _⟩) ?_
            rintro u54 ⟨W0, _, g54, rfl, _⟩
            simp only [Act.put, List.setIfInBounds_toArray, List.set_cons_succ, List.set_cons_zero]
            refine flow_gmake (fun v W => W.ownsRow w.heap.size 40 2 v 0 [] ∧ (∃ g, v = .slice (some ⟨g, 0, none⟩) 0 0) ∧ NewI W v (.slice (some ⟨g54, 0, none⟩) 1 1) ⟨gd, n⟩) rfl (by kernel_rfl) (by rfl) (by kernel_rfl) (fun W hW hC => ⟨_, _, by go_simp <;> with_reducible rfl, ⟨hW.1.alloc hW.1.size _, trivial⟩, ownI_low (own_empty (w := W) 40 2) hW.1.size, ⟨_, rfl⟩, new_a hC⟩) ?_
            rintro v46 ⟨W0, _, _, ⟨g46, rfl⟩, _⟩
            simp only [Act.put, List.setIfInBounds_toArray, List.set_cons_succ, List.set_cons_zero]
            refine flow_gmake (fun v W => W.ownsRow w.heap.size 40 2 v (0 + k) ([] ++ (l.take k).flatMap encI) ∧ ∃ g, (.slice (some ⟨g54, 0, none⟩) 1 1 : Value) = .slice (some ⟨g, 0, none⟩) 1 1 ∧ Rd W 2 (some ⟨g, 0, none⟩) 1 (encI ⟨gd, n⟩)) rfl (by kernel_rfl) (by rfl) (by kernel_rfl) (fun W hW hC => ?_) ?_
            · obtain ⟨hO, _, hN⟩ := hC
              refine exec_append_rd (.tmp 46) (.tmp 49) 26 rfl w.heap.size 40 i1 (.agg #[.string ByteArray.empty, .int .i64 0]) 2 24 Try.underlying26 hi1 hy0 hy1 hy2 rfl (by decide) _ 0 [] rfl (hO) (some ⟨g2, 0, none⟩) k c2 ((l.take k).flatMap encI) rfl (HT.out W hW.1.1) (i_one _) (by unfold maxLen; omega) (by omega) hW.1.1.size (fun v' w' x2 x3 => ?_)
              have fx : Fr w.heap.size [40] [] W w' := (Fr.refl W).grown x3 (fun j hj => by
                obtain ⟨hb, cs, hc⟩ := own_block hO hj
                exact ⟨hb, .inr ⟨cs, _, _, hc, by simp⟩⟩)
              exact ⟨⟨⟨hW.1.1.trans (fx.below hW.1.1.size), trivial⟩, trivial⟩, x2, (NewI.grown hN x3)⟩
            rintro v50 ⟨W0, _, hv50, _⟩
            obtain ⟨A50, c50, rfl, _, _, _, _⟩ := own_slice hv50
            clear hv50
            simp only [Act.put, List.setIfInBounds_toArray, List.set_cons_succ, List.set_cons_zero]
            refine flow_gmake (fun v W => W.ownsRow w.heap.size 40 2 v (0 + k + 1) ([] ++ (l.take k).flatMap encI ++ encI ⟨gd, n⟩)) rfl (by kernel_rfl) (by rfl) (by kernel_rfl) (fun W hW hC => ?_) ?_
            · obtain ⟨hO, g55, e55, hR⟩ := hC
              cases e55
              refine exec_append_rd (.tmp 50) (.tmp 54) 26 rfl w.heap.size 40 i1 (.agg #[.string ByteArray.empty, .int .i64 0]) 2 24 Try.underlying26 hi1 hy0 hy1 hy2 rfl (by decide) _ (0 + k) _ rfl (hO) (some ⟨g54, 0, none⟩) 1 1 (encI ⟨gd, n⟩) rfl (hR) (by simp [encI, Value.oneCell']) (by unfold maxLen; omega) (by omega) hW.1.1.1.size (fun v' w' x2 x3 => ?_)
              have fx : Fr w.heap.size [40] [] W w' := (Fr.refl W).grown x3 (fun j hj => by
                obtain ⟨hb, cs, hc⟩ := own_block hO hj
                exact ⟨hb, .inr ⟨cs, _, _, hc, by simp⟩⟩)
              exact ⟨⟨⟨⟨hW.1.1.1.trans (fx.below hW.1.1.1.size), trivial⟩, trivial⟩, trivial⟩, x2⟩
            rintro v55 ⟨W0, _, hv55⟩
            obtain ⟨A55, c55, rfl, _, _, _, _⟩ := own_slice hv55
            clear hv55
            simp only [Act.put, List.setIfInBounds_toArray, List.set_cons_succ, List.set_cons_zero]
            refine flow_gmake (fun v W => W.ownsRow w.heap.size 40 2 v (0 + k + 1 + 0) ([] ++ (l.take k).flatMap encI ++ encI ⟨gd, n⟩ ++ (l.drop k).flatMap encI)) rfl (by kernel_rfl) (by rfl) (by kernel_rfl) (fun W hW hC => ?_) ?_
            · refine exec_append_rd (.tmp 55) (.tmp 58) 26 rfl w.heap.size 40 i1 (.agg #[.string ByteArray.empty, .int .i64 0]) 2 24 Try.underlying26 hi1 hy0 hy1 hy2 rfl (by decide) _ (0 + k + 1) _ rfl (hC) (some ⟨g2, k * 2, none⟩) 0 (c2 - k) ((l.drop k).flatMap encI) rfl (HD0.out _ W) (i_one _) (by unfold maxLen; omega) (by omega) hW.1.1.1.1.size (fun v' w' x2 x3 => ?_)
              have fx : Fr w.heap.size [40] [] W w' := (Fr.refl W).grown x3 (fun j hj => by
                obtain ⟨hb, cs, hc⟩ := own_block hC hj
                exact ⟨hb, .inr ⟨cs, _, _, hc, by simp⟩⟩)
              exact ⟨⟨⟨⟨⟨hW.1.1.1.1.trans (fx.below hW.1.1.1.1.size), trivial⟩, trivial⟩, trivial⟩, trivial⟩, x2⟩
            rintro v59 ⟨W0, _, _⟩
            simp only [Act.put, List.setIfInBounds_toArray, List.set_cons_succ, List.set_cons_zero]
            refine flow_val ?_ rfl (by kernel_rfl) (by rfl) (fun W hW => ?_) ?_
            rotate_left 1
            · go_simp <;> with_reducible rfl
            simp only [Act.put, List.setIfInBounds_toArray, List.set_cons_succ, List.set_cons_zero]
            refine flow_done2 ?_
            intro W hW hC
            have hbw := hW.1.1.1.1.1
            go_wp2
            go_ret
            exact ⟨_, rfl, put_end HPI.out (by rw [Nat.sub_self]; exact hC), hbw⟩
          · refine ok_split 4 8 (by decide) ?_ ?_
            · simp only [addAfter, addL]
              refine ok_flow (fun W => Below w.heap.size w W) Nil_ [1, 2, 3, 5, 6, 7, 10, 11, 12, 0, 8, 4, 9, 13, 14] (fun _ => trivial) rfl (fun _ _ _ _ _ h => callsIn_wide.2 h) (by kernel_rfl) (by kernel_rfl) ((Below.refl _ _).drew) (trivial) ?_
              refine flow_val ?_ rfl (by kernel_rfl) (by rfl) (fun W hW => ?_) ?_
              rotate_left 1
              · go_simp <;> with_reducible rfl
              simp only [Act.put, List.setIfInBounds_toArray, List.set_cons_succ, List.set_cons_zero]
              refine flow_val ?_ rfl (by kernel_rfl) (by rfl) (fun W hW => ?_) ?_
              rotate_left 1
              · go_simp <;> with_reducible rfl
              simp only [Act.put, List.setIfInBounds_toArray, List.set_cons_succ, List.set_cons_zero]
              refine flow_val ?_ rfl (by kernel_rfl) (by rfl) (fun W hW => ?_) ?_
              rotate_left 1
              · go_simp <;> with_reducible rfl
              simp only [Act.put, List.setIfInBounds_toArray, List.set_cons_succ, List.set_cons_zero]
              refine flow_val ?_ rfl (by kernel_rfl) (by rfl) (fun W hW => ?_) ?_
              rotate_left 1
              · go_simp <;> with_reducible rfl
              simp only [Act.put, List.setIfInBounds_toArray, List.set_cons_succ, List.set_cons_zero]
              refine flow_val ?_ rfl (by kernel_rfl) (by rfl) (fun W hW => ?_) ?_
              rotate_left 1
              · go_simp <;> with_reducible rfl
              simp only [Act.put, List.setIfInBounds_toArray, List.set_cons_succ, List.set_cons_zero]
              refine flow_val ?_ rfl (by kernel_rfl) (by rfl) (fun W hW => ?_) ?_
              rotate_left 1
              · go_simp <;> with_reducible rfl
              simp only [Act.put, List.setIfInBounds_toArray, List.set_cons_succ, List.set_cons_zero]
              refine flow_val ?_ rfl (by kernel_rfl) (by rfl) (fun W hW => ?_) ?_
              rotate_left 1
              · go_simp <;> with_reducible rfl
              simp only [Act.put, List.setIfInBounds_toArray, List.set_cons_succ, List.set_cons_zero]
              refine flow_val ?_ rfl (by kernel_rfl) (by rfl) (fun W hW => ?_) ?_
              rotate_left 1
              · go_simp <;> with_reducible rfl
              simp only [Act.put, List.setIfInBounds_toArray, List.set_cons_succ, List.set_cons_zero]
              refine flow_val ?_ rfl (by kernel_rfl) (by rfl) (fun W hW => ?_) ?_
              rotate_left 1
              · go_simp <;> with_reducible rfl
              simp only [Act.put, List.setIfInBounds_toArray, List.set_cons_succ, List.set_cons_zero]
              refine flow_gmake (fun v W => W.ownsRow w.heap.size 40 2 v 0 [] ∧ ∃ g, v = .slice (some ⟨g, 0, none⟩) 0 0) rfl (by kernel_rfl) (by rfl) (by kernel_rfl) (fun W hW hC => ⟨_, _, by go_simp <;> with_reducible rfl, hW.alloc hW.size _, ownI_low (own_empty (w := W) 40 2) hW.size, _, rfl⟩) ?_
              rintro v46 ⟨W0, _, _, g46, rfl⟩
              simp only [Act.put, List.setIfInBounds_toArray, List.set_cons_succ, List.set_cons_zero]
              refine flow_gmake (fun u W => ∃ g, u = .slice (some ⟨g, 0, none⟩) 1 1 ∧ W.ownsRow w.heap.size 40 2 (.slice (some ⟨g46, 0, none⟩) 0 0) 0 [] ∧ NewI W (.slice (some ⟨g46, 0, none⟩) 0 0) u ⟨gd, n⟩) rfl (by kernel_rfl) (by rfl) (by kernel_rfl) (fun W hW hC => ⟨_, _, by go_simp <;> with_reducible rfl, ⟨hW.1.alloc hW.1.size _, trivial⟩, _, rfl, (Fr.of_below (B := 0) (T := []) (S := []) ((Below.refl _ W).alloc (Nat.le_refl _) _)).own hC.1 (by simp) (by simp), NewI.of hC.1⟩) ?_
              rintro u54 ⟨W0, _, g54, rfl, _⟩
              simp only [Act.put, List.setIfInBounds_toArray, List.set_cons_succ, List.set_cons_zero]
              refine flow_gmake (fun v W => W.ownsRow w.heap.size 40 2 v (0 + k) ([] ++ (l.take k).flatMap encI) ∧ ∃ g, (.slice (some ⟨g54, 0, none⟩) 1 1 : Value) = .slice (some ⟨g, 0, none⟩) 1 1 ∧ Rd W 2 (some ⟨g, 0, none⟩) 1 (encI ⟨gd, n⟩)) rfl (by kernel_rfl) (by rfl) (by kernel_rfl) (fun W hW hC => ?_) ?_
              · obtain ⟨_, e54, hO, hN⟩ := hC
                cases e54
                refine exec_append_rd (.tmp 46) (.tmp 49) 26 rfl w.heap.size 40 i1 (.agg #[.string ByteArray.empty, .int .i64 0]) 2 24 Try.underlying26 hi1 hy0 hy1 hy2 rfl (by decide) _ 0 [] rfl (hO) (some ⟨g2, 0, none⟩) k c2 ((l.take k).flatMap encI) rfl (HT.out W hW.1.1) (i_one _) (by unfold maxLen; omega) (by omega) hW.1.1.size (fun v' w' x2 x3 => ?_)
                have fx : Fr w.heap.size [40] [] W w' := (Fr.refl W).grown x3 (fun j hj => by
                  obtain ⟨hb, cs, hc⟩ := own_block hO hj
                  exact ⟨hb, .inr ⟨cs, _, _, hc, by simp⟩⟩)
                exact ⟨⟨⟨hW.1.1.trans (fx.below hW.1.1.size), trivial⟩, trivial⟩, x2, (NewI.grown hN x3)⟩
              rintro v50 ⟨W0, _, hv50, _⟩
              obtain ⟨A50, c50, rfl, _, _, _, _⟩ := own_slice hv50
              clear hv50
              simp only [Act.put, List.setIfInBounds_toArray, List.set_cons_succ, List.set_cons_zero]
              refine flow_gmake (fun v W => W.ownsRow w.heap.size 40 2 v (0 + k + 1) ([] ++ (l.take k).flatMap encI ++ encI ⟨gd, n⟩)) rfl (by kernel_rfl) (by rfl) (by kernel_rfl) (fun W hW hC => ?_) ?_
              · obtain ⟨hO, g55, e55, hR⟩ := hC
                cases e55
                refine exec_append_rd (.tmp 50) (.tmp 54) 26 rfl w.heap.size 40 i1 (.agg #[.string ByteArray.empty, .int .i64 0]) 2 24 Try.underlying26 hi1 hy0 hy1 hy2 rfl (by decide) _ (0 + k) _ rfl (hO) (some ⟨g54, 0, none⟩) 1 1 (encI ⟨gd, n⟩) rfl (hR) (by simp [encI, Value.oneCell']) (by unfold maxLen; omega) (by omega) hW.1.1.1.size (fun v' w' x2 x3 => ?_)
                have fx : Fr w.heap.size [40] [] W w' := (Fr.refl W).grown x3 (fun j hj => by
                  obtain ⟨hb, cs, hc⟩ := own_block hO hj
                  exact ⟨hb, .inr ⟨cs, _, _, hc, by simp⟩⟩)
                exact ⟨⟨⟨⟨hW.1.1.1.trans (fx.below hW.1.1.1.size), trivial⟩, trivial⟩, trivial⟩, x2⟩
              rintro v55 ⟨W0, _, hv55⟩
              obtain ⟨A55, c55, rfl, _, _, _, _⟩ := own_slice hv55
              clear hv55
              simp only [Act.put, List.setIfInBounds_toArray, List.set_cons_succ, List.set_cons_zero]
              refine flow_gmake (fun v W => W.ownsRow w.heap.size 40 2 v (0 + k + 1 + 0) ([] ++ (l.take k).flatMap encI ++ encI ⟨gd, n⟩ ++ (l.drop k).flatMap encI)) rfl (by kernel_rfl) (by rfl) (by kernel_rfl) (fun W hW hC => ?_) ?_
              · refine exec_append_rd (.tmp 55) (.tmp 58) 26 rfl w.heap.size 40 i1 (.agg #[.string ByteArray.empty, .int .i64 0]) 2 24 Try.underlying26 hi1 hy0 hy1 hy2 rfl (by decide) _ (0 + k + 1) _ rfl (hC) (some ⟨g2, k * 2, none⟩) 0 (c2 - k) ((l.drop k).flatMap encI) rfl (HD0.out _ W) (i_one _) (by unfold maxLen; omega) (by omega) hW.1.1.1.1.size (fun v' w' x2 x3 => ?_)
                have fx : Fr w.heap.size [40] [] W w' := (Fr.refl W).grown x3 (fun j hj => by
                  obtain ⟨hb, cs, hc⟩ := own_block hC hj
                  exact ⟨hb, .inr ⟨cs, _, _, hc, by simp⟩⟩)
                exact ⟨⟨⟨⟨⟨hW.1.1.1.1.trans (fx.below hW.1.1.1.1.size), trivial⟩, trivial⟩, trivial⟩, trivial⟩, x2⟩
              rintro v59 ⟨W0, _, _⟩
              simp only [Act.put, List.setIfInBounds_toArray, List.set_cons_succ, List.set_cons_zero]
              refine flow_val ?_ rfl (by kernel_rfl) (by rfl) (fun W hW => ?_) ?_
              rotate_left 1
              · go_simp <;> with_reducible rfl
              simp only [Act.put, List.setIfInBounds_toArray, List.set_cons_succ, List.set_cons_zero]
              refine flow_done2 ?_
              intro W hW hC
              have hbw := hW.1.1.1.1.1
              go_wp2
              go_ret
              exact ⟨_, rfl, put_end HPI.out (by rw [Nat.sub_self]; exact hC), hbw⟩
            · simp only [addAfter, addL]
              refine ok_flow (fun W => Below w.heap.size w W) Nil_ [1, 2, 3, 5, 6, 7, 10, 11, 12, 0, 4, 8, 9, 13, 14] (fun _ => trivial) rfl (fun _ _ _ _ _ h => callsIn_wide.2 h) (by kernel_rfl) (by kernel_rfl) ((Below.refl _ _).drew) (trivial) ?_
              refine flow_val ?_ rfl (by kernel_rfl) (by rfl) (fun W hW => ?_) ?_
              rotate_left 1
              · go_simp <;> with_reducible rfl
              simp only [Act.put, List.setIfInBounds_toArray, List.set_cons_succ, List.set_cons_zero]
              refine flow_val ?_ rfl (by kernel_rfl) (by rfl) (fun W hW => ?_) ?_
              rotate_left 1
              · go_simp <;> with_reducible rfl
              simp only [Act.put, List.setIfInBounds_toArray, List.set_cons_succ, List.set_cons_zero]
              refine flow_val ?_ rfl (by kernel_rfl) (by rfl) (fun W hW => ?_) ?_
              rotate_left 1
              · go_simp <;> with_reducible rfl
              simp only [Act.put, List.setIfInBounds_toArray, List.set_cons_succ, List.set_cons_zero]
              refine flow_val ?_ rfl (by kernel_rfl) (by rfl) (fun W hW => ?_) ?_
              rotate_left 1
              · go_simp <;> with_reducible rfl
              simp only [Act.put, List.setIfInBounds_toArray, List.set_cons_succ, List.set_cons_zero]
              refine flow_val ?_ rfl (by kernel_rfl) (by rfl) (fun W hW => ?_) ?_
              rotate_left 1
              · go_simp <;> with_reducible rfl
              simp only [Act.put, List.setIfInBounds_toArray, List.set_cons_succ, List.set_cons_zero]
              refine flow_val ?_ rfl (by kernel_rfl) (by rfl) (fun W hW => ?_) ?_
              rotate_left 1
              · go_simp <;> with_reducible rfl
              simp only [Act.put, List.setIfInBounds_toArray, List.set_cons_succ, List.set_cons_zero]
              refine flow_val ?_ rfl (by kernel_rfl) (by rfl) (fun W hW => ?_) ?_
              rotate_left 1
              · go_simp <;> with_reducible rfl
              simp only [Act.put, List.setIfInBounds_toArray, List.set_cons_succ, List.set_cons_zero]
              refine flow_val ?_ rfl (by kernel_rfl) (by rfl) (fun W hW => ?_) ?_
              rotate_left 1
              · go_simp <;> with_reducible rfl
              simp only [Act.put, List.setIfInBounds_toArray, List.set_cons_succ, List.set_cons_zero]
              refine flow_val ?_ rfl (by kernel_rfl) (by rfl) (fun W hW => ?_) ?_
              rotate_left 1
              · go_simp <;> with_reducible rfl
              simp only [Act.put, List.setIfInBounds_toArray, List.set_cons_succ, List.set_cons_zero]
              refine flow_gmake (fun v W => W.ownsRow w.heap.size 40 2 v 0 [] ∧ ∃ g, v = .slice (some ⟨g, 0, none⟩) 0 0) rfl (by kernel_rfl) (by rfl) (by kernel_rfl) (fun W hW hC => ⟨_, _, by go_simp <;> with_reducible rfl, hW.alloc hW.size _, ownI_low (own_empty (w := W) 40 2) hW.size, _, rfl⟩) ?_
              rintro v46 ⟨W0, _, _, g46, rfl⟩
              simp only [Act.put, List.setIfInBounds_toArray, List.set_cons_succ, List.set_cons_zero]
              refine flow_gmake (fun v W => W.ownsRow w.heap.size 40 2 v (0 + k) ([] ++ (l.take k).flatMap encI)) rfl (by kernel_rfl) (by rfl) (by kernel_rfl) (fun W hW hC => ?_) ?_
              · refine exec_append_rd (.tmp 46) (.tmp 49) 26 rfl w.heap.size 40 i1 (.agg #[.string ByteArray.empty, .int .i64 0]) 2 24 Try.underlying26 hi1 hy0 hy1 hy2 rfl (by decide) _ 0 [] rfl (hC.1) (some ⟨g2, 0, none⟩) k c2 ((l.take k).flatMap encI) rfl (HT.out W hW.1) (i_one _) (by unfold maxLen; omega) (by omega) hW.1.size (fun v' w' x2 x3 => ?_)
                have fx : Fr w.heap.size [40] [] W w' := (Fr.refl W).grown x3 (fun j hj => by
                  obtain ⟨hb, cs, hc⟩ := own_block hC.1 hj
                  exact ⟨hb, .inr ⟨cs, _, _, hc, by simp⟩⟩)
                exact ⟨⟨hW.1.trans (fx.below hW.1.size), trivial⟩, x2⟩
              rintro v50 ⟨W0, _, hv50⟩
              obtain ⟨A50, c50, rfl, _, _, _, _⟩ := own_slice hv50
              clear hv50
              simp only [Act.put, List.setIfInBounds_toArray, List.set_cons_succ, List.set_cons_zero]
              refine flow_gmake (fun u W => ∃ g, u = .slice (some ⟨g, 0, none⟩) 1 1 ∧ W.ownsRow w.heap.size 40 2 (.slice A50 (0 + k) c50) (0 + k) ([] ++ (l.take k).flatMap encI) ∧ Rd W 2 (some ⟨g, 0, none⟩) 1 (encI ⟨gd, n⟩)) rfl (by kernel_rfl) (by rfl) (by kernel_rfl) (fun W hW hC => ⟨_, _, by go_simp <;> with_reducible rfl, ⟨⟨hW.1.1.alloc hW.1.1.size _, trivial⟩, trivial⟩, _, rfl, (Fr.of_below (B := 0) (T := []) (S := []) ((Below.refl _ W).alloc (Nat.le_refl _) _)).own hC (by simp) (by simp), rd_one (block_new _ _)⟩) ?_
              rintro u54 ⟨W0, _, g54, rfl, _⟩
              simp only [Act.put, List.setIfInBounds_toArray, List.set_cons_succ, List.set_cons_zero]
              refine flow_gmake (fun v W => W.ownsRow w.heap.size 40 2 v (0 + k + 1) ([] ++ (l.take k).flatMap encI ++ encI ⟨gd, n⟩)) rfl (by kernel_rfl) (by rfl) (by kernel_rfl) (fun W hW hC => ?_) ?_
              · obtain ⟨g55, e55, hO, hR⟩ := hC
                cases e55
                refine exec_append_rd (.tmp 50) (.tmp 54) 26 rfl w.heap.size 40 i1 (.agg #[.string ByteArray.empty, .int .i64 0]) 2 24 Try.underlying26 hi1 hy0 hy1 hy2 rfl (by decide) _ (0 + k) _ rfl (hO) (some ⟨g54, 0, none⟩) 1 1 (encI ⟨gd, n⟩) rfl (hR) (by simp [encI, Value.oneCell']) (by unfold maxLen; omega) (by omega) hW.1.1.1.size (fun v' w' x2 x3 => ?_)
                have fx : Fr w.heap.size [40] [] W w' := (Fr.refl W).grown x3 (fun j hj => by
                  obtain ⟨hb, cs, hc⟩ := own_block hO hj
                  exact ⟨hb, .inr ⟨cs, _, _, hc, by simp⟩⟩)
                exact ⟨⟨⟨⟨hW.1.1.1.trans (fx.below hW.1.1.1.size), trivial⟩, trivial⟩, trivial⟩, x2⟩
              rintro v55 ⟨W0, _, hv55⟩
              obtain ⟨A55, c55, rfl, _, _, _, _⟩ := own_slice hv55
              clear hv55
              simp only [Act.put, List.setIfInBounds_toArray, List.set_cons_succ, List.set_cons_zero]
              refine flow_gmake (fun v W => W.ownsRow w.heap.size 40 2 v (0 + k + 1 + 0) ([] ++ (l.take k).flatMap encI ++ encI ⟨gd, n⟩ ++ (l.drop k).flatMap encI)) rfl (by kernel_rfl) (by rfl) (by kernel_rfl) (fun W hW hC => ?_) ?_
              · refine exec_append_rd (.tmp 55) (.tmp 58) 26 rfl w.heap.size 40 i1 (.agg #[.string ByteArray.empty, .int .i64 0]) 2 24 Try.underlying26 hi1 hy0 hy1 hy2 rfl (by decide) _ (0 + k + 1) _ rfl (hC) (some ⟨g2, k * 2, none⟩) 0 (c2 - k) ((l.drop k).flatMap encI) rfl (HD0.out _ W) (i_one _) (by unfold maxLen; omega) (by omega) hW.1.1.1.1.size (fun v' w' x2 x3 => ?_)
                have fx : Fr w.heap.size [40] [] W w' := (Fr.refl W).grown x3 (fun j hj => by
                  obtain ⟨hb, cs, hc⟩ := own_block hC hj
                  exact ⟨hb, .inr ⟨cs, _, _, hc, by simp⟩⟩)
                exact ⟨⟨⟨⟨⟨hW.1.1.1.1.trans (fx.below hW.1.1.1.1.size), trivial⟩, trivial⟩, trivial⟩, trivial⟩, x2⟩
              rintro v59 ⟨W0, _, _⟩
              simp only [Act.put, List.setIfInBounds_toArray, List.set_cons_succ, List.set_cons_zero]
              refine flow_val ?_ rfl (by kernel_rfl) (by rfl) (fun W hW => ?_) ?_
              rotate_left 1
              · go_simp <;> with_reducible rfl
              simp only [Act.put, List.setIfInBounds_toArray, List.set_cons_succ, List.set_cons_zero]
              refine flow_done2 ?_
              intro W hW hC
              have hbw := hW.1.1.1.1.1
              go_wp2
              go_ret
              exact ⟨_, rfl, put_end HPI.out (by rw [Nat.sub_self]; exact hC), hbw⟩
end Go.Proofs.Ytlcnkicmepcppaa
