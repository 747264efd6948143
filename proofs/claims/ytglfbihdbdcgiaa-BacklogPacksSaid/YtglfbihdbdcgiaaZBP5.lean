/- Joined: The contracts of slices.Delete at rows, and of Drop. append onto a row of the call's own, from whatever slice. No program is named here. -/
import Derived.Test.YtglfbihdbdcgiaaZBP4
namespace Go.Proofs.Ytglfbihdbdcgiaa
open Go.RowKit

theorem zeroRow (w : World) : (zeroValue 60).run Try.prog w = .ok (.agg #[.int .i64 0, .bool false]) w := by kernel_rfl

theorem flat_drop (rs : List (Int × Bool)) (k : Nat) : (flat rs).drop (k * 2) = flat (rs.drop k) := by
  induction k generalizing rs with
  | zero => simp
  | succ k ih =>
    cases rs with
    | nil => simp [flat]
    | cons r rs =>
      rw [Nat.succ_mul]
      simpa [flat] using ih rs
theorem flat_take (rs : List (Int × Bool)) (k : Nat) : (flat rs).take (k * 2) = flat (rs.take k) := by
  induction k generalizing rs with
  | zero => simp [flat]
  | succ k ih =>
    cases rs with
    | nil => simp [flat]
    | cons r rs =>
      rw [Nat.succ_mul]
      simpa [flat] using ih rs
theorem flat_one (rs : List (Int × Bool)) : ∀ u ∈ flat rs, u.oneCell' = true := by
  intro u hu
  obtain ⟨r, _, hr⟩ := List.mem_flatMap.1 hu
  simp at hr
  rcases hr with rfl | rfl <;> rfl

theorem delete_end {w W1 : World} {B g c i j : Nat} {rs : List (Int × Bool)} {cur : Array Value} {news vs : List Value} (hb : B ≤ g) (hi : i < rs.length) (hj : j = i + 1) (hn : news = flat (rs.drop j)) (hnc : rs.length ≤ c) (hcm : c ≤ maxLen) (hcs : cur.size = c * 2)
    (htake : cur.toList.take (rs.length * 2) = flat rs) (hg1 : W1.heap[g]? = some (.cells (over cur (0 + i * 2) news) 60 (0, 0))) (hvl : vs.length = (rs.length - (i + (rs.length - j))) * 2) (f1 : Fr B [60] [] w W1) :
    (W1.setCells g ((i + (rs.length - j)) * 2) vs).ownsRow B 60 2 (.slice (some ⟨g, 0, none⟩) (rs.length - 1) c) (rs.length - 1) (flat (rs.eraseIdx i)) ∧ Fr B [60] [] w (W1.setCells g ((i + (rs.length - j)) * 2) vs) := by
  have hlen : news.length = (rs.length - j) * 2 := by rw [hn, flat_length]; simp
  have hflat : flat (rs.eraseIdx i) = (flat rs).take (i * 2) ++ news := by
    rw [hn, flat_take, ← flat_append, List.eraseIdx_eq_take_drop_succ, hj]
  refine ⟨⟨by rw [flat_length, List.length_eraseIdx_of_lt hi], .inr ⟨g, c, _, rfl, hb, block_over vs _ _ W1 hg1, by omega, hcm, by rw [over_size, over_size, hcs], ?_⟩⟩, Fr.setCells hb vs _ _ f1 (.inr ⟨_, _, _, hg1, by simp⟩)⟩
  rw [hflat]
  have h1 : (over cur (0 + i * 2) news).toList.take ((rs.length - 1) * 2) = (flat rs).take (0 + i * 2) ++ news := take_over (by omega) (by rw [flat_length]; omega) (by omega) (by rw [flat_length]; exact htake)
  rw [Nat.zero_add] at h1
  rw [← h1]
  apply List.ext_getElem?
  intro t
  rw [List.getElem?_take, List.getElem?_take]
  split
  · rw [Array.getElem?_toList, Array.getElem?_toList, over_get _ _ _ _ (by rw [over_size]; omega), if_neg (by omega), Nat.zero_add]
  · rfl

set_option maxRecDepth 100000 in
set_option maxHeartbeats 2000000 in
/-- slices.Delete of one row. -/
theorem delete_any (B g c i j : Nat) (rs : List (Int × Bool)) (w : World) (ho : w.ownsRow B 60 2 (.slice (some ⟨g, 0, none⟩) rs.length c) rs.length (flat rs)) (hi : i < rs.length) (hj : j = i + 1) :
    Calls Try.prog 35 #[.slice (some ⟨g, 0, none⟩) rs.length c, .int .i64 i, .int .i64 j] w fun e w' => e = .returned (.slice (some ⟨g, 0, none⟩) (rs.length - 1 : Nat) c) ∧
      w'.ownsRow B 60 2 (.slice (some ⟨g, 0, none⟩) (rs.length - 1) c) (rs.length - 1) (flat (rs.eraseIdx i)) ∧ Fr B [60] [] w w' := by
  obtain ⟨i0, hi0, hz0, hz1, hz2⟩ := info_parts Try.infoRow
  obtain ⟨hl, h | ⟨g', cap, cur, hv, hb, hg, hnc, hcm, hcs, htake⟩⟩ := id ho
  · cases h.1
  cases hv
  have hm : c ≤ 9223372036854775807 := by unfold maxLen at hcm; omega
  -- the cells that are moved
  obtain ⟨news, hnews⟩ : ∃ news, news = flat (rs.drop j) := ⟨_, rfl⟩
  have hlen : news.length = (rs.length - j) * 2 := by rw [hnews, flat_length]; simp
  have hsplit : ∀ t u, news[t]? = some u → cur[j * 2 + t]? = some u := by
    intro t u hu
    rw [hnews, ← flat_drop, List.getElem?_drop] at hu
    have hlt : j * 2 + t < rs.length * 2 := by
      have := (List.getElem?_eq_some_iff.1 hu).1
      rwa [flat_length] at this
    rw [← htake, List.getElem?_take, if_pos hlt] at hu
    simpa using hu
  obtain ⟨A, hA, hsrc⟩ : ∃ A : Addr, (if c = j then some (⟨g, 0, none⟩ : Addr) else some ⟨g, j * 2, none⟩) = some A ∧ Hid (∀ t u, news[t]? = some u → w.drew.cell? (A.add t) = some u) := by
    by_cases h : c = j
    · refine ⟨⟨g, 0, none⟩, by simp [h], fun t u hu => ?_⟩
      have h0 : news.length = 0 := by rw [hlen]; omega
      rw [List.length_eq_zero_iff.1 h0] at hu
      simp at hu
    · refine ⟨⟨g, j * 2, none⟩, by simp [h], fun t u hu => ?_⟩
      rw [Addr.add_lit]
      exact (cell_at (w := w) hg _).trans (hsplit t u hu)
  have s2 : Hid (∀ u ∈ news, u.oneCell' = true) := by rw [hnews]; exact flat_one _
  have s3 : Hid (∀ t, t < news.length → (w.drew.cell? ⟨g, 0 + i * 2 + t, none⟩).isSome = true ∧ w.drew.frozen? ⟨g, 0 + i * 2 + t, none⟩ = false) := by
    intro t ht
    refine ⟨?_, frozen_at (w := w) hg _⟩
    show (w.cell? _).isSome = true
    rw [cell_at hg]
    simp
    omega
  obtain ⟨W1, hW1⟩ : ∃ W1, W1 = w.drew.setCells g (0 + i * 2) news := ⟨_, rfl⟩
  have hg1 : W1.heap[g]? = some (.cells (over cur (0 + i * 2) news) 60 (0, 0)) := by rw [hW1]; exact block_over news cur _ w.drew hg
  have f1 : Fr B [60] [] w W1 := by
    rw [hW1]
    exact Fr.setCells hb news _ _ (Fr.refl w).drew (.inr ⟨_, _, _, hg, by simp⟩)
  obtain ⟨vs, hvl, hcl⟩ := run_clear_many (P := Try.prog) W1 56 60 (.agg #[.int .i64 0, .bool false]) Try.underlying56 zeroRow (by decide) g ((i + (rs.length - j)) * 2) (rs.length - (i + (rs.length - j))) (c - (i + (rs.length - j))) (by omega)
    (fun t ht => by rw [cell_at hg1]; simp [over_size, Value.cells] at ht ⊢; omega) (fun t _ => frozen_at hg1 _)
  go_enter Try.func35, Try.ntmps35
  have HC := Lib.hid hcl
  have HG1 := Lib.hid hg1
  have HG := Lib.hid hg
  have HW := Lib.hid hW1
  have F1 := Lib.hid f1
  have HL := Lib.hid hlen
  have HT := Lib.hid htake
  have HCS := Lib.hid hcs
  have hne : ((i : Int) == (j : Int)) = false := by simp; omega
  have hij : i ≤ j := by omega
  have hjl : j ≤ rs.length := by omega
  have hic : i ≤ c := by omega
  have hjc : j ≤ c := by omega
  have hcne : ¬ c = i + (rs.length - j) := by omega
  have HJ := Lib.hid hj
  have HO := Lib.hid ho
  have HN := Lib.hid hnews
  have HCM := Lib.hid hcm
  have HV := Lib.hid hvl
  clear hcl hg1 hg hW1 f1 hlen htake hcs hj ho hnews hsplit hl hcm hvl
  go_wp2_with fail
  go_region_law (refine step_append_room rfl (.tmp 22) (.tmp 25) 56 rfl 60 i0 2 Try.underlying56 hi0 hz1 g 0 i c (by simp [Act.eval, Act.put]) A (rs.length - j) (c - j) news (by simp [Act.eval, Act.put]) HL.out hsrc.out s2.out (by omega) s3.out ?_; rw [← HW.out])
  have hcl := HC.out
  go_wp2
  go_ret
  obtain ⟨r1, r2⟩ := delete_end hb hi HJ.out HN.out hnc HCM.out HCS.out HT.out HG1.out HV.out F1.out
  exact ⟨by rw [show i + (rs.length - j) = rs.length - 1 from by have := HJ.out; omega]; rfl, by simpa using r1, by simpa using r2⟩


set_option maxRecDepth 100000 in
set_option maxHeartbeats 1000000 in
theorem drop_none (n : Int) (B p : Nat) (rs : List (Int × Bool)) (out : Int) (w : World) (hi : IsB w B p rs out) (hm : rs.length ≤ 256) (hx : idx (fun r => r.1 == n) rs = -1) :
    Calls Try.prog 18 #[.pointer (some ⟨p, 0, none⟩), .int .i64 n] w fun e w' => e = .returned (.bool false) ∧ Below w.heap.size w w' := by
  have hc := fun w' hw => place_any n B p rs out w' hw hm
  rw [hx] at hc
  have HC := Lib.hid hc
  clear hc hx
  go_enter Try.func18, Try.ntmps18
  go_wp2_with (go_at_call 15; refine (HC.out _ hi).mono ?_; rintro e w1 ⟨rfl, hb1⟩)
  go_ret
  exact ⟨rfl, hb1⟩

set_option maxHeartbeats 400000 in
theorem drop_nil (n : Int) (w : World) :
    Calls Try.prog 18 #[.pointer none, .int .i64 n] w fun e w' => e = .returned (.bool false) ∧ Below w.heap.size w w' := by
  go_enter Try.func18, Try.ntmps18
  go_wp2_with (go_at_call 15; refine (place_nil _ _).mono ?_; rintro e w1 ⟨rfl, hb1⟩)
  go_ret
  exact ⟨rfl, hb1⟩

set_option maxRecDepth 100000 in
set_option maxHeartbeats 2000000 in
theorem drop_some (n : Int) (B p i : Nat) (rs : List (Int × Bool)) (out : Int) (w : World) (hi : IsB w B p rs out) (hm : rs.length ≤ 256) (hil : i < rs.length) (hx : idx (fun r => r.1 == n) rs = i) :
    Calls Try.prog 18 #[.pointer (some ⟨p, 0, none⟩), .int .i64 n] w fun e w' => e = .returned (.bool true) ∧ IsB w' B p (rs.eraseIdx i) (backO out n) ∧ FrB B w w' := by
  have hc := fun w' hw => place_any n B p rs out w' hw hm
  rw [hx] at hc
  have HC := Lib.hid hc
  clear hc hx
  have hne : ((i : Int) == -1) = false := by simp
  go_enter Try.func18, Try.ntmps18
  go_wp2_with fail
  refine (HC.out _ hi).mono ?_
  rintro e w1 ⟨rfl, hb1⟩
  have hi1 := hi.below hb1
  obtain ⟨hB, v, hp, ho⟩ := hi1
  obtain ⟨n', hn'⟩ : ∃ n', rs.length = n' + 1 := ⟨rs.length - 1, by omega⟩
  obtain ⟨g, c, hv⟩ := own_succ (n := n') (by rw [← hn']; exact ho)
  rw [← hn'] at hv
  subst hv
  clear hn'
  have hp0 := cell_at hp 0
  have HP := Lib.hid hp
  have HO := Lib.hid ho
  clear hi hp ho
  go_wp2_with fail
  rw [show ((i : Int) + 1) = ((i + 1 : Nat) : Int) from by omega]
  refine (delete_any B g c i (i + 1) rs _ HO.out hil rfl).mono ?_
  rintro e w2 ⟨rfl, ho2, f2⟩
  have hp2 := f2.keep HP.out (by decide) (by simp)
  have hp20 := cell_at hp2 0
  have hpf := frozen_at hp2 0
  have hpo : (Value.slice (some ⟨g, 0, none⟩) (rs.length - 1) c).ownBlock ≠ some p := own_ne ho2 hp2 (by decide)
  have f3 : FrB B w (w2.setCell ⟨p, 0, none⟩ (.slice (some ⟨g, 0, none⟩) (rs.length - 1) c)) := ((Fr.of_below hb1).trans (f2.mono (Nat.le_refl _) (by simp) (by simp))).setCell _ hB (.inr ⟨_, _, _, hp2, by simp⟩)
  have i3 : IsB (w2.setCell ⟨p, 0, none⟩ (.slice (some ⟨g, 0, none⟩) (rs.length - 1) c)) B p (rs.eraseIdx i) out := by
    have h2 : Fr B [] [p] w2 (w2.setCell ⟨p, 0, none⟩ (.slice (some ⟨g, 0, none⟩) (rs.length - 1) c)) := (Fr.refl w2).setCell _ hB (.inl (by simp))
    have h3 := h2.own ho2 (by simp) (fun k hk => by
      intro hm
      simp at hm
      subst hm
      exact hpo hk)
    refine ⟨hB, _, block_set hp2 0 _, ?_⟩
    rw [List.length_eraseIdx_of_lt hil]
    exact h3
  have HP2 := Lib.hid hp2
  clear ho2 f2 hp2 hpo
  go_wp2_with fail
  refine (back_any n _ _ _ _ _ i3).mono ?_
  rintro e w4 ⟨rfl, i4, f4⟩
  go_wp2
  go_ret
  exact ⟨rfl, i4, f3.trans f4⟩

/-- What Drop answers, and the rows and who is out behind it. -/
def dropB (rs : List (Int × Bool)) (n : Int) : Bool := (rs.findIdx? (fun r => r.1 == n)).isSome
def dropS (rs : List (Int × Bool)) (n : Int) : List (Int × Bool) := match rs.findIdx? (fun r => r.1 == n) with | some i => rs.eraseIdx i | none => rs
def dropO (rs : List (Int × Bool)) (out n : Int) : Int := match rs.findIdx? (fun r => r.1 == n) with | some _ => backO out n | none => out
theorem drop_any (n : Int) (B p : Nat) (rs : List (Int × Bool)) (out : Int) (w : World) (hi : IsB w B p rs out) (hm : rs.length ≤ 256) :
    Calls Try.prog 18 #[.pointer (some ⟨p, 0, none⟩), .int .i64 n] w fun e w' => e = .returned (.bool (dropB rs n)) ∧ IsB w' B p (dropS rs n) (dropO rs out n) ∧ FrB B w w' := by
  unfold dropB dropS dropO
  cases hf : rs.findIdx? (fun r => r.1 == n) with
  | none =>
    refine (drop_none n B p rs out w hi hm (by simp [idx, hf])).mono ?_
    rintro e w' ⟨rfl, hb⟩
    exact ⟨rfl, hi.below hb, Fr.of_below hb⟩
  | some k => exact drop_some n B p k rs out w hi hm (List.findIdx?_eq_some_iff_getElem.1 hf).1 (by simp [idx, hf])
theorem dropS_length (rs : List (Int × Bool)) (n : Int) : (dropS rs n).length ≤ rs.length := by
  unfold dropS
  split
  · exact List.length_eraseIdx_le ..
  · exact Nat.le_refl _

end Go.Proofs.Ytglfbihdbdcgiaa

namespace Go.Proofs.Ytglfbihdbdcgiaa
open Go.RowKit

section
variable {P : Program} (w : World)

theorem run_append_rd (base : Nat) (t ty e : TypeId) (i : TypeInfo) (z : Value) (size bytes : Nat) (ht : P.underlying t = some (.slice e)) (hi : P.info? e = some i) (hz : i.zero = some z)
    (hsize : i.size = size) (hby : i.bytes = bytes) (hzs : z.cells.size = size) (hsz : 0 < size)
    (v : Value) (n : Nat) (xs : List Value) (hown : w.ownsRow base e size v n xs)
    (A : Option Addr) (m c : Nat) (news : List Value) (hr : Rd w size A m news) (h1 : ∀ u ∈ news, u.oneCell' = true)
    (h63 : n + m ≤ maxLen) (hbytes : (n + m) * bytes ≤ 140737488355328) (hbase : base ≤ w.heap.size) :
    ∃ v' w', (Builtin.append_ #[t, t] ty #[v, .slice A m c]).run P w = .ok v' w' ∧ w'.ownsRow base e size v' (n + m) (xs ++ news) ∧ w.grownBy w' v.ownBlock ∧ (v' = .slice none 0 0 → v = .slice none 0 0 ∧ m = 0) := by
  by_cases hm : m = 0
  · subst hm
    have hn : news = [] := List.eq_nil_of_length_eq_zero (by simpa using hr.1)
    subst hn
    cases A with
    | none =>
      refine ⟨v, w, ?_, by simpa using hown, World.grownBy.refl w _, fun h => ⟨h, rfl⟩⟩
      rcases hown.2 with ⟨rfl, rfl⟩ | ⟨g, cap, cur, rfl, _, _, hnc, _⟩
      · simp [Builtin.append_, run_underlying ht, sizeOf, typeInfo, hi, Builtin.lenOf, Builtin.firstCells]
      · simp [Builtin.append_, run_underlying ht, sizeOf, typeInfo, hi, Builtin.lenOf, Builtin.firstCells, hnc, storeCells]
    | some a =>
      obtain ⟨v', w', h2, h3, h4, h5⟩ := run_append_own (P := P) w base t ty e i z size bytes ht hi hz hsize hby hzs hsz v n xs hown a 0 c [] (by simp) (by simp) (by simp) h63 hbytes hbase
      exact ⟨v', w', h2, h3, h4, h5.1⟩
  · obtain ⟨g, o, rfl, hg, hc⟩ := hr.2 (by omega)
    obtain ⟨v', w', h2, h3, h4, h5⟩ := run_append_own (P := P) w base t ty e i z size bytes ht hi hz hsize hby hzs hsz v n xs hown ⟨g, o, none⟩ m c news hr.1 (fun j u hu => by
      have := hc j u hu
      have e : (⟨g, o, none⟩ : Addr).add j = ⟨g, o + j, none⟩ := by unfold Addr.add; split <;> simp_all
      rw [e]; exact this) h1 h63 hbytes hbase
    exact ⟨v', w', h2, h3, h4, h5.1⟩

theorem wp_append_rd {o : Oper} {a : Act} {K : Act → World → Prop} {Q : Exit → Act → World → Prop} (s x : Operand) (t : TypeId)
    (ho : o.op = .call { callee := .builtin .append, args := #[s, x], argTypes := #[t, t] })
    (base : Nat) (e : TypeId) (i : TypeInfo) (z : Value) (size bytes : Nat) (ht : P.underlying t = some (.slice e)) (hi : P.info? e = some i) (hz : i.zero = some z)
    (hsize : i.size = size) (hby : i.bytes = bytes) (hzs : z.cells.size = size) (hsz : 0 < size)
    (v : Value) (n : Nat) (xs : List Value) (hs : a.eval s = v) (hown : w.ownsRow base e size v n xs)
    (A : Option Addr) (m c : Nat) (news : List Value) (hx : a.eval x = .slice A m c) (hr : Rd w size A m news) (h1 : ∀ u ∈ news, u.oneCell' = true)
    (h63 : n + m ≤ maxLen) (hbytes : (n + m) * bytes ≤ 140737488355328) (hbase : base ≤ w.heap.size)
    (h : ∀ v' w', w'.ownsRow base e size v' (n + m) (xs ++ news) → w.grownBy w' v.ownBlock → (v' = .slice none 0 0 → v = .slice none 0 0 ∧ m = 0) → K (a.put o.dst v') w') : o.wp P a w K Q := by
  obtain ⟨v', w', hrun, h2, h3, h4⟩ := run_append_rd (P := P) w base t o.type e i z size bytes ht hi hz hsize hby hzs hsz v n xs hown A m c news hr h1 h63 hbytes hbase
  unfold Oper.wp execOp
  simp only [ho, resolve, invoke, builtin, Sem.run_bind, Sem.run_pure, Result.andThen_ok, List.map_toArray, List.map_cons, List.map_nil, hs, hx, hrun]
  exact h v' w' h2 h3 h4

theorem wpList_append_rd {ops : Array Oper} {rest : List Oper} {o : Oper} {a : Act} {Q : Exit → Act → World → Prop} (hgd : o.guard = none) (s x : Operand) (t : TypeId)
    (ho : o.op = .call { callee := .builtin .append, args := #[s, x], argTypes := #[t, t] })
    (base : Nat) (e : TypeId) (i : TypeInfo) (z : Value) (size bytes : Nat) (ht : P.underlying t = some (.slice e)) (hi : P.info? e = some i) (hz : i.zero = some z)
    (hsize : i.size = size) (hby : i.bytes = bytes) (hzs : z.cells.size = size) (hsz : 0 < size)
    (v : Value) (n : Nat) (xs : List Value) (hs : a.eval s = v) (hown : w.ownsRow base e size v n xs)
    (A : Option Addr) (m c : Nat) (news : List Value) (hx : a.eval x = .slice A m c) (hr : Rd w size A m news) (h1 : ∀ u ∈ news, u.oneCell' = true)
    (h63 : n + m ≤ maxLen) (hbytes : (n + m) * bytes ≤ 140737488355328) (hbase : base ≤ w.heap.size)
    (h : ∀ v' w', w'.ownsRow base e size v' (n + m) (xs ++ news) → w.grownBy w' v.ownBlock → (v' = .slice none 0 0 → v = .slice none 0 0 ∧ m = 0) → wpList P ops Q rest (a.put o.dst v') w') : wpList P ops Q (o :: rest) a w :=
  wpList_plain hgd fun _ hK => wp_append_rd w s x t ho base e i z size bytes ht hi hz hsize hby hzs hsz v n xs hs hown A m c news hx hr h1 h63 hbytes hbase fun v' w' h2 h3 h4 => hK _ _ (h v' w' h2 h3 h4)

theorem step_append_rd {ops : Array Oper} {o : Oper} {a : Act} {K : Act → World → Prop} {Q : Exit → Act → World → Prop} {E : Prop} (hgd : o.guard = none) (s x : Operand) (t : TypeId)
    (ho : o.op = .call { callee := .builtin .append, args := #[s, x], argTypes := #[t, t] })
    (base : Nat) (e : TypeId) (i : TypeInfo) (z : Value) (size bytes : Nat) (ht : P.underlying t = some (.slice e)) (hi : P.info? e = some i) (hz : i.zero = some z)
    (hsize : i.size = size) (hby : i.bytes = bytes) (hzs : z.cells.size = size) (hsz : 0 < size)
    (v : Value) (n : Nat) (xs : List Value) (hs : a.eval s = v) (hown : w.ownsRow base e size v n xs)
    (A : Option Addr) (m c : Nat) (news : List Value) (hx : a.eval x = .slice A m c) (hr : Rd w size A m news) (h1 : ∀ u ∈ news, u.oneCell' = true)
    (h63 : n + m ≤ maxLen) (hbytes : (n + m) * bytes ≤ 140737488355328) (hbase : base ≤ w.heap.size)
    (h : ∀ v' w', w'.ownsRow base e size v' (n + m) (xs ++ news) → w.grownBy w' v.ownBlock → (v' = .slice none 0 0 → v = .slice none 0 0 ∧ m = 0) → K (a.put o.dst v') w') :
    if Region.wanted o (yielded ops a.tmps) = true then Oper.wp P o a w K Q else E := by
  have hw : Region.wanted o (yielded ops a.tmps) = true := by simp [Region.wanted, hgd]
  rw [if_pos hw]
  exact wp_append_rd w s x t ho base e i z size bytes ht hi hz hsize hby hzs hsz v n xs hs hown A m c news hx hr h1 h63 hbytes hbase h
end

theorem Rd.take {w : World} {size : Nat} {A : Option Addr} {n : Nat} {xs : List Value} (h : Rd w size A n xs) {k : Nat} (hk : k ≤ n) : Rd w size A k (xs.take (k * size)) := by
  refine ⟨?_, fun hk0 => ?_⟩
  · rw [List.length_take, h.1]
    exact Nat.min_eq_left (Nat.mul_le_mul_right _ hk)
  · obtain ⟨g, o, ha, hg, hc⟩ := h.2 (by omega)
    refine ⟨g, o, ha, hg, fun j u hu => ?_⟩
    rw [List.getElem?_take] at hu
    split at hu
    · exact hc j u hu
    · cases hu
/-- s[k:], whatever the walk has made of its address where the capacity ends. -/
theorem Rd.drop {w : World} {size : Nat} {g o : Nat} {n : Nat} {xs : List Value} (h : Rd w size (some ⟨g, o, none⟩) n xs) {k : Nat} (hk : k ≤ n) {A : Option Addr} (hA : k < n → A = some ⟨g, o + k * size, none⟩) : Rd w size A (n - k) (xs.drop (k * size)) := by
  refine ⟨by rw [List.length_drop, h.1, Nat.sub_mul], fun hk0 => ?_⟩
  obtain ⟨g', o', ha, hg, hc⟩ := h.2 (by omega)
  cases ha
  refine ⟨g, o + k * size, hA (by omega), hg, fun j u hu => ?_⟩
  rw [List.getElem?_drop] at hu
  have := hc _ u hu
  rwa [← Nat.add_assoc] at this
theorem Rd.keep {w w' : World} {size n : Nat} {A : Option Addr} {xs : List Value} (h : Rd w size A n xs) (hsz : w.heap.size ≤ w'.heap.size) (hk : ∀ a, A = some a → w'.heap[a.block]? = w.heap[a.block]?) : Rd w' size A n xs :=
  ⟨h.1, fun hn => by
    obtain ⟨g, o, e, hg, hc⟩ := h.2 hn
    exact ⟨g, o, e, Nat.lt_of_lt_of_le hg hsz, fun j u hu => (World.cell?_of_block (a := ⟨g, o + j, none⟩) (hk ⟨g, o, none⟩ e)).trans (hc j u hu)⟩⟩
theorem own_pos {w : World} {base : Nat} {e : TypeId} {size n : Nat} {v : Value} {xs : List Value} (h : w.ownsRow base e size v n xs) (hn : 0 < n) : ∃ g c, v = .slice (some ⟨g, 0, none⟩) n c := by
  rcases h.2 with ⟨_, h0⟩ | ⟨g, cap, cur, rfl, _⟩
  · omega
  · exact ⟨g, cap, rfl⟩
end Go.Proofs.Ytglfbihdbdcgiaa
