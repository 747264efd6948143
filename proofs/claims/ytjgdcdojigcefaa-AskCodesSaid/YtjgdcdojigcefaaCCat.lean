/- The contracts of slices.Grow, slices.Concat and slices.Clone at bytes: new memory that holds what was read. -/
import Derived.Test.YtjgdcdojigcefaaCMk
namespace Go.Proofs.Ytjgdcdojigcefaa
open Go.RowKit

theorem Bs.own_n {w : World} {B e : Nat} {v : Value} {n : Nat} {bs : List Nat} (h : w.ownsRow B e 1 v n (bs.map u8v)) : Bs w v bs := by
  have : bs.length = n := by simpa using h.1
  subst this
  exact Bs.of_own h
/-- New memory with nothing in it yet, and room. -/
def RetOwn (w : World) (e : Ending) (w' : World) : Prop := ∃ v, e = .returned v ∧ w'.ownsRow w.heap.size 5 1 v 0 [] ∧ Below w.heap.size w w'
/-- Bytes in new memory that belong to the caller. -/
def RetO (bs : List Nat) (w : World) (e : Ending) (w' : World) : Prop := ∃ v, e = .returned v ∧ w'.ownsRow w.heap.size 5 1 v bs.length (bs.map u8v) ∧ Below w.heap.size w w'
theorem own_of_cells (w : World) (cur : Array Value) (cap : Nat) (hm : cap ≤ maxLen) (hs : cur.size = cap) : (w.alloc (.cells cur 5)).ownsRow w.heap.size 5 1 (.slice (some ⟨w.heap.size, 0, none⟩) 0 cap) 0 [] :=
  ⟨rfl, .inr ⟨w.heap.size, cap, cur, rfl, Nat.le_refl _, block_new _ _, Nat.zero_le _, hm, by omega, by simp⟩⟩

set_option maxRecDepth 100000 in
set_option maxHeartbeats 400000 in
theorem grow_zero (w : World) : Calls Try.prog 74 #[.slice none 0 0, .int .i64 0] w (RetOwn w) := by
  go_enter Try.func74, Try.ntmps74
  go_wp2
  go_ret
  exact ⟨_, rfl, World.ownsRow_nil _ _ _ _, Below.refl _ _⟩

set_option maxRecDepth 100000 in
set_option maxHeartbeats 400000 in
theorem grow_pos (n : Nat) (w : World) (h0 : 0 < n) (h1 : n ≤ 140737488355328) : Calls Try.prog 74 #[.slice none 0 0, .int .i64 n] w (RetOwn w) := by
  obtain ⟨i0, hi0, hz0, hz1, hz2⟩ := info_parts Try.infoByte
  have hrun := fun (ty : TypeId) => Lib.run_append_nil_zeros (P := Try.prog) w 26 3 ty 5 i0 (.int .u8 0) .i64 .i64 Try.underlying26 Try.underlying3 hi0 hz0 n h0 (by omega) (by omega) (by rw [hz2]; omega)
  obtain ⟨c, hc⟩ : ∃ c, grownCap w n 0 5 = c := ⟨_, rfl⟩
  have hcn : n ≤ c := by rw [← hc]; exact grownCap_ge w n 0 _
  have hcm : c ≤ maxLen := by rw [← hc]; exact grownCap_le_maxLen w n 0 _ (by unfold maxLen; omega)
  rw [hc] at hrun
  obtain ⟨C, hC⟩ : ∃ C, Builtin.zeroCells (Value.int .u8 0).cells n ++ Builtin.zeroCells (Value.int .u8 0).cells (c - n) = C := ⟨_, rfl⟩
  have hCs : C.size = c := by rw [← hC]; simp [Builtin.zeroCells, Value.cells]; omega
  rw [hC] at hrun
  have HR := Lib.hid hrun
  have HC := Lib.hid hCs
  have HM := Lib.hid hcm
  clear hC hc hrun hCs hcm hi0 hz0 hz1 hz2
  go_enter Try.func74, Try.ntmps74
  go_wp2_with (at_builtin; refine Lib.wpList_append_run _ rfl (.tmp 20) (.tmp 21) 26 3 rfl _ _ rfl rfl _ _ (HR.out _) ?_)
  go_ret
  exact ⟨_, rfl, own_of_cells w.drew C c HM.out HC.out, ((Below.refl w.heap.size w).drew).alloc (Nat.le_refl _) _⟩

theorem grow_any (n : Nat) (w : World) (h1 : n ≤ 140737488355328) : Calls Try.prog 74 #[.slice none 0 0, .int .i64 n] w (RetOwn w) := by
  by_cases h0 : n = 0
  · subst h0; exact grow_zero w
  · exact grow_pos n w (by omega) h1

/-- The first k of a list of byte lists, as one; behind a name, and its length. -/
def cat (l : List (List Nat)) (k : Nat) : List Nat := (l.take k).flatten
def catN (l : List (List Nat)) (k : Nat) : Nat := (cat l k).length
theorem cat_succ (l : List (List Nat)) (k : Nat) (h : k < l.length) : cat l (k + 1) = cat l k ++ l[k] := by
  unfold cat
  rw [List.take_succ_eq_append_getElem h, List.flatten_append]
  congr 1
  exact List.append_nil _
theorem catN_succ (l : List (List Nat)) (k : Nat) (h : k < l.length) : catN l (k + 1) = catN l k + (l[k]).length := by unfold catN; rw [cat_succ l k h, List.length_append]
theorem cat_all (l : List (List Nat)) : cat l l.length = l.flatten := by unfold cat; rw [List.take_length]
theorem catN_le (l : List (List Nat)) (k : Nat) : catN l k ≤ l.flatten.length := by
  have : (l.take k).flatten.length + (l.drop k).flatten.length = l.flatten.length := by
    rw [← List.length_append, ← List.flatten_append, List.take_append_drop]
  unfold catN cat
  omega
theorem catN_all (l : List (List Nat)) : catN l l.length = l.flatten.length := by unfold catN; rw [cat_all]
/-- What holds in the second loop of Concat. -/
def CatRel (w : World) (l : List (List Nat)) (v i : Value) (wr : World) : Prop := ∃ k, k ≤ l.length ∧ i = .int .i64 k ∧ wr.ownsRow w.heap.size 5 1 v (catN l k) ((cat l k).map u8v) ∧ Below w.heap.size w wr

set_option maxRecDepth 100000 in
set_option maxHeartbeats 2000000 in
theorem concat_any (v : Value) (l : List (List Nat)) (w : World) (hv : Bss w v l) (ht : l.flatten.length ≤ 140737488355328) :
    Calls Try.prog 67 #[v] w (RetO l.flatten w) := by
  obtain ⟨i0, hi0, hz0, hz1, hz2⟩ := info_parts Try.infoByte
  obtain ⟨A, c, hs, rfl, hlc, hcm, hr, hbs⟩ := hv
  have hlm : l.length ≤ 9223372036854775807 := by unfold maxLen at hcm; omega
  have hl0 : hs.length = l.length := by simpa using hr.1
  have hcell : ∀ k (h : k < l.length), ∃ g o Ak ck, A = some ⟨g, o, none⟩ ∧ g < w.heap.size ∧ w.cell? ⟨g, o + k, none⟩ = some (.slice Ak (l[k]).length ck) ∧ (l[k]).length ≤ ck ∧ ck ≤ maxLen ∧ Rd w 1 Ak (l[k]).length ((l[k]).map u8v) := by
    intro k hk
    obtain ⟨g, o, ha, hg, hc⟩ := hr.2 (by omega)
    obtain ⟨Ak, ck, e1, e2, e3, e4⟩ := hbs k hk hs[k] (by simp [hl0, hk])
    exact ⟨g, o, Ak, ck, ha, hg, by rw [hc k hs[k] (by simp [hl0, hk]), e1], e2, e3, e4⟩
  have HC := Lib.hid hcell
  clear hcell hbs hr hl0 hcm
  go_enter Try.func67, Try.ntmps67
  go_wp2_with fail
  go_loop [3, 11] (fun s i => ∃ k : Nat, k ≤ l.length ∧ i = .int .i64 k ∧ s = .int .i64 (catN l k)) (fun _ i => l.length - (intOf i).toNat)
  case atStart => exact ⟨0, Nat.zero_le _, rfl, rfl⟩
  case round =>
    obtain ⟨k, hk, rfl, rfl⟩ := hrel
    have b1 := catN_le l k
    by_cases hlt : k < l.length
    · obtain ⟨g, o, Ak, ck, rfl, hg, hc, _, _, _⟩ := HC.out k hlt
      have b2 := catN_le l (k + 1)
      have hsum := catN_succ l k hlt
      rw [hsum] at b2
      obtain ⟨T, hT⟩ : ∃ T, l.flatten.length = T := ⟨_, rfl⟩
      rw [hT] at ht b1 b2
      obtain ⟨m, hm⟩ : ∃ m, (l[k]).length = m := ⟨_, rfl⟩
      simp only [hm] at *
      have HS := Lib.hid hsum
      clear hsum hT hm
      go_wp2_with fail
      go_round
      case rel => exact ⟨k + 1, hlt, by go_num, by rw [HS.out]; go_num⟩
      case measure => simp [intOf]; omega
    · obtain rfl : k = l.length := by omega
      rw [catN_all] at b1 ⊢
      clear b1
      obtain ⟨T, hT⟩ : ∃ T, l.flatten.length = T := ⟨_, rfl⟩
      rw [hT] at ht
      simp only [hT]
      have HT := Lib.hid hT
      clear hT
      go_wp2_with fail
      refine (grow_any T w ht).mono ?_
      rintro e w1 ⟨v1, rfl, ho1, hb1⟩
      have HO1 := Lib.hid ho1
      clear ho1
      go_wp2_with fail
      go_loopw [6, 27] (fun v i wr => CatRel w l v i wr) (fun _ i _ => l.length - (intOf i).toNat)
      case atStart => exact ⟨0, Nat.zero_le _, rfl, HO1.out, hb1⟩
      case round =>
        obtain ⟨k, hk, rfl, ho, hb⟩ := hrel
        have HO := Lib.hid ho
        clear ho HO1 hb1
        by_cases hlt : k < l.length
        · obtain ⟨g, o, Ak, ck, rfl, hg, hc0, hck, hckm, hrk⟩ := HC.out k hlt
          have hc : wr.cell? ⟨g, o + k, none⟩ = some (.slice Ak (l[k]).length ck) := (hb.cell (p := ⟨g, o + k, none⟩) hg).trans hc0
          have b2 := catN_le l (k + 1)
          have hsum := catN_succ l k hlt
          rw [hsum, HT.out] at b2
          have HS := Lib.hid hsum
          have HR := Lib.hid (hrk.below (hb.mono (Nat.le_refl _) : Below w.heap.size w wr))
          clear hsum hc0 hrk hckm
          go_wp2_with (at_builtin
                       refine wpList_append_rd_at _ rfl (.tmp 31) (.tmp 32) 26 rfl w.heap.size 5 i0 (.int .u8 0) 1 1 Try.underlying26 hi0 hz0 hz1 hz2 rfl (by decide) u6 _ _ rfl HO.out Ak (l[k]).length ck ((l[k]).map u8v) rfl HR.out (u8_one' _) (by unfold maxLen; omega) (by omega) hb.size ?_
                       intro v5 w5 hown5 hgrow5 _
                       have HO5 := Lib.hid hown5
                       have HG5 := Lib.hid hgrow5
                       clear hown5 hgrow5)
          go_roundw
          case rel =>
            have f5 : Fr w.heap.size [5] [] wr w5 := (Fr.refl wr).grown HG5.out (fun j hj => by
              obtain ⟨hb, cs, hc⟩ := own_block HO.out hj
              exact ⟨hb, .inr ⟨cs, _, _, hc, by simp⟩⟩)
            refine ⟨k + 1, hlt, by go_num, ?_, hb.trans (f5.below hb.size)⟩
            have := HO5.out
            rw [HS.out, cat_succ l k hlt, List.map_append]
            exact this
          case measure => simp [intOf]; omega
        · obtain rfl : k = l.length := by omega
          go_wp2
          go_ret
          refine ⟨_, rfl, ?_, hb⟩
          have := HO.out
          rwa [catN_all, cat_all] at this

set_option maxRecDepth 100000 in
set_option maxHeartbeats 1000000 in
theorem clone_any (v : Value) (bs : List Nat) (w : World) (hv : Bs w v bs) (ht : bs.length ≤ 140737488355328) : Calls Try.prog 56 #[v] w (RetO bs w) := by
  obtain ⟨i0, hi0, hz0, hz1, hz2⟩ := info_parts Try.infoByte
  obtain ⟨A, c, rfl, hlc, hcm, hr⟩ := hv
  cases A with
  | none =>
    have h0 : bs = [] := by
      cases bs with
      | nil => rfl
      | cons b bs =>
        obtain ⟨g, o, ha, _⟩ := hr.2 (by simp)
        cases ha
    subst h0
    clear hr hcm hlc
    have hnil := fun w => Lib.run_eql_slice_nil (P := Try.prog) w 26 5 none 0 c 0 0 Try.underlying26
    go_enter Try.func56, Try.ntmps56
    go_wp2
    go_ret
    exact ⟨_, rfl, World.ownsRow_nil _ _ _ _, Below.refl _ _⟩
  | some a =>
    have HR := Lib.hid hr
    have hnil := fun w => Lib.run_eql_slice_nil (P := Try.prog) w 26 5 (some a) bs.length c 0 0 Try.underlying26
    clear hr
    go_enter Try.func56, Try.ntmps56
    go_wp2_with (at_builtin
                 refine wpList_append_rd_at _ rfl (.tmp 5) (.tmp 6) 26 rfl w.heap.size 5 i0 (.int .u8 0) 1 1 Try.underlying26 hi0 hz0 hz1 hz2 rfl (by decide) (.slice (some ⟨w.heap.size, 0, none⟩) 0 0) 0 [] rfl (own_of_cells w #[] 0 (Nat.zero_le _) rfl) (some a) bs.length c (bs.map u8v) rfl (HR.out.below ((Below.refl _ _).alloc (Nat.le_refl _) _)) (u8_one' _) (by unfold maxLen; omega) (by omega) (by simp) ?_
                 intro v5 w5 hown5 hgrow5 _
                 have HO5 := Lib.hid hown5
                 have HG5 := Lib.hid hgrow5
                 clear hown5 hgrow5)
    go_ret
    have f5 : Fr w.heap.size [5] [] w w5 := ((Fr.refl w).alloc _).grown HG5.out (fun j hj => by
      simp [Value.ownBlock] at hj
      subst hj
      exact ⟨Nat.le_refl _, .inr ⟨_, _, _, block_new _ _, by simp⟩⟩)
    exact ⟨_, rfl, by simpa using HO5.out, f5.below (Nat.le_refl _)⟩
end Go.Proofs.Ytjgdcdojigcefaa
