/- Joined: The contracts of package backlog's methods, each in one theorem; and lives. The contract of All's iterator: it hands over the rows in order, one a round. More memory words: several cells of one block set one behind the other; a slice cleared. No program is named here. -/
import Derived.Test.YtglfbihdbdcgiaaZBP2
import Derived.Test.YtglfbihdbdcgiaaZBP3
import Derived.RangeFuncNested
import Derived.RangeFuncBound
import Derived.RangeFuncCalls
import Derived.RangeFuncLeaves
import Derived.Shelf.Abstract
import Derived.Shelf.RegionOpen
import Derived.OwnWalkIn
import Derived.TacticsInMore
import Derived.LoopNIn
import Derived.LoopIn
import Derived.Test.YtglfbihdbdcgiaaZBP1
import Derived.Deep.RegionLaw
import Derived.Lib.SliceRun
namespace Go.Proofs.Ytglfbihdbdcgiaa
open Go.RowKit

theorem push_any (n : Int) (B p : Nat) (rs : List (Int × Bool)) (out : Int) (w : World) (hi : IsB w B p rs out) (hm : rs.length ≤ 256) :
    Calls Try.prog 12 #[.pointer (some ⟨p, 0, none⟩), .int .i64 n] w fun e w' => e = .returned (.int .i64 (pushR rs n)) ∧ IsB w' B p (pushS rs n) out ∧ FrB B w w' := by
  unfold pushR pushS
  by_cases h : n < 1
  · rw [if_pos h, if_pos h]
    refine (push_arg n p w h).mono ?_
    rintro e w' ⟨rfl, rfl⟩
    exact ⟨rfl, hi, Fr.refl _⟩
  · rw [if_neg h, if_neg h]
    by_cases hx : idx (fun r => r.1 == n) rs = -1
    · rw [if_pos hx, if_pos hx]
      by_cases hl : 256 ≤ rs.length
      · rw [if_pos hl, if_pos hl]
        refine (push_full n B p rs out w hi (by omega) h hx).mono ?_
        rintro e w' ⟨rfl, hb⟩
        exact ⟨rfl, hi.below hb, Fr.of_below hb⟩
      · rw [if_neg hl, if_neg hl]
        exact push_ok n B p rs out w hi (by omega) h hx
    · rw [if_neg hx, if_neg hx]
      refine (push_twice n B p rs out w hi hm h hx).mono ?_
      rintro e w' ⟨rfl, hb⟩
      exact ⟨rfl, hi.below hb, Fr.of_below hb⟩
theorem pushS_length (rs : List (Int × Bool)) (n : Int) (hm : rs.length ≤ 256) : (pushS rs n).length ≤ 256 := by
  unfold pushS
  split
  · exact hm
  · split
    · split
      · exact hm
      · simp; omega
    · exact hm

theorem back_any (n : Int) (B p : Nat) (rs : List (Int × Bool)) (out : Int) (w : World) (h : IsB w B p rs out) :
    Calls Try.prog 16 #[.pointer (some ⟨p, 0, none⟩), .int .i64 n] w fun e w' => e = .returned (.bool (backB out n)) ∧ IsB w' B p rs (backO out n) ∧ FrB B w w' := by
  unfold backB backO
  by_cases hn : out = 0 ∨ out ≠ n
  · rw [if_pos hn]
    refine (back_no n B p rs out w h hn).mono ?_
    rintro e w' ⟨rfl, hb⟩
    exact ⟨ret_bool (by rcases hn with h | h <;> simp [h]), h.below hb, Fr.of_below hb⟩
  · rw [if_neg hn]
    obtain ⟨h0, rfl⟩ : out ≠ 0 ∧ out = n := by omega
    refine (back_yes out B p rs w h h0).mono ?_
    rintro e w' ⟨rfl, hb⟩
    exact ⟨ret_bool (by simp [h0]), hb⟩

/-- What Try answers, which rows stand behind it, who is out. -/
def tryX (rs : List (Int × Bool)) (out : Int) : Int := if out = 0 then (match rs.findIdx? (fun r => r.2) with | some k => (rs.getD k (0, false)).1 | none => 0) else 0
def tryB (rs : List (Int × Bool)) (out : Int) : Bool := if out = 0 then (rs.findIdx? (fun r => r.2)).isSome else false
def tryS (rs : List (Int × Bool)) (out : Int) : List (Int × Bool) := if out = 0 then (match rs.findIdx? (fun r => r.2) with | some k => rs.set k ((rs.getD k (0, false)).1, false) | none => rs) else rs
def tryO (rs : List (Int × Bool)) (out : Int) : Int := if out = 0 then (match rs.findIdx? (fun r => r.2) with | some k => (rs.getD k (0, false)).1 | none => 0) else out
theorem try_any (B p : Nat) (rs : List (Int × Bool)) (out : Int) (w : World) (h : IsB w B p rs out) :
    Calls Try.prog 14 #[.pointer (some ⟨p, 0, none⟩)] w fun e w' => e = .returned (.tuple #[.int .i64 (tryX rs out), .bool (tryB rs out)]) ∧ IsB w' B p (tryS rs out) (tryO rs out) ∧ FrB B w w' := by
  unfold tryX tryB tryS tryO
  by_cases h0 : out = 0
  · subst h0
    cases hf : rs.findIdx? (fun r => r.2) with
    | none =>
      refine (try_none B p rs w h (by simp [idx, hf])).mono ?_
      rintro e w' ⟨rfl, hb⟩
      exact ⟨rfl, h.below hb, Fr.of_below hb⟩
    | some k =>
      have hk := (List.findIdx?_eq_some_iff_getElem.1 hf).1
      have hg : rs.getD k (0, false) = rs[k] := by simp [List.getD, hk]
      refine (try_some B p rs w h k hk (by simp [idx, hf])).mono ?_
      rintro e w' ⟨rfl, hb⟩
      simp only [hg]
      exact ⟨rfl, hb⟩
  · simp only [if_neg h0]
    refine (try_out B p rs out w h h0).mono ?_
    rintro e w' ⟨rfl, hb⟩
    exact ⟨rfl, h.below hb, Fr.of_below hb⟩
theorem tryS_length (rs : List (Int × Bool)) (out : Int) : (tryS rs out).length = rs.length := by
  unfold tryS
  split
  · split <;> simp
  · rfl

set_option maxHeartbeats 400000 in
theorem all_any (p : Option Addr) (w : World) :
    Calls Try.prog 26 #[.pointer p] w fun e w' => e = .returned (.func (.func 36) #[] #[.pointer (some ⟨w.heap.size, 0, none⟩)]) ∧ w.alloc (.cells #[.pointer p] 23) = w' := by
  have hmf : ∀ (fn : Fn) (first cap : Array Value) (w : World), (Instr.makeFunc fn first cap).run Try.prog w = .ok (.func fn first cap) w := fun _ _ _ _ => rfl
  go_enter Try.func26, Try.ntmps26
  go_wp2
  go_ret
  exact ⟨rfl, rfl⟩

theorem pushR_5 : pushR [] 5 = 0 := by decide
theorem pushS_5 : pushS [] 5 = [(5, false)] := by decide
theorem pushR_7 : pushR [(5, false)] 7 = 0 := by decide
theorem pushS_7 : pushS [(5, false)] 7 = [(5, false), (7, false)] := by decide
theorem news_57 : [((5 : Int), false), (7, false)].map (newsRow 0) = [(5, true), (7, true)] := by decide
theorem tryAll1 : tryX [(5, true), (7, true)] 0 = 5 ∧ tryB [(5, true), (7, true)] 0 = true ∧ tryS [(5, true), (7, true)] 0 = [(5, false), (7, true)] ∧ tryO [(5, true), (7, true)] 0 = 5 := by decide
theorem tryAll2 : tryX [(5, false), (7, true)] 5 = 0 ∧ tryB [(5, false), (7, true)] 5 = false ∧ tryS [(5, false), (7, true)] 5 = [(5, false), (7, true)] ∧ tryO [(5, false), (7, true)] 5 = 5 := by decide
theorem backAll : backB 5 5 = true ∧ backO 5 5 = 0 := by decide
theorem tryAll3 : tryX [(5, false), (7, true)] 0 = 7 ∧ tryB [(5, false), (7, true)] 0 = true ∧ tryS [(5, false), (7, true)] 0 = [(5, false), (7, false)] ∧ tryO [(5, false), (7, true)] 0 = 7 := by decide
theorem idx_7 : idx (fun r => r.1 == 7) [(5, false), (7, false)] = 1 := by decide

set_option maxRecDepth 100000 in
set_option maxHeartbeats 2000000 in
theorem lives_any (w : World) : Calls Try.prog 11 #[] w fun e w' => e = .returned (.bool true) ∧ Below w.heap.size w w' := by
  have hfn : ∀ (fn : Fn) (a b : Array Value) (w : World), (binOp .eql 46 (.func fn a b) .nilFunc).run Try.prog w = .ok (.bool false) w := fun _ _ _ _ => by rfl
  go_enter Try.func11, Try.ntmps11
  go_wp2_with fail
  refine (bnew_any _ w.heap.size (Nat.le_refl _)).mono ?_
  rintro e w1 ⟨rfl, i1, b1⟩
  go_wp2_with fail
  refine (all_any _ _).mono ?_
  rintro e w1' ⟨rfl, hw1⟩
  have i2 := i1.below (w' := w1') (by rw [← hw1]; exact (Below.refl _ _).alloc (Nat.le_refl _) _)
  have b2 : Below w.heap.size w w1' := b1.trans (by rw [← hw1]; exact (Below.refl _ _).alloc b1.size _)
  clear hw1 i1 b1
  go_wp2_with fail
  refine (push_any 5 _ _ _ _ _ i2 (by simp)).mono ?_
  rintro e w3 ⟨rfl, i3, f3⟩
  rw [pushR_5] at *
  rw [pushS_5] at *
  have b3 := b2.trans (f3.below b2.size)
  clear i2 f3 b2
  go_wp2_with fail
  refine (push_any 7 _ _ _ _ _ i3 (by simp)).mono ?_
  rintro e w4 ⟨rfl, i4, f4⟩
  rw [pushR_7]
  rw [pushS_7] at i4
  have b4 := b3.trans (f4.below b3.size)
  clear i3 f4 b3
  go_wp2_with fail
  refine (news_any _ _ _ _ _ i4).mono ?_
  rintro e w5 ⟨rfl, i5, f5⟩
  rw [news_57] at i5
  have b5 := b4.trans (f5.below b4.size)
  clear i4 f5 b4
  go_wp2_with fail
  refine (try_any _ _ _ _ _ i5).mono ?_
  rintro e w6 ⟨rfl, i6, f6⟩
  rw [tryAll1.1, tryAll1.2.1]
  rw [tryAll1.2.2.1, tryAll1.2.2.2] at i6
  have b6 := b5.trans (f6.below b5.size)
  clear i5 f6 b5
  go_wp2_with fail
  refine (try_any _ _ _ _ _ i6).mono ?_
  rintro e w7 ⟨rfl, i7, f7⟩
  rw [tryAll2.1, tryAll2.2.1]
  rw [tryAll2.2.2.1, tryAll2.2.2.2] at i7
  have b7 := b6.trans (f7.below b6.size)
  clear i6 f7 b6
  go_wp2_with fail
  refine (back_any 5 _ _ _ _ _ i7).mono ?_
  rintro e w8 ⟨rfl, i8, f8⟩
  rw [backAll.1]
  rw [backAll.2] at i8
  have b8 := b7.trans (f8.below b7.size)
  clear i7 f8 b7
  go_wp2_with fail
  refine (try_any _ _ _ _ _ i8).mono ?_
  rintro e w9 ⟨rfl, i9, f9⟩
  rw [tryAll3.1, tryAll3.2.1]
  rw [tryAll3.2.2.1, tryAll3.2.2.2] at i9
  have b9 := b8.trans (f9.below b8.size)
  clear i8 f9 b8
  go_wp2_with fail
  refine (len_any _ _ _ _ _ i9).mono ?_
  rintro e w9 ⟨rfl, rfl⟩
  go_wp2_with fail
  refine (place_any 7 _ _ _ _ _ i9 (by simp)).mono ?_
  rintro e w10 ⟨rfl, b10⟩
  rw [idx_7]
  have b11 := b9.trans (b10.mono b9.size)
  clear b9 b10
  go_wp2
  go_ret
  exact ⟨rfl, b11⟩

end Go.Proofs.Ytglfbihdbdcgiaa

namespace Go.Proofs.Ytglfbihdbdcgiaa
open Go.RowKit Go.Shelf
attribute [local go_sem] Oper.semAt_some

/-- What the iterator hands over a round. -/
abbrev encRow (x : Int × Bool) : Array Value := #[.int .i64 x.1, .bool x.2]

/-- How an iteration ends, behind a name. -/
def ItPost (A : Prop) (e : Ending) : Prop := (∃ v, e = .returned v) ∧ A
theorem itPost_intro {A : Prop} {v : Value} (h : A) : ItPost A (.returned v) := ⟨⟨v, rfl⟩, h⟩

set_option maxRecDepth 100000 in
set_option maxHeartbeats 1000000 in
theorem iter_nil (n n₀ Bn : Nat) (w : World) (hb : w.cell? ⟨Bn, 0, none⟩ = some (.pointer none)) :
    SeqStopsK Fence.wide n Try.prog 36 #[.pointer (some ⟨Bn, 0, none⟩)] encRow (Below n₀) (fun xs => xs = []) (fun pre => pre <+: []) 0 w := fun l J Jx W hW hJ hJx hY h0 => by
  have hBn := World.block_lt_of_cell? w _ hb
  have hb' : W.cell? ⟨Bn, 0, none⟩ = some (.pointer none) := (hW.cell (p := ⟨Bn, 0, none⟩) hBn).trans hb
  refine CallsIn.mono (R := fun e W' => ItPost _ e) ?_ (fun _ _ h => h)
  refine callsIn_of_wp Try.func36 rfl trivial ?_ rfl
  simp only [Try.ntmps36, List.size_toArray, List.length_cons, List.length_nil, Nat.reduceAdd, Nat.reduceSub, Array.replicate_succ, Array.replicate_zero, List.push_toArray, List.append_toArray, List.nil_append, List.cons_append]
  gi_wp2
  refine bodyPost_ret (results_none rfl _ _ _) rfl ?_
  exact itPost_intro (.inl h0)

set_option maxRecDepth 100000 in
set_option maxHeartbeats 2000000 in
theorem iter_rows (n n₀ Bn B p : Nat) (rs : List (Int × Bool)) (out : Int) (w : World) (hb : w.cell? ⟨Bn, 0, none⟩ = some (.pointer (some ⟨p, 0, none⟩))) (hi : IsB w B p rs out) (hm : rs.length ≤ 256) (hn : 1 ≤ n)
    (hlt : ∀ k, IsB w B p rs out → ∀ v, w.heap[p]? = some (.cells #[v, .int .i64 out] 58 (0, 0)) → v.ownBlock = some k → k < n₀) :
    SeqStopsK Fence.wide n Try.prog 36 #[.pointer (some ⟨Bn, 0, none⟩)] encRow (Below n₀) (fun xs => xs = rs) (fun pre => pre <+: rs) rs.length w := fun l J Jx W hW hJ hJx hY h0 => by
  have hBn := World.block_lt_of_cell? w _ hb
  have hb' : W.cell? ⟨Bn, 0, none⟩ = some (.pointer (some ⟨p, 0, none⟩)) := (hW.cell (p := ⟨Bn, 0, none⟩) hBn).trans hb
  have hf : Fr B [] [] w W := Fr.of_below hW
  obtain ⟨hB, v, hp, ho⟩ := id hi
  have hg₀ := fun k => hlt k hi v hp
  have hpW := hf.keep hp (by simp) (by simp)
  have hoW := hf.own ho (by simp) (by simp)
  obtain ⟨A, c, rfl, hnc, hcm, hrd, hA⟩ := own_slice hoW
  have hp0 := cell_at hpW 0
  have HRD := Lib.hid hrd
  have HA := Lib.hid hA
  have HG := Lib.hid hg₀
  clear hb hW hf hp ho hpW hoW hi hlt hg₀ hcm hrd hA
  refine CallsIn.mono (R := fun e W' => ItPost _ e) ?_ (fun _ _ h => h)
  refine callsIn_of_wp Try.func36 rfl trivial ?_ rfl
  simp only [Try.ntmps36, List.size_toArray, List.length_cons, List.length_nil, Nat.reduceAdd, Nat.reduceSub, Array.replicate_succ, Array.replicate_zero, List.push_toArray, List.append_toArray, List.nil_append, List.cons_append]
  gi_wp2
  gi_loopw [12] (fun i wr => ∃ k : Nat, k ≤ rs.length ∧ i = .int .i64 k ∧ J (rs.take k) wr ∧ (∀ a, A = some a → ∀ o, wr.cell? ⟨a.block, o, none⟩ = W.cell? ⟨a.block, o, none⟩) ∧ W.heap.size ≤ wr.heap.size) (fun i _ => rs.length - (intOf i).toNat)
  case atStart => exact ⟨0, Nat.zero_le _, rfl, by simpa using h0, fun _ _ _ => rfl, Nat.le_refl _⟩
  case round =>
    obtain ⟨k, hk, rfl, hJk, hsame, hsz⟩ := hrel
    have HS := Lib.hid hsame
    have HJk := Lib.hid hJk
    clear hsame hJk
    by_cases hlt : k < rs.length
    · obtain ⟨g, o, rfl, hg, hcell⟩ := HRD.out.2 (by omega)
      obtain ⟨hown, ho0, _⟩ := HA.out _ rfl
      simp only at ho0 hown
      subst ho0
      have c0 : wr.cell? ⟨g, k * 2, none⟩ = some (.int .i64 rs[k].1) := by
        rw [HS.out _ rfl]
        have := hcell _ _ (flat_fst hlt)
        simpa using this
      have c1 : wr.cell? ⟨g, k * 2 + 1, none⟩ = some (.bool rs[k].2) := by
        rw [HS.out _ rfl]
        have := hcell _ _ (flat_snd hlt)
        simpa using this
      have hg0 := HG.out g hown
      obtain ⟨x, hx⟩ : ∃ x, rs[k] = x := ⟨_, rfl⟩
      rw [hx] at c0 c1
      have HX := Lib.hid hx
      have hJa := hJ _ _ (wr.alloc (.cells #[.int .i64 x.1, .bool x.2] 60)) none HJk.out (World.grownBy_alloc wr _ none) (by intro r e; cases e)
      obtain ⟨fn, tmps, assign, body, hy, hR⟩ := hY (rs.take k) x _ hJa (by simp; omega)
      dsimp only [encRow] at hy
      clear hcell hx hown
      gi_wp2
      refine hR.mono ?_
      rintro e W3 (⟨rfl, hJ3, hk3⟩ | ⟨rfl, hJx3⟩)
      · have hs3 : ∀ o, W3.cell? ⟨g, o, none⟩ = W.cell? ⟨g, o, none⟩ := fun o => by
          rw [hk3.cell (p := ⟨g, o, none⟩) hg0, World.cell?_alloc_lt wr _ ⟨g, o, none⟩ (by simp; omega)]
          exact HS.out _ rfl o
        have hz3 : W.heap.size ≤ W3.heap.size := by have := hk3.size; simp at this; omega
        have HS3 := Lib.hid hs3
        have HJ3 := Lib.hid hJ3
        clear hs3 hJ3 hk3
        gi_wp2
        go_roundw
        case rel =>
          refine ⟨k + 1, by omega, by go_num, ?_, fun a ha o => by cases ha; exact HS3.out o, hz3⟩
          rw [List.take_succ_eq_append_getElem hlt, HX.out]
          exact HJ3.out
        case measure => simp [intOf]; omega
      · have HJx := Lib.hid hJx3
        clear hJx3
        gi_wp2
        refine bodyPost_ret (results_none rfl _ _ _) rfl ?_
        refine itPost_intro (.inr ⟨rs.take (k + 1), List.take_prefix _ _, ?_⟩)
        rw [List.take_succ_eq_append_getElem hlt, HX.out]
        exact HJx.out
    · gi_wp2
      go_end0
      refine itPost_intro (.inl ⟨rs, rfl, ?_⟩)
      have := HJk.out
      rwa [List.take_of_length_le (by omega)] at this

end Go.Proofs.Ytglfbihdbdcgiaa

namespace Go.Proofs.Ytglfbihdbdcgiaa
open Go.RowKit

/-- The cells of a block behind several stores in a row. -/
def over : Array Value → Nat → List Value → Array Value
  | cs, _, [] => cs
  | cs, o, v :: r => over (cs.setIfInBounds o v) (o + 1) r
theorem over_size : ∀ (vs : List Value) (cs : Array Value) (o : Nat), (over cs o vs).size = cs.size
  | [], _, _ => rfl
  | v :: r, cs, o => by rw [over, over_size r]; simp
theorem over_get : ∀ (vs : List Value) (cs : Array Value) (o j : Nat), o + vs.length ≤ cs.size → (over cs o vs)[j]? = if o ≤ j ∧ j < o + vs.length then vs[j - o]? else cs[j]?
  | [], cs, o, j, _ => by
    rw [over, if_neg]
    simp
  | v :: r, cs, o, j, h => by
    simp only [List.length_cons] at h
    rw [over, over_get r _ (o + 1) j (by simp; omega)]
    simp only [List.length_cons]
    by_cases h1 : o + 1 ≤ j ∧ j < o + 1 + r.length
    · rw [if_pos h1, if_pos (by omega)]
      obtain ⟨d, rfl⟩ : ∃ d, j = o + 1 + d := ⟨j - (o + 1), by omega⟩
      rw [show o + 1 + d - (o + 1) = d from by omega, show o + 1 + d - o = d + 1 from by omega]
      rfl
    · rw [if_neg h1]
      by_cases h2 : j = o
      · subst h2
        rw [if_pos (by omega), Array.getElem?_setIfInBounds_self_of_lt (by omega)]
        simp
      · rw [if_neg (by omega), Array.getElem?_setIfInBounds_ne (by omega)]
theorem block_over {k : Nat} {t : TypeId} {f : Nat × Nat} : ∀ (vs : List Value) (cs : Array Value) (o : Nat) (w : World), w.heap[k]? = some (.cells cs t f) → (w.setCells k o vs).heap[k]? = some (.cells (over cs o vs) t f)
  | [], _, _, _, h => h
  | v :: r, cs, o, _, h => block_over r (cs.setIfInBounds o v) (o + 1) _ (block_set h o v)
theorem Fr.setCells {B : Nat} {T : List TypeId} {S : List Nat} {a : World} {k : Nat} (hB : B ≤ k) : ∀ (vs : List Value) (o : Nat) (w : World), Fr B T S a w → (k ∈ S ∨ ∃ cs t f, w.heap[k]? = some (.cells cs t f) ∧ t ∈ T) → Fr B T S a (w.setCells k o vs)
  | [], _, _, h, _ => h
  | v :: r, o, w, h, ht => Fr.setCells hB r (o + 1) _ (h.setCell (p := ⟨k, o, none⟩) v hB ht) (by
      rcases ht with ht | ⟨cs, t, f, he, ht⟩
      · exact .inl ht
      · exact .inr ⟨_, t, f, block_set he o v, ht⟩)
theorem take_over {cs : Array Value} {o : Nat} {vs xs : List Value} {n : Nat} (hn : n = o + vs.length) (hx : o ≤ xs.length) (hs : n ≤ cs.size) (ht : cs.toList.take xs.length = xs) : (over cs o vs).toList.take n = xs.take o ++ vs := by
  have hxs : xs.length ≤ cs.size := by
    have := congrArg List.length ht
    simp at this
    omega
  apply List.ext_getElem?
  intro j
  rw [List.getElem?_take]
  by_cases hj : j < n
  · rw [if_pos hj, Array.getElem?_toList, over_get _ _ _ _ (by omega)]
    by_cases h1 : o ≤ j
    · rw [if_pos (by omega), List.getElem?_append_right (by simp; omega)]
      simp
      rw [Nat.min_eq_left hx]
    · rw [if_neg (by omega), List.getElem?_append_left (by simp; omega), List.getElem?_take, if_pos (by omega), ← ht, List.getElem?_take, if_pos (by omega), Array.getElem?_toList]
  · rw [if_neg hj, List.getElem?_eq_none]
    simp
    omega

/-- 'clear(s)' of a slice of n > 0 elements of several cells each. -/
theorem run_clear_many {P : Program} (w : World) (t e : TypeId) (z : Value) (ht : P.underlying t = some (.slice e)) (hv : ∀ w, (zeroValue e).run P w = .ok z w) (h1 : ∀ u ∈ z.cells, u.oneCell' = true) (b o n c : Nat) (hn : 0 < n)
    (hc : ∀ j, j < n * z.cells.size → (w.cell? ⟨b, o + j, none⟩).isSome = true) (hf : ∀ j, j < n * z.cells.size → w.frozen? ⟨b, o + j, none⟩ = false) :
    ∃ vs : List Value, vs.length = n * z.cells.size ∧ ∀ ty, (Builtin.clear_ #[t] ty #[.slice (some ⟨b, o, none⟩) n c]).run P w = .ok (.tuple #[]) (w.setCells b o vs) := by
  obtain ⟨vs, hvs⟩ : ∃ vs, (Builtin.zeroCells z.cells n).toList = vs := ⟨_, rfl⟩
  have hl : vs.length = n * z.cells.size := by rw [← hvs]; simp [Builtin.zeroCells]
  have hone : ∀ u ∈ vs, u.oneCell' = true := by
    intro u hu
    rw [← hvs] at hu
    simp [Builtin.zeroCells] at hu
    obtain ⟨i, hi, rfl⟩ := hu
    by_cases h0 : z.cells.size = 0
    · rw [h0] at hi; omega
    · have hm : i % z.cells.size < z.cells.size := Nat.mod_lt _ (by omega)
      have := h1 z.cells[i % z.cells.size] (by simp)
      simpa [hm] using this
  have hst := run_storeCells_cells (P := P) b o vs 0 w (by simpa [hl] using hc) (by simpa [hl] using hf) hone
  simp only [Nat.add_zero] at hst
  obtain ⟨m, rfl⟩ : ∃ m, n = m + 1 := ⟨n - 1, by omega⟩
  exact ⟨vs, hl, fun ty => by simp [Builtin.clear_, run_underlying ht, hv, hvs, hst]⟩
end Go.Proofs.Ytglfbihdbdcgiaa
