/- Package count: Sum; the reference's. -/
import Derived.Test.YtochhjdjfgiaeaaNLives
namespace Go.Proofs.Ytochhjdjfgiaeaa
open Go.RowKit

/-- What Sum answers. -/
def sumE (xs : List Int) : Int := if noneN xs = true then 1 else if 1099511627776 < xs.sum then 50 else 0
def sumV (xs : List Int) : Int := if sumE xs = 0 then xs.sum else 0
theorem noneN_mem {xs : List Int} (h : noneN xs = false) : ∀ x ∈ xs, 0 ≤ x ∧ x ≤ 1099511627776 := by
  intro x hx
  unfold noneN at h
  rw [List.any_eq_false] at h
  have := h x hx
  exact mayN_iff.1 (by simpa using this)
theorem isum_take_succ (xs : List Int) (k : Nat) (h : k < xs.length) : (xs.take (k + 1)).sum = (xs.take k).sum + xs[k] := by
  rw [List.take_succ_eq_append_getElem h, List.sum_append]; simp
theorem isum_nonneg (xs : List Int) (h : ∀ x ∈ xs, 0 ≤ x) : 0 ≤ xs.sum := by
  induction xs with
  | nil => simp
  | cons a l ih =>
    have h1 := h a (by simp)
    have h2 := ih fun x hx => h x (by simp [hx])
    rw [List.sum_cons]; omega
theorem isum_take_le (xs : List Int) (h : ∀ x ∈ xs, 0 ≤ x) (k : Nat) : 0 ≤ (xs.take k).sum ∧ (xs.take k).sum ≤ xs.sum := by
  have h1 := isum_nonneg (xs.take k) fun x hx => h x (List.mem_of_mem_take hx)
  have h2 := isum_nonneg (xs.drop k) fun x hx => h x (List.mem_of_mem_drop hx)
  have h3 : xs.sum = (xs.take k).sum + (xs.drop k).sum := by rw [← List.sum_append, List.take_append_drop]
  omega

set_option maxRecDepth 100000 in
set_option maxHeartbeats 1000000 in
theorem sum_any (A : Option Addr) (c : Nat) (xs : List Int) (w : World) (hm : xs.length ≤ 9223372036854775807) (hr : Rd w 1 A xs.length (xs.map i64v)) :
    Calls Try.prog 18 #[.slice A xs.length c] w fun e w' => e = .returned (.tuple #[.int .i64 (sumV xs), .int .i64 (sumE xs)]) ∧ Below w.heap.size w w' := by
  have HR := Lib.hid hr
  go_enter Try.func18, Try.ntmps18
  go_wp2_with fail
  refine (none_any A c xs w hm hr).mono ?_
  rintro e w1 ⟨rfl, rfl⟩
  clear hr
  cases hno : noneN xs
  · have hmem := noneN_mem hno
    have HMem := Lib.hid hmem
    have HNo := Lib.hid hno
    clear hno hmem
    go_wp2_with fail
    go_loopw [4, 5, 6] (fun s e i wr => ∃ k : Nat, k ≤ xs.length ∧ i = .int .i64 k ∧ Below w.heap.size w wr ∧ ((e = .int .i64 0 ∧ s = .int .i64 (xs.take k).sum ∧ (xs.take k).sum ≤ 1099511627776) ∨ (e = .int .i64 50 ∧ s = .int .i64 0 ∧ 1099511627776 < xs.sum))) (fun _ _ i _ => xs.length - (intOf i).toNat)
    case atStart => exact ⟨0, Nat.zero_le _, rfl, Below.refl _ _, .inl ⟨rfl, by simp, by simp⟩⟩
    case round =>
      obtain ⟨k, hk, rfl, hb, hc⟩ := hrel
      rcases hc with ⟨rfl, rfl, hs⟩ | ⟨rfl, rfl, hs⟩
      · by_cases hlt : k < xs.length
        · obtain ⟨g, o, rfl, hg, hcell⟩ := HR.out.2 (by omega)
          have c0 : wr.cell? ⟨g, o + k, none⟩ = some (.int .i64 xs[k]) := (hb.cell (p := ⟨g, o + k, none⟩) hg).trans (hcell k _ (by simp [hlt, i64v]))
          have hx := HMem.out xs[k] (List.getElem_mem hlt)
          have h1 := isum_take_succ xs k hlt
          have h2 := isum_take_le xs (fun x hx => (HMem.out x hx).1) k
          have h3 := isum_take_le xs (fun x hx => (HMem.out x hx).1) (k + 1)
          obtain ⟨x, hxk⟩ : ∃ x, xs[k] = x := ⟨_, rfl⟩
          obtain ⟨s, hsk⟩ : ∃ s, (xs.take k).sum = s := ⟨_, rfl⟩
          rw [hxk] at c0 hx h1
          rw [hsk] at hs h1 h2 ⊢
          have hms : mayN s = true ∧ mayN x = true := ⟨mayN_iff.2 ⟨h2.1, hs⟩, mayN_iff.2 hx⟩
          have HB := Lib.hid hb
          have H1 := Lib.hid h1
          by_cases ho : 1099511627776 - s < x
          · have he : addE s x = 50 := by unfold addE; rw [if_pos hms, if_pos ho]
            have hv : addR s x = 0 := by unfold addR; rw [he]; rfl
            have HE := Lib.hid he
            have HV := Lib.hid hv
            have HO : Hid (1099511627776 < xs.sum) := Lib.hid (by omega)
            clear hcell hb h1 h2 h3 hms he hv hxk hsk ho
            go_wp2_with fail
            refine (add_any s x wr).mono ?_
            rintro e w2 ⟨rfl, h2⟩
            rw [HE.out, HV.out]
            have HB2 := Lib.hid (HB.out.trans (h2.mono HB.out.size))
            clear h2
            go_wp2_with fail
            go_roundw
            case rel => exact ⟨k + 1, hlt, by go_num, HB2.out, .inr ⟨rfl, rfl, HO.out⟩⟩
            case measure => simp [intOf]; omega
          · have he : addE s x = 0 := by unfold addE; rw [if_pos hms, if_neg ho]
            have hv : addR s x = s + x := by unfold addR; rw [he]; rfl
            have HE := Lib.hid he
            have HV := Lib.hid hv
            have HO : Hid ((xs.take (k + 1)).sum ≤ 1099511627776) := Lib.hid (by omega)
            clear hcell hb h1 h2 h3 hms he hv hxk hsk ho
            go_wp2_with fail
            refine (add_any s x wr).mono ?_
            rintro e w2 ⟨rfl, h2⟩
            rw [HE.out, HV.out]
            have HB2 := Lib.hid (HB.out.trans (h2.mono HB.out.size))
            clear h2
            go_wp2_with fail
            go_roundw
            case rel => exact ⟨k + 1, hlt, by go_num, HB2.out, .inl ⟨rfl, by rw [H1.out], HO.out⟩⟩
            case measure => simp [intOf]; omega
        · have ht : xs.take k = xs := List.take_of_length_le (by omega)
          rw [ht] at hs ⊢
          have he : sumE xs = 0 := by unfold sumE; rw [HNo.out]; rw [if_neg (by simp), if_neg (by omega)]
          have hv : sumV xs = xs.sum := by unfold sumV; rw [he]; rfl
          have HE := Lib.hid he
          have HV := Lib.hid hv
          have HB := Lib.hid hb
          obtain ⟨s, hsk⟩ : ∃ s, xs.sum = s := ⟨_, rfl⟩
          rw [hsk] at HV
          rw [hsk]
          clear he hv hb hs ht hsk
          go_wp2
          go_ret2
          exact ⟨by rw [HE.out, HV.out]; rfl, HB.out⟩
      · have he : sumE xs = 50 := by unfold sumE; rw [HNo.out]; rw [if_neg (by simp), if_pos hs]
        have hv : sumV xs = 0 := by unfold sumV; rw [he]; rfl
        have HE := Lib.hid he
        have HV := Lib.hid hv
        have HB := Lib.hid hb
        clear he hv hb hs
        by_cases hlt : k < xs.length
        · go_wp2
          go_ret2
          exact ⟨by rw [HE.out, HV.out]; rfl, HB.out⟩
        · go_wp2
          go_ret2
          exact ⟨by rw [HE.out, HV.out]; rfl, HB.out⟩
  · have he : sumE xs = 1 := by unfold sumE; rw [if_pos hno]
    have hv : sumV xs = 0 := by unfold sumV; rw [he]; rfl
    have HE := Lib.hid he
    have HV := Lib.hid hv
    clear he hv hno
    go_wp2
    go_ret2
    exact ⟨by rw [HE.out, HV.out]; rfl, Below.refl _ _⟩

set_option maxRecDepth 100000 in
set_option maxHeartbeats 1000000 in
theorem xsum_any (A : Option Addr) (c : Nat) (xs : List Int) (w : World) (hm : xs.length ≤ 9223372036854775807) (hr : Rd w 1 A xs.length (xs.map i64v)) :
    Calls Try.prog 19 #[.slice A xs.length c] w fun e w' => e = .returned (.tuple #[.int .i64 (sumV xs), .int .i64 (sumE xs)]) ∧ Below w.heap.size w w' := by
  have HR := Lib.hid hr
  clear hr
  go_enter Try.func19, Try.ntmps19
  go_wp2_with fail
  go_loopw [4] (fun i wr => ∃ k : Nat, k ≤ xs.length ∧ i = .int .i64 k ∧ w = wr ∧ ∀ j (hj : j < xs.length), j < k → mayN xs[j] = true) (fun i _ => xs.length - (intOf i).toNat)
  case atStart => exact ⟨0, Nat.zero_le _, rfl, rfl, fun j hj hk => absurd hk (by omega)⟩
  case round =>
    obtain ⟨k, hk, rfl, rfl, hq⟩ := hrel
    have HQ := Lib.hid hq
    clear hq
    by_cases hlt : k < xs.length
    · obtain ⟨g, o, rfl, hg, hcell⟩ := HR.out.2 (by omega)
      have c0 : w.cell? ⟨g, o + k, none⟩ = some (.int .i64 xs[k]) := hcell k _ (by simp [hlt, i64v])
      clear hcell
      cases hv : mayN xs[k]
      · have HV := Lib.hid hv
        have hno : noneN xs = true := List.any_eq_true.2 ⟨xs[k], List.getElem_mem hlt, by rw [hv]; rfl⟩
        have he : sumE xs = 1 := by unfold sumE; rw [if_pos hno]
        have hs : sumV xs = 0 := by unfold sumV; rw [he]; rfl
        have HE := Lib.hid he
        have HS := Lib.hid hs
        clear hv hno he hs
        go_wp2_with fail
        refine (xmay_any _ _).mono ?_
        rintro e w1 ⟨rfl, rfl⟩
        rw [HV.out]
        go_wp2
        go_ret2
        exact ⟨by rw [HE.out, HS.out]; rfl, Below.refl _ _⟩
      · have HV := Lib.hid hv
        clear hv
        go_wp2_with fail
        refine (xmay_any _ _).mono ?_
        rintro e w1 ⟨rfl, rfl⟩
        rw [HV.out]
        go_wp2_with fail
        go_roundw
        case rel =>
          refine ⟨k + 1, by omega, by go_num, trivial, fun j hj hk => ?_⟩
          rcases Nat.lt_or_ge j k with h | h
          · exact HQ.out j hj h
          · obtain rfl : j = k := by omega
            exact HV.out
        case measure => simp [intOf]; omega
    · have hno : noneN xs = false := by
        unfold noneN
        rw [List.any_eq_false]
        intro x hx
        obtain ⟨j, hj, rfl⟩ := List.getElem_of_mem hx
        rw [HQ.out j hj (by omega)]
        simp
      have HMem := Lib.hid (noneN_mem hno)
      have HNo := Lib.hid hno
      clear hno
      go_wp2_with fail
      go_loopw [5, 6] (fun s i wr => ∃ k : Nat, k ≤ xs.length ∧ i = .int .i64 k ∧ w = wr ∧ s = .int .i64 (xs.take k).sum ∧ (xs.take k).sum ≤ 1099511627776) (fun _ i _ => xs.length - (intOf i).toNat)
      case atStart => exact ⟨0, Nat.zero_le _, rfl, rfl, by simp, by simp⟩
      case round =>
        obtain ⟨k, hk, rfl, rfl, rfl, hs⟩ := hrel
        by_cases hlt : k < xs.length
        · obtain ⟨g, o, rfl, hg, hcell⟩ := HR.out.2 (by omega)
          have c0 : w.cell? ⟨g, o + k, none⟩ = some (.int .i64 xs[k]) := hcell k _ (by simp [hlt, i64v])
          have hx := HMem.out xs[k] (List.getElem_mem hlt)
          have h1 := isum_take_succ xs k hlt
          have h2 := isum_take_le xs (fun x hx => (HMem.out x hx).1) k
          have h3 := isum_take_le xs (fun x hx => (HMem.out x hx).1) (k + 1)
          obtain ⟨x, hxk⟩ : ∃ x, xs[k] = x := ⟨_, rfl⟩
          obtain ⟨s, hsk⟩ : ∃ s, (xs.take k).sum = s := ⟨_, rfl⟩
          rw [hxk] at c0 hx h1
          rw [hsk] at hs h1 h2 ⊢
          have H1 := Lib.hid h1
          by_cases ho : 1099511627776 < s + x
          · have he : sumE xs = 50 := by unfold sumE; rw [HNo.out]; rw [if_neg (by simp), if_pos (by omega)]
            have hv : sumV xs = 0 := by unfold sumV; rw [he]; rfl
            have HE := Lib.hid he
            have HV := Lib.hid hv
            clear hcell h1 h3 he hv hxk hsk
            go_wp2
            go_ret2
            exact ⟨by rw [HE.out, HV.out]; rfl, Below.refl _ _⟩
          · have HO : Hid ((xs.take (k + 1)).sum ≤ 1099511627776) := Lib.hid (by omega)
            clear hcell h1 h3 hxk hsk
            go_wp2_with fail
            go_roundw
            case rel => exact ⟨k + 1, hlt, by go_num, trivial, by rw [H1.out], HO.out⟩
            case measure => simp [intOf]; omega
        · have ht : xs.take k = xs := List.take_of_length_le (by omega)
          rw [ht] at hs ⊢
          have he : sumE xs = 0 := by unfold sumE; rw [HNo.out]; rw [if_neg (by simp), if_neg (by omega)]
          have hv : sumV xs = xs.sum := by unfold sumV; rw [he]; rfl
          have HE := Lib.hid he
          have HV := Lib.hid hv
          obtain ⟨s, hsk⟩ : ∃ s, xs.sum = s := ⟨_, rfl⟩
          rw [hsk] at HV
          rw [hsk]
          clear he hv hs ht hsk
          go_wp2
          go_ret2
          exact ⟨by rw [HE.out, HV.out]; rfl, Below.refl _ _⟩
end Go.Proofs.Ytochhjdjfgiaeaa
