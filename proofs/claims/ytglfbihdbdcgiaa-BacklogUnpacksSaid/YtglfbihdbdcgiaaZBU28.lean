/- Joined: The contracts of the reference's Taker. Flag: of a law's taker, of the reference's. The reference's Pack. -/
import Derived.Test.YtglfbihdbdcgiaaZBU25
import Derived.Test.YtglfbihdbdcgiaaZBU27
import Derived.Test.YtglfbihdbdcgiaaZBU26
import Derived.Test.YtglfbihdbdcgiaaZBU16
namespace Go.Proofs.Ytglfbihdbdcgiaa
open Go.RowKit

set_option maxRecDepth 100000 in
set_option maxHeartbeats 400000 in
theorem rtnum_bad (p : Nat) (D : Option Nat) (bs : List Nat) (a b : Int) (w : World) (hT : IsT w 74 p D (bs, true)) :
    Calls Try.prog 41 #[.pointer (some ⟨p, 0, none⟩), .int .i64 a, .int .i64 b] w (RetT 74 p D (.int .i64 0) (bs, true) w) := by
  have HT := Lib.hid hT
  obtain ⟨A, c, h1, _⟩ := hT
  have c1 : w.cell? ⟨p, 1, none⟩ = some (.bool true) := cell_at h1 1
  clear h1
  go_enter Try.func41, Try.ntmps41
  go_wp2
  go_ret
  exact ⟨rfl, HT.out, Fr.refl _⟩

set_option maxRecDepth 100000 in
set_option maxHeartbeats 1000000 in
theorem rtnum_none (p : Nat) (D : Option Nat) (bs : List Nat) (a b : Int) (w : World) (hT : IsT w 74 p D (bs, false)) (hp : D ≠ some p) (hf : firstN bs = none) :
    Calls Try.prog 41 #[.pointer (some ⟨p, 0, none⟩), .int .i64 a, .int .i64 b] w (RetT 74 p D (.int .i64 0) (bs, true) w) := by
  have HT := Lib.hid hT
  have HV := Lib.hid (rfstV_none hf)
  have HD := Lib.hid hp
  obtain ⟨A, c, h1, h2, h3, h4, h5, h6, h7⟩ := hT
  simp only at h1 h2 h3 h4 h5 h6 h7
  have c0 : w.cell? ⟨p, 0, none⟩ = some (.slice A bs.length c) := cell_at h1 0
  have c1 : w.cell? ⟨p, 1, none⟩ = some (.bool false) := cell_at h1 1
  have H1 := Lib.hid h1
  have H4 := Lib.hid h4
  have H6 := Lib.hid h6
  have H3 := Lib.hid h3
  have H57 := Lib.hid (And.intro h5 h7)
  clear h1 h3 h4 h5 h6 h7 hf hp
  go_enter Try.func41, Try.ntmps41
  go_wp2_with fail
  refine (rfirst_any A c bs _ H4.out H6.out h2 H3.out).mono ?_
  rintro e w1 ⟨rfl, hb1⟩
  rw [HV.out]
  have hp1 := (Fr.of_below (B := 0) (T := []) (S := []) hb1).keep0 H1.out (by simp)
  have d1 : w1.cell? ⟨p, 1, none⟩ = some (.bool false) := cell_at hp1 1
  have d2 := frozen_at hp1 1
  have HF := Lib.hid (IsT.of_set1 hp1 h2 H3.out (H4.out.below hb1) H57.out.1 HD.out H6.out H57.out.2 true)
  have HB1 := Lib.hid hb1
  clear hb1 c0 c1 hp1
  go_wp2
  go_ret
  exact ⟨rfl, HF.out.1, (Fr.of_below HB1.out).trans HF.out.2⟩

set_option maxRecDepth 100000 in
set_option maxHeartbeats 1000000 in
theorem rtnum_out (p : Nat) (D : Option Nat) (bs : List Nat) (a b n : Int) (k : Nat) (w : World) (hT : IsT w 74 p D (bs, false)) (hp : D ≠ some p) (hf : firstN bs = some (n, k)) (ho : n < a ∨ b < n) :
    Calls Try.prog 41 #[.pointer (some ⟨p, 0, none⟩), .int .i64 a, .int .i64 b] w (RetT 74 p D (.int .i64 0) (bs, true) w) := by
  have HT := Lib.hid hT
  have HV := Lib.hid (rfstV_some hf)
  have HD := Lib.hid hp
  obtain ⟨A, c, h1, h2, h3, h4, h5, h6, h7⟩ := hT
  simp only at h1 h2 h3 h4 h5 h6 h7
  have hk3 : ((k : Int) == 0) = false := by have := (firstN_some h6 hf).2.2.1; rw [beq_eq_false_iff_ne]; omega
  have c0 : w.cell? ⟨p, 0, none⟩ = some (.slice A bs.length c) := cell_at h1 0
  have c1 : w.cell? ⟨p, 1, none⟩ = some (.bool false) := cell_at h1 1
  have H1 := Lib.hid h1
  have H4 := Lib.hid h4
  have H6 := Lib.hid h6
  have H3 := Lib.hid h3
  have H57 := Lib.hid (And.intro h5 h7)
  clear h1 h3 h4 h5 h6 h7 hf hp
  by_cases hlt : n < a
  all_goals
    go_enter Try.func41, Try.ntmps41
    go_wp2_with fail
    refine (rfirst_any A c bs _ H4.out H6.out h2 H3.out).mono ?_
    rintro e w1 ⟨rfl, hb1⟩
    rw [HV.out]
    have hp1 := (Fr.of_below (B := 0) (T := []) (S := []) hb1).keep0 H1.out (by simp)
    have d1 : w1.cell? ⟨p, 1, none⟩ = some (.bool false) := cell_at hp1 1
    have d2 := frozen_at hp1 1
    have HF := Lib.hid (IsT.of_set1 hp1 h2 H3.out (H4.out.below hb1) H57.out.1 HD.out H6.out H57.out.2 true)
    have HB1 := Lib.hid hb1
    clear hb1 c0 c1 hp1
    go_wp2
    go_ret
    exact ⟨rfl, HF.out.1, (Fr.of_below HB1.out).trans HF.out.2⟩

set_option maxRecDepth 100000 in
set_option maxHeartbeats 1000000 in
theorem rtnum_in (p : Nat) (D : Option Nat) (bs : List Nat) (a b n : Int) (k : Nat) (w : World) (hT : IsT w 74 p D (bs, false)) (hp : D ≠ some p) (hf : firstN bs = some (n, k)) (ha : a ≤ n) (hnb : n ≤ b) :
    Calls Try.prog 41 #[.pointer (some ⟨p, 0, none⟩), .int .i64 a, .int .i64 b] w (RetT 74 p D (.int .i64 n) (bs.drop k, false) w) := by
  have HV := Lib.hid (rfstV_some hf)
  have HD := Lib.hid hp
  obtain ⟨A, c, h1, h2, h3, h4, h5, h6, h7⟩ := hT
  simp only at h1 h2 h3 h4 h5 h6 h7
  obtain ⟨_, _, hk1, hk2⟩ := firstN_some h6 hf
  obtain ⟨g, o, rfl, hg, _⟩ := h4.2 (by omega)
  have hk3 : ((k : Int) == 0) = false := by rw [beq_eq_false_iff_ne]; omega
  have c0 : w.cell? ⟨p, 0, none⟩ = some (.slice (some ⟨g, o, none⟩) bs.length c) := cell_at h1 0
  have c1 : w.cell? ⟨p, 1, none⟩ = some (.bool false) := cell_at h1 1
  have hm : c ≤ 9223372036854775807 := by unfold maxLen at h3; omega
  have H1 := Lib.hid h1
  have H4 := Lib.hid h4
  have H5 := Lib.hid h5
  have H6 := Lib.hid h6
  have H3 := Lib.hid h3
  have hdl : (bs.drop k).length = bs.length - k := by simp
  have HDL := Lib.hid hdl
  have hmd : (bs.drop k).map u8v = (bs.map u8v).drop (k * 1) := by simp
  have HMD := Lib.hid hmd
  have HB6 := Lib.hid (fun x hx => h6 x (List.mem_of_mem_drop (i := k) hx))
  clear h1 h3 h4 h5 h6 h7 hf hp hg hdl hmd
  by_cases hkc : c = k
  · subst hkc
    have hfull : bs.length = c := by omega
    have HFU := Lib.hid hfull
    clear hfull
    go_enter Try.func41, Try.ntmps41
    go_wp2_with fail
    refine (rfirst_any (some ⟨g, o, none⟩) c bs _ H4.out H6.out h2 H3.out).mono ?_
    rintro e w1 ⟨rfl, hb1⟩
    rw [HV.out]
    have hp1 := (Fr.of_below (B := 0) (T := []) (S := []) hb1).keep0 H1.out (by simp)
    have c0 : w1.cell? ⟨p, 0, none⟩ = some (.slice (some ⟨g, o, none⟩) bs.length c) := cell_at hp1 0
    have c1 := frozen_at hp1 0
    have HP1 := Lib.hid hp1
    have HB1 := Lib.hid hb1
    clear hb1 hp1
    go_wp2_with fail
    go_ret
    have hn : (bs.drop c).length = 0 := by rw [HDL.out]; omega
    have := IsT.of_set0 (D := D) (bs := bs.drop c) (A := some ⟨g, o, none⟩) (c := 0) HP1.out (by omega) (Nat.zero_le _) (by rw [List.eq_nil_of_length_eq_zero hn]; exact Rd.nil) (by omega) HD.out HB6.out (.inr ⟨_, _, rfl⟩)
    rw [hn] at this
    have e : bs.length - c = 0 := by omega
    try rw [e]
    exact ⟨rfl, this.1, (Fr.of_below HB1.out).trans this.2⟩
  · have hck : k < c := by omega
    clear hkc
    go_enter Try.func41, Try.ntmps41
    go_wp2_with fail
    refine (rfirst_any (some ⟨g, o, none⟩) c bs _ H4.out H6.out h2 H3.out).mono ?_
    rintro e w1 ⟨rfl, hb1⟩
    rw [HV.out]
    have hp1 := (Fr.of_below (B := 0) (T := []) (S := []) hb1).keep0 H1.out (by simp)
    have c0 : w1.cell? ⟨p, 0, none⟩ = some (.slice (some ⟨g, o, none⟩) bs.length c) := cell_at hp1 0
    have c1 := frozen_at hp1 0
    have HP1 := Lib.hid hp1
    have HB1 := Lib.hid hb1
    clear hb1 hp1
    go_wp2_with fail
    go_ret
    have hr1 := H4.out.below (HB1.out.mono (Nat.le_refl _))
    have := IsT.of_set0 (D := D) (bs := bs.drop k) (A := some ⟨g, o + k, none⟩) (c := c - k) HP1.out (by rw [HDL.out]; omega) (by have := H3.out; omega) (by rw [HMD.out, HDL.out]; exact hr1.drop hk2 (fun _ => by simp)) (fun hn a ha => by
      cases ha
      exact H5.out (by omega) ⟨g, o, none⟩ rfl) HD.out HB6.out (.inr ⟨_, _, rfl⟩)
    rw [HDL.out] at this
    exact ⟨rfl, this.1, (Fr.of_below HB1.out).trans this.2⟩

theorem rtnum_any (p : Nat) (D : Option Nat) (s : List Nat × Bool) (a b : Int) (w : World) (hT : IsT w 74 p D s) (hp : D ≠ some p) :
    Calls Try.prog 41 #[.pointer (some ⟨p, 0, none⟩), .int .i64 a, .int .i64 b] w (RetT 74 p D (.int .i64 (numT s a b).1) (numT s a b).2 w) := by
  obtain ⟨bs, bad⟩ := s
  cases bad with
  | true => rw [numT_bad rfl]; exact rtnum_bad p D bs a b w hT
  | false =>
    cases hf : firstN bs with
    | none => rw [numT_none rfl hf]; exact rtnum_none p D bs a b w hT hp hf
    | some q =>
      obtain ⟨n, k⟩ := q
      by_cases ho : n < a ∨ b < n
      · rw [numT_out rfl hf ho]; exact rtnum_out p D bs a b n k w hT hp hf ho
      · rw [numT_in rfl hf (by omega) (by omega)]; exact rtnum_in p D bs a b n k w hT hp hf (by omega) (by omega)

end Go.Proofs.Ytglfbihdbdcgiaa

namespace Go.Proofs.Ytglfbihdbdcgiaa
open Go.RowKit

theorem mk_flag {w W : World} {p : Nat} {s : List Nat × Bool} (h : Mk w p s W) (b : Bool) : Calls Try.prog 45 #[.pointer (some ⟨p, 0, none⟩), .bool b] W fun e W' => e = .returned (.pointer (some ⟨p, 0, none⟩)) ∧ Mk w p (putS s (flagB b)) W' :=
  h.ret fun G hM => mflag_any p G s b W hM
set_option maxHeartbeats 400000 in
theorem rmflag_any (q : Nat) (D : Option Nat) (s : List Nat × Bool) (b : Bool) (w : World) (hT : IsT w 83 q D s) (hD : D ≠ some q) :
    Calls Try.prog 48 #[.pointer (some ⟨q, 0, none⟩), .bool b] w (RetR q D (putS s (flagB b)) w) := by
  have HT := Lib.hid hT
  have HD := Lib.hid hD
  clear hT hD
  cases b
  all_goals
    go_enter Try.func48, Try.ntmps48
    go_wp2_with fail
    refine (rmnum_any q D s _ _ HT.out HD.out (by unfold I64; omega)).mono ?_
    intro e w2 hr
    have HR := Lib.hid hr
    obtain ⟨D', rfl, _⟩ := hr
    go_wp2
    go_end0
    exact HR.out
set_option maxHeartbeats 400000 in
theorem rtflag_any (p : Nat) (D : Option Nat) (s : List Nat × Bool) (w : World) (hT : IsT w 74 p D s) (hp : D ≠ some p) :
    Calls Try.prog 42 #[.pointer (some ⟨p, 0, none⟩)] w (RetT 74 p D (.bool (flagT s).1) (flagT s).2 w) := by
  have HT := Lib.hid hT
  have HD := Lib.hid hp
  clear hT hp
  obtain ⟨r, hr⟩ : ∃ r, numT s 0 1 = r := ⟨_, rfl⟩
  have HR := Lib.hid hr
  clear hr
  go_enter Try.func42, Try.ntmps42
  go_wp2_with fail
  refine (rtnum_any p D s 0 1 w HT.out HD.out).mono ?_
  rintro e w1 ⟨rfl, h1, hf⟩
  rw [HR.out] at h1 ⊢
  have H1 := Lib.hid h1
  have HF := Lib.hid hf
  clear h1 hf
  go_wp2
  go_ret
  refine ⟨?_, ?_, HF.out⟩
  · unfold flagT; rw [HR.out]; rfl
  · unfold flagT; rw [HR.out]; exact H1.out
theorem tk_flag {w W : World} {p : Nat} {s : List Nat × Bool} (h : Tk w p s W) : Calls Try.prog 39 #[.pointer (some ⟨p, 0, none⟩)] W fun e W' => e = .returned (.bool (flagT s).1) ∧ Tk w p (flagT s).2 W' :=
  h.ret fun D hT hD => tflag_any p D s W hT hD
end Go.Proofs.Ytglfbihdbdcgiaa

namespace Go.Proofs.Ytglfbihdbdcgiaa
open Go.RowKit

/-- The code so far. -/
def pk (rs : List (Int × Bool)) (out : Int) (k : Nat) : List Nat := numB out ++ (numB rs.length ++ rowsB (rs.take k))
theorem pk_all (rs : List (Int × Bool)) (out : Int) : pk rs out rs.length = packB rs out := by simp [pk, packB]
theorem pk_len (rs : List (Int × Bool)) (out : Int) (k : Nat) (h : rs.length ≤ 256) : (pk rs out k).length ≤ 4626 := by
  have h1 := (numB_length out).2
  have h2 := (numB_length rs.length).2
  have h3 := rowsB_len (rs.take k)
  have h4 : (rs.take k).length ≤ 256 := by rw [List.length_take]; omega
  simp only [pk, List.length_append]
  omega
theorem pk_0 (rs : List (Int × Bool)) (out : Int) : putS (putS ([], false) (numB out)) (numB rs.length) = (pk rs out 0, false) := by
  have h1 := (numB_length out).2
  have h2 := (numB_length rs.length).2
  have e1 : putS ([], false) (numB out) = (numB out, false) := by rw [putS_fits rfl (by simp; omega)]; simp
  rw [e1, putS_fits rfl (by simp only; omega)]
  simp [pk, rowsB]
theorem pk_succ (rs : List (Int × Bool)) (out : Int) (k : Nat) (hl : rs.length ≤ 256) (hk : k < rs.length) : putS (putS (pk rs out k, false) (numB rs[k].1)) (flagB rs[k].2) = (pk rs out (k + 1), false) := by
  have h1 := (numB_length rs[k].1).2
  have h2 := (numB_length (if rs[k].2 then 1 else 0)).2
  have h3 := pk_len rs out k hl
  rw [putS_fits (s := (pk rs out k, false)) rfl (by simp only; omega), putS_fits rfl (by simp only [flagB, List.length_append]; omega)]
  simp only [pk, List.take_succ_eq_append_getElem hk, rowsB_snoc, rowB, List.append_assoc]

theorem own_below' {w w' : World} {B e size n : Nat} {v : Value} {xs : List Value} (h : w.ownsRow B e size v n xs) (b : Below w.heap.size w w') : w'.ownsRow B e size v n xs := (Fr.of_below (B := 0) (T := []) (S := []) b).own h (by simp) (by simp)
/-- A reference's maker of a call's own. -/
def XM (w : World) (m : Nat) (s : List Nat × Bool) (W : World) : Prop := ∃ D, IsT W 83 m D s ∧ D ≠ some m ∧ w.heap.size ≤ m ∧ Below w.heap.size w W
theorem XM.ret {w W : World} {m : Nat} {s s' : List Nat × Bool} {f : FuncId} {args : Array Value} (h : XM w m s W) (hc : ∀ D, IsT W 83 m D s → D ≠ some m → Calls Try.prog f args W (RetR m D s' W)) :
    Calls Try.prog f args W fun e W' => e = .returned (.tuple #[]) ∧ XM w m s' W' := by
  obtain ⟨D, h1, h2, h3, h4⟩ := h
  exact (hc D h1 h2).mono fun e W' ⟨D', he, hT, hD, _, hf⟩ => ⟨he, D', hT, hD, h3, h4.trans (hf.belowT h3 h4.size)⟩
theorem xm_num {w W : World} {m : Nat} {s : List Nat × Bool} (h : XM w m s W) (n : Int) (hn : I64 n) : Calls Try.prog 47 #[.pointer (some ⟨m, 0, none⟩), .int .i64 n] W fun e W' => e = .returned (.tuple #[]) ∧ XM w m (putS s (numB n)) W' :=
  h.ret fun D hT hD => rmnum_any m D s n W hT hD hn
theorem xm_flag {w W : World} {m : Nat} {s : List Nat × Bool} (h : XM w m s W) (b : Bool) : Calls Try.prog 48 #[.pointer (some ⟨m, 0, none⟩), .bool b] W fun e W' => e = .returned (.tuple #[]) ∧ XM w m (putS s (flagB b)) W' :=
  h.ret fun D hT hD => rmflag_any m D s b W hT hD

set_option maxRecDepth 100000 in
set_option maxHeartbeats 1600000 in
theorem xpack_any (B q : Nat) (rs : List (Int × Bool)) (out : Int) (w : World) (h : IsX w B q rs out) (hg : GoodB rs out) :
    Calls Try.prog 31 #[.pointer (some ⟨q, 0, none⟩)] w fun e w' => ∃ v, e = .returned v ∧ Bs w' v (packB rs out) ∧ Below w.heap.size w w' := by
  have HX := Lib.hid h
  have ho := hg.o
  have hl := hg.good.1
  have HLow := Lib.hid hg.low
  obtain ⟨n, hn⟩ : ∃ n, rs.length = n := ⟨_, rfl⟩
  have HN := Lib.hid hn
  rw [hn] at hl
  obtain ⟨hBq, v, hp, hr⟩ := h
  obtain ⟨A, c, rfl, k1, k2, k3, k4⟩ := own_slice hr
  have HR := Lib.hid hr
  have HP := Lib.hid hp
  have HPL : Hid (q < w.heap.size) := Lib.hid (lt_of_block hp)
  have HPK := Lib.hid (fun k => pk_succ rs out k (by omega))
  have HM1 : Hid (XM w w.heap.size ([], false) (w.alloc (.cells #[.slice none 0 0, .bool false] 83))) := Lib.hid ⟨none, ⟨none, 0, block_new _ _, Nat.le_refl _, Nat.zero_le _, Rd.nil, by simp, by simp, .inl rfl⟩, by simp, Nat.le_refl _, (Below.refl _ _).alloc (Nat.le_refl _) _⟩
  simp only [hn] at HP HR k1
  clear hg hn hp hr k2 k3 k4 hBq
  go_enter Try.func31, Try.ntmps31
  obtain ⟨w1, hw1⟩ : ∃ w1, w.alloc (.cells #[.slice none 0 0, .bool false] 83) = w1 := ⟨_, rfl⟩
  rw [hw1] at HM1
  obtain ⟨m, hm⟩ : ∃ m, w.heap.size = m := ⟨_, rfl⟩
  have HW1 := Lib.hid hw1
  have HM := Lib.hid hm
  have x1 : (w.alloc (.cells #[.slice none 0 0, .bool false] 83)).cell? ⟨q, 1, none⟩ = some (.int .i64 out) := cell_at (block_alloc HP.out _) 1
  clear hw1
  rw [hm] at HM1
  clear hm
  go_wp2_with fail
  rw [HW1.out, HM.out]
  refine (xm_num HM1.out out ⟨by omega, ho.2⟩).mono ?_
  rintro e w2 ⟨rfl, h2⟩
  have hb2 : Below w.heap.size w w2 := by obtain ⟨_, _, _, _, hb⟩ := h2; exact hb
  have x2 : w2.cell? ⟨q, 0, none⟩ = some (.slice A n c) := by
    have := (hb2.block q HPL.out).trans HP.out
    exact cell_at this 0
  have H2 := Lib.hid h2
  clear h2 hb2 x1
  go_wp2_with fail
  refine (xm_num H2.out n ⟨by omega, by omega⟩).mono ?_
  rintro e w3 ⟨rfl, h3⟩
  rw [← HN.out, pk_0] at h3
  have H3 := Lib.hid h3
  clear h3 x2
  go_wp2_with fail
  go_loopw [4] (fun iv wr => ∃ k : Nat, k ≤ n ∧ iv = .int .i64 k ∧ XM w m (pk rs out k, false) wr) (fun iv _ => n - (intOf iv).toNat)
  case atStart => exact ⟨0, Nat.zero_le _, rfl, H3.out⟩
  case round =>
    obtain ⟨k, hk, rfl, hx⟩ := hrel
    have hbr : Below w.heap.size w wr := by obtain ⟨_, _, _, _, hb⟩ := hx; exact hb
    have hq := (hbr.block q HPL.out).trans HP.out
    have x4 : wr.cell? ⟨q, 0, none⟩ = some (.slice A n c) := cell_at hq 0
    have H4 := Lib.hid hx
    have HBR := Lib.hid hbr
    clear hx hbr hq H3
    by_cases hlt : k < n
    · have hr := own_below' HR.out HBR.out
      obtain ⟨g, c', e⟩ := own_pos hr (by omega)
      injection e with e1 _ e3
      subst e1; subst e3
      obtain ⟨r0, r1⟩ := xrow_cells hr (k := k) (by rw [HN.out]; exact hlt)
      have hkr : k < rs.length := by rw [HN.out]; exact hlt
      have HS := Lib.hid (HPK.out k hkr)
      have HLo := Lib.hid (HLow.out rs[k] (List.getElem_mem hkr))
      obtain ⟨x, hx⟩ : ∃ x, rs[k] = x := ⟨_, rfl⟩
      rw [hx] at r0 r1 HS HLo
      obtain ⟨g0, hg0⟩ : ∃ g0 : Nat, g0 = g := ⟨_, rfl⟩
      have HG : Hid (∀ W, Below w.heap.size w W → W.cell? ⟨g, k * 2 + 1, none⟩ = some (.bool x.2)) := Lib.hid (fun W hW => by
        have := (xrow_cells (own_below' HR.out hW) (k := k) hkr).2
        rw [hx] at this
        exact this)
      clear hr hkr hx hg0
      go_wp2_with fail
      refine (xm_num H4.out x.1 ⟨by have := HLo.out; omega, HLo.out.2⟩).mono ?_
      rintro e w5 ⟨rfl, h5⟩
      have hb5 : Below w.heap.size w w5 := by obtain ⟨_, _, _, _, hb⟩ := h5; exact hb
      have x5 : w5.cell? ⟨q, 0, none⟩ = some (.slice (some ⟨g, 0, none⟩) n c) := cell_at ((hb5.block q HPL.out).trans HP.out) 0
      have y5 := HG.out w5 hb5
      have H5 := Lib.hid h5
      clear h5 hb5 x4 r0 r1
      go_wp2_with fail
      refine (xm_flag H5.out x.2).mono ?_
      rintro e w6 ⟨rfl, h6⟩
      rw [HS.out] at h6
      have H6 := Lib.hid h6
      clear h6
      go_wp2_with fail
      go_roundw
      case rel => exact ⟨k + 1, hlt, by go_num, H6.out⟩
      case measure => simp [intOf]; omega
    · obtain rfl : k = n := by omega
      have h4 := H4.out
      rw [← HN.out, pk_all] at h4
      obtain ⟨D, ⟨A4, c4, j1, j2, j3, j4, _⟩, _⟩ := h4
      have x5 := cell_at j1 0
      have HJ : Hid (Bs wr (.slice A4 (packB rs out).length c4) (packB rs out)) := Lib.hid ⟨A4, c4, rfl, j2, j3, j4⟩
      simp only at x5
      obtain ⟨z, hz⟩ : ∃ z, (packB rs out).length = z := ⟨_, rfl⟩
      rw [hz] at x5 HJ
      clear j1 j2 j3 j4 hz
      go_wp2
      go_ret
      exact ⟨_, rfl, HJ.out, HBR.out⟩
end Go.Proofs.Ytglfbihdbdcgiaa
