/- Joined: The reference's Pack. Unpacking: a taker and the backlog that is made of what it takes. How arguments that came in are opened: slices of whatever elements, element by element; numbers; texts; their sizes. -/
import Derived.Test.YtglfbihdbdcgiaaZBP15
import Derived.Test.YtglfbihdbdcgiaaZBP24
import Derived.Test.YtglfbihdbdcgiaaZBP25
import Derived.Test.YtglfbihdbdcgiaaZBP12
import Derived.SizedLaws
namespace Go.Proofs.Ytglfbihdbdcgiaa
open Go.RowKit

/-- The code so far. -/
def pk (rs : List (Int × Bool)) (out : Int) (k : Nat) : List Nat := numB out ++ (numB rs.length ++ rowsB (rs.take k))
theorem pk_all (rs : List (Int × Bool)) (out : Int) : pk rs out rs.length = packB rs out := by simp [pk, packB]
theorem pk_len (rs : List (Int × Bool)) (out : Int) (k : Nat) (h : rs.length ≤ 256) : (pk rs out k).length ≤ 4626 := by
  have h1 := (numB_length out).2
  have h2 := (numB_length rs.length).2
  have h3 := rowsB_len (rs.take k)
  have h4 : (rs.take k).length ≤ 256 := by rw [List.length_take]; omega
  simp only [pk, List.length_append]
  omega
theorem pk_0 (rs : List (Int × Bool)) (out : Int) : putS (putS ([], false) (numB out)) (numB rs.length) = (pk rs out 0, false) := by
  have h1 := (numB_length out).2
  have h2 := (numB_length rs.length).2
  have e1 : putS ([], false) (numB out) = (numB out, false) := by rw [putS_fits rfl (by simp; omega)]; simp
  rw [e1, putS_fits rfl (by simp only; omega)]
  simp [pk, rowsB]
theorem pk_succ (rs : List (Int × Bool)) (out : Int) (k : Nat) (hl : rs.length ≤ 256) (hk : k < rs.length) : putS (putS (pk rs out k, false) (numB rs[k].1)) (flagB rs[k].2) = (pk rs out (k + 1), false) := by
  have h1 := (numB_length rs[k].1).2
  have h2 := (numB_length (if rs[k].2 then 1 else 0)).2
  have h3 := pk_len rs out k hl
  rw [putS_fits (s := (pk rs out k, false)) rfl (by simp only; omega), putS_fits rfl (by simp only [flagB, List.length_append]; omega)]
  simp only [pk, List.take_succ_eq_append_getElem hk, rowsB_snoc, rowB, List.append_assoc]

theorem own_below' {w w' : World} {B e size n : Nat} {v : Value} {xs : List Value} (h : w.ownsRow B e size v n xs) (b : Below w.heap.size w w') : w'.ownsRow B e size v n xs := (Fr.of_below (B := 0) (T := []) (S := []) b).own h (by simp) (by simp)
/-- A reference's maker of a call's own. -/
def XM (w : World) (m : Nat) (s : List Nat × Bool) (W : World) : Prop := ∃ D, IsT W 83 m D s ∧ D ≠ some m ∧ w.heap.size ≤ m ∧ Below w.heap.size w W
theorem XM.ret {w W : World} {m : Nat} {s s' : List Nat × Bool} {f : FuncId} {args : Array Value} (h : XM w m s W) (hc : ∀ D, IsT W 83 m D s → D ≠ some m → Calls Try.prog f args W (RetR m D s' W)) :
    Calls Try.prog f args W fun e W' => e = .returned (.tuple #[]) ∧ XM w m s' W' := by
  obtain ⟨D, h1, h2, h3, h4⟩ := h
  exact (hc D h1 h2).mono fun e W' ⟨D', he, hT, hD, _, hf⟩ => ⟨he, D', hT, hD, h3, h4.trans (hf.belowT h3 h4.size)⟩
theorem xm_num {w W : World} {m : Nat} {s : List Nat × Bool} (h : XM w m s W) (n : Int) (hn : I64 n) : Calls Try.prog 47 #[.pointer (some ⟨m, 0, none⟩), .int .i64 n] W fun e W' => e = .returned (.tuple #[]) ∧ XM w m (putS s (numB n)) W' :=
  h.ret fun D hT hD => rmnum_any m D s n W hT hD hn
theorem xm_flag {w W : World} {m : Nat} {s : List Nat × Bool} (h : XM w m s W) (b : Bool) : Calls Try.prog 48 #[.pointer (some ⟨m, 0, none⟩), .bool b] W fun e W' => e = .returned (.tuple #[]) ∧ XM w m (putS s (flagB b)) W' :=
  h.ret fun D hT hD => rmflag_any m D s b W hT hD

set_option maxRecDepth 100000 in
set_option maxHeartbeats 1600000 in
theorem xpack_any (B q : Nat) (rs : List (Int × Bool)) (out : Int) (w : World) (h : IsX w B q rs out) (hg : GoodB rs out) :
    Calls Try.prog 31 #[.pointer (some ⟨q, 0, none⟩)] w fun e w' => ∃ v, e = .returned v ∧ Bs w' v (packB rs out) ∧ Below w.heap.size w w' := by
  have HX := Lib.hid h
  have ho := hg.o
  have hl := hg.good.1
  have HLow := Lib.hid hg.low
  obtain ⟨n, hn⟩ : ∃ n, rs.length = n := ⟨_, rfl⟩
  have HN := Lib.hid hn
  rw [hn] at hl
  obtain ⟨hBq, v, hp, hr⟩ := h
  obtain ⟨A, c, rfl, k1, k2, k3, k4⟩ := own_slice hr
  have HR := Lib.hid hr
  have HP := Lib.hid hp
  have HPL : Hid (q < w.heap.size) := Lib.hid (lt_of_block hp)
  have HPK := Lib.hid (fun k => pk_succ rs out k (by omega))
  have HM1 : Hid (XM w w.heap.size ([], false) (w.alloc (.cells #[.slice none 0 0, .bool false] 83))) := Lib.hid ⟨none, ⟨none, 0, block_new _ _, Nat.le_refl _, Nat.zero_le _, Rd.nil, by simp, by simp, .inl rfl⟩, by simp, Nat.le_refl _, (Below.refl _ _).alloc (Nat.le_refl _) _⟩
  simp only [hn] at HP HR k1
  clear hg hn hp hr k2 k3 k4 hBq
  go_enter Try.func31, Try.ntmps31
  obtain ⟨w1, hw1⟩ : ∃ w1, w.alloc (.cells #[.slice none 0 0, .bool false] 83) = w1 := ⟨_, rfl⟩
  rw [hw1] at HM1
  obtain ⟨m, hm⟩ : ∃ m, w.heap.size = m := ⟨_, rfl⟩
  have HW1 := Lib.hid hw1
  have HM := Lib.hid hm
  have x1 : (w.alloc (.cells #[.slice none 0 0, .bool false] 83)).cell? ⟨q, 1, none⟩ = some (.int .i64 out) := cell_at (block_alloc HP.out _) 1
  clear hw1
  rw [hm] at HM1
  clear hm
  go_wp2_with fail
  rw [HW1.out, HM.out]
  refine (xm_num HM1.out out ⟨by omega, ho.2⟩).mono ?_
  rintro e w2 ⟨rfl, h2⟩
  have hb2 : Below w.heap.size w w2 := by obtain ⟨_, _, _, _, hb⟩ := h2; exact hb
  have x2 : w2.cell? ⟨q, 0, none⟩ = some (.slice A n c) := by
    have := (hb2.block q HPL.out).trans HP.out
    exact cell_at this 0
  have H2 := Lib.hid h2
  clear h2 hb2 x1
  go_wp2_with fail
  refine (xm_num H2.out n ⟨by omega, by omega⟩).mono ?_
  rintro e w3 ⟨rfl, h3⟩
  rw [← HN.out, pk_0] at h3
  have H3 := Lib.hid h3
  clear h3 x2
  go_wp2_with fail
  go_loopw [4] (fun iv wr => ∃ k : Nat, k ≤ n ∧ iv = .int .i64 k ∧ XM w m (pk rs out k, false) wr) (fun iv _ => n - (intOf iv).toNat)
  case atStart => exact ⟨0, Nat.zero_le _, rfl, H3.out⟩
  case round =>
    obtain ⟨k, hk, rfl, hx⟩ := hrel
    have hbr : Below w.heap.size w wr := by obtain ⟨_, _, _, _, hb⟩ := hx; exact hb
    have hq := (hbr.block q HPL.out).trans HP.out
    have x4 : wr.cell? ⟨q, 0, none⟩ = some (.slice A n c) := cell_at hq 0
    have H4 := Lib.hid hx
    have HBR := Lib.hid hbr
    clear hx hbr hq H3
    by_cases hlt : k < n
    · have hr := own_below' HR.out HBR.out
      obtain ⟨g, c', e⟩ := own_pos hr (by omega)
      injection e with e1 _ e3
      subst e1; subst e3
      obtain ⟨r0, r1⟩ := xrow_cells hr (k := k) (by rw [HN.out]; exact hlt)
      have hkr : k < rs.length := by rw [HN.out]; exact hlt
      have HS := Lib.hid (HPK.out k hkr)
      have HLo := Lib.hid (HLow.out rs[k] (List.getElem_mem hkr))
      obtain ⟨x, hx⟩ : ∃ x, rs[k] = x := ⟨_, rfl⟩
      rw [hx] at r0 r1 HS HLo
      obtain ⟨g0, hg0⟩ : ∃ g0 : Nat, g0 = g := ⟨_, rfl⟩
      have HG : Hid (∀ W, Below w.heap.size w W → W.cell? ⟨g, k * 2 + 1, none⟩ = some (.bool x.2)) := Lib.hid (fun W hW => by
        have := (xrow_cells (own_below' HR.out hW) (k := k) hkr).2
        rw [hx] at this
        exact this)
      clear hr hkr hx hg0
      go_wp2_with fail
      refine (xm_num H4.out x.1 ⟨by have := HLo.out; omega, HLo.out.2⟩).mono ?_
      rintro e w5 ⟨rfl, h5⟩
      have hb5 : Below w.heap.size w w5 := by obtain ⟨_, _, _, _, hb⟩ := h5; exact hb
      have x5 : w5.cell? ⟨q, 0, none⟩ = some (.slice (some ⟨g, 0, none⟩) n c) := cell_at ((hb5.block q HPL.out).trans HP.out) 0
      have y5 := HG.out w5 hb5
      have H5 := Lib.hid h5
      clear h5 hb5 x4 r0 r1
      go_wp2_with fail
      refine (xm_flag H5.out x.2).mono ?_
      rintro e w6 ⟨rfl, h6⟩
      rw [HS.out] at h6
      have H6 := Lib.hid h6
      clear h6
      go_wp2_with fail
      go_roundw
      case rel => exact ⟨k + 1, hlt, by go_num, H6.out⟩
      case measure => simp [intOf]; omega
    · obtain rfl : k = n := by omega
      have h4 := H4.out
      rw [← HN.out, pk_all] at h4
      obtain ⟨D, ⟨A4, c4, j1, j2, j3, j4, _⟩, _⟩ := h4
      have x5 := cell_at j1 0
      have HJ : Hid (Bs wr (.slice A4 (packB rs out).length c4) (packB rs out)) := Lib.hid ⟨A4, c4, rfl, j2, j3, j4⟩
      simp only at x5
      obtain ⟨z, hz⟩ : ∃ z, (packB rs out).length = z := ⟨_, rfl⟩
      rw [hz] at x5 HJ
      clear j1 j2 j3 j4 hz
      go_wp2
      go_ret
      exact ⟨_, rfl, HJ.out, HBR.out⟩
end Go.Proofs.Ytglfbihdbdcgiaa

namespace Go.Proofs.Ytglfbihdbdcgiaa
open Go.RowKit

/-- Where the backlog at pb is made out of a taker at pt. -/
structure UB (w : World) (TT TB TR : TypeId) (pt pb : Nat) (D : Option Nat) (s : List Nat × Bool) (v : Value) (rs : List (Int × Bool)) (out : Int) (W : World) : Prop where
  t : IsT W TT pt D s
  lt : pt < pb
  d : ∀ d, D = some d → d < pb ∧ d ≠ pt
  low : w.heap.size ≤ pt
  b : W.heap[pb]? = some (.cells #[v, .int .i64 out] TB (0, 0))
  r : W.ownsRow pb TR 2 v rs.length (flat rs)
  bel : Below w.heap.size w W
section
variable {w W W' : World} {TT TB TR : TypeId} {pt pb : Nat} {D : Option Nat} {s s' : List Nat × Bool} {v v' : Value} {rs rs' : List (Int × Bool)} {out : Int}
theorem UB.dp (h : UB w TT TB TR pt pb D s v rs out W) : D ≠ some pt := fun e => (h.d _ e).2 rfl
theorem UB.turn (h : UB w TT TB TR pt pb D s v rs out W) {val : Value} {e : Ending} (hr : RetT TT pt D val s' W e W') : e = .returned val ∧ UB w TT TB TR pt pb D s' v rs out W' := by
  obtain ⟨he, hT, hf⟩ := hr
  have hlt := h.lt
  refine ⟨he, hT, hlt, h.d, h.low, hf.keep0 h.b (by simp; omega), hf.own h.r (by simp) (fun k hk => ?_), h.bel.trans (hf.belowT h.low h.bel.size)⟩
  have := (own_block h.r hk).1
  simp
  omega
theorem UB.below (h : UB w TT TB TR pt pb D s v rs out W) (b : Below W.heap.size W W') : UB w TT TB TR pt pb D s v rs out W' :=
  ⟨h.t.below b, h.lt, h.d, h.low, (b.block _ (lt_of_block h.b)).trans h.b, own_below' h.r b, h.bel.trans (b.mono h.bel.size)⟩
theorem UB.set (h : UB w TT TB TR pt pb D s v rs out W) {px : Nat} (hp : pb < px) (hg : ∀ g, v.ownBlock = some g → g ≠ px) (i : Nat) (u : Value) : UB w TT TB TR pt pb D s v rs out (W.setCell ⟨px, i, none⟩ u) := by
  have hlt := h.lt
  have f : Fr 0 [] [px] W (W.setCell ⟨px, i, none⟩ u) := (Fr.refl W).setCell (p := ⟨px, i, none⟩) _ (Nat.zero_le _) (.inl (by simp))
  refine ⟨h.t.keep f (by simp; omega) (fun d hd => by have := (h.d d hd).1; simp; omega), hlt, h.d, h.low, f.keep0 h.b (by simp; omega), f.own h.r (by simp) (fun k hk => by simpa using hg k hk), h.bel.trans (f.belowT (by have := h.low; omega) h.bel.size)⟩
theorem UB.own_lt (h : UB w TT TB TR pt pb D s v rs out W) : ∀ g, v.ownBlock = some g → g < W.heap.size := fun g hg => by
  obtain ⟨_, cs, hc⟩ := own_block h.r hg
  exact lt_of_block hc
theorem IsT.low {B p : Nat} {T : TypeId} (h : IsT W T p D s) (b : Below B W W') (hp : p < B) (hD : ∀ d, D = some d → d < B) : IsT W' T p D s := by
  obtain ⟨A, c, h1, h2, h3, h4, h5, h6, h7⟩ := h
  refine ⟨A, c, (b.block _ hp).trans h1, h2, h3, ⟨h4.1, fun hn => ?_⟩, h5, h6, h7⟩
  obtain ⟨g, o, e, hg, hc⟩ := h4.2 hn
  have hgB := hD _ (h5 hn _ e)
  exact ⟨g, o, e, Nat.lt_of_lt_of_le hg b.size, fun j u hu => (World.cell?_of_block (a := ⟨g, o + j, none⟩) (b.block g hgB)).trans (hc j u hu)⟩
/-- Where one more has been appended, and not been stored. -/
structure UA (w : World) (TT TB TR : TypeId) (pt pb : Nat) (D : Option Nat) (s : List Nat × Bool) (v v' : Value) (rs : List (Int × Bool)) (out : Int) (W : World) : Prop where
  t : IsT W TT pt D s
  lt : pt < pb
  d : ∀ d, D = some d → d < pb ∧ d ≠ pt
  low : w.heap.size ≤ pt
  b : W.heap[pb]? = some (.cells #[v, .int .i64 out] TB (0, 0))
  r : W.ownsRow pb TR 2 v' rs.length (flat rs)
  ne : ∀ g, v'.ownBlock = some g → g ≠ pb
  bel : Below w.heap.size w W
theorem UB.fr (h : UB w TT TB TR pt pb D s v rs out W) (hg : W.grownBy W' v.ownBlock) (B : Nat) (hB : B ≤ pb) : Fr B [TR] [] W W' := (Fr.refl W).grown hg fun k hk => by
  obtain ⟨hb, cs, hc⟩ := own_block h.r hk
  exact ⟨by omega, .inr ⟨cs, _, _, hc, by simp⟩⟩
theorem UB.app (h : UB w TT TB TR pt pb D s v rs out W) (hne : TB ≠ TR) {o : Int} {f : Bool} (ho : W'.ownsRow pb TR 2 v' (rs.length + 1) (flat rs ++ [.int .i64 o, .bool f])) (hg : W.grownBy W' v.ownBlock) :
    UA w TT TB TR pt pb D s v v' (rs ++ [(o, f)]) out W' := by
  have hlt := h.lt
  have hpb := lt_of_block h.b
  have f1 := h.fr hg pb (Nat.le_refl _)
  have b1 : Below pb W W' := f1.below (by omega)
  have hb := f1.keep h.b (by simpa using hne) (by simp)
  refine ⟨h.t.low b1 hlt (fun d hd => (h.d d hd).1), hlt, h.d, h.low, hb, by rw [flat_append, List.length_append]; exact ho, fun g hg' => ?_, h.bel.trans (b1.mono (by have := h.low; omega))⟩
  obtain ⟨_, cs, hc⟩ := own_block ho hg'
  rintro rfl
  rw [hb] at hc
  injection hc with hc
  injection hc with _ hc
  exact hne hc
theorem UA.store (h : UA w TT TB TR pt pb D s v v' rs out W) : UB w TT TB TR pt pb D s v' rs out (W.setCell ⟨pb, 0, none⟩ v') := by
  have hlt := h.lt
  have f : Fr 0 [] [pb] W (W.setCell ⟨pb, 0, none⟩ v') := (Fr.refl W).setCell (p := ⟨pb, 0, none⟩) _ (Nat.zero_le _) (.inl (by simp))
  refine ⟨h.t.keep f (by simp; omega) (fun d hd => by have := (h.d d hd).1; simp; omega), hlt, h.d, h.low, by rw [block_set h.b]; rfl, f.own h.r (by simp) (fun k hk => by simpa using h.ne k hk), h.bel.trans (f.belowT (by have := h.low; omega) h.bel.size)⟩
end
end Go.Proofs.Ytglfbihdbdcgiaa

namespace Go.Proofs.Ytglfbihdbdcgiaa
open Go.ChangeShapes Go.WideShapes Go.ChangeAt Go.RowKit Go.Deep

theorem add_none (g o j : Nat) : (⟨g, o, none⟩ : Addr).add j = ⟨g, o + j, none⟩ := by unfold Addr.add; split <;> simp_all
theorem flatMap_at' {α : Type} (enc : α → List Value) (size : Nat) (h : ∀ x, (enc x).length = size) (zs : List α) (i j : Nat) (hi : i < zs.length) (hj : j < size) : (zs.flatMap enc)[i * size + j]? = (enc zs[i])[j]? := by
  induction zs generalizing i with
  | nil => simp at hi
  | cons z zs ih =>
    cases i with
    | zero =>
      rw [List.flatMap_cons, List.getElem?_append_left (by rw [h]; omega)]
      simp
    | succ i =>
      rw [List.flatMap_cons, List.getElem?_append_right (by rw [h, Nat.succ_mul]; omega), h, show (i + 1) * size + j - size = i * size + j from by rw [Nat.succ_mul]; omega, ih i (by simpa using hi)]
      simp
theorem flatMap_len' {α : Type} (enc : α → List Value) (size : Nat) (h : ∀ x, (enc x).length = size) (zs : List α) : (zs.flatMap enc).length = zs.length * size := by
  induction zs with
  | nil => simp
  | cons z zs ih => rw [List.flatMap_cons, List.length_append, h, ih, List.length_cons, Nat.succ_mul]; omega

section
variable {H : Type} {enc : TypeId × Value → H} {P : Program} {w : World} {base : Nat} {held : Bool}
theorem choose_list {α : Type} (p : Nat → α → Prop) : ∀ n, (∀ i, i < n → ∃ z, p i z) → ∃ zs : List α, zs.length = n ∧ ∀ i (h : i < zs.length), p i zs[i]
  | 0, _ => ⟨[], rfl, fun i h => absurd h (by simp)⟩
  | n + 1, h => by
    obtain ⟨zs, hl, hz⟩ := choose_list p n (fun i hi => h i (by omega))
    obtain ⟨z, hp⟩ := h n (by omega)
    refine ⟨zs ++ [z], by simp [hl], fun i hi => ?_⟩
    by_cases hin : i < zs.length
    · rw [List.getElem_append_left hin]; exact hz i hin
    · have : i = n := by simp at hi; omega
      subst this
      rw [List.getElem_append_right (by omega)]
      simpa [hl] using hp
/-- A slice, opened: 'hel' opens an element. -/
theorem open_list {α : Type} {t e : TypeId} {size fuel : Nat} {cs : List Value} {x : DataW H × List MemPlace} (ht : P.underlying t = some (.slice e)) (hC : P.cellsOf e = size) (hs : 0 < size) (encE : α → List Value) (Good : α → Prop) (hlen : ∀ z, (encE z).length = size)
    (hel : ∀ n cs x, DataW.trod enc P w base (fun _ => true) held n e cs = some x → (∀ m ∈ x.1.weights P e, m ≤ reachBytes) → ∃ z, cs = encE z ∧ Good z)
    (h : DataW.trod enc P w base (fun _ => true) held fuel t cs = some x) (hw : ∀ m ∈ x.1.weights P t, m ≤ reachBytes) :
    ∃ (A : Option Addr) (c : Nat) (zs : List α), cs = [.slice A zs.length c] ∧ zs.length ≤ c ∧ c * P.bytesOf e ≤ reachBytes ∧ c ≤ maxLen ∧ SlA A c ∧ Rd w size A zs.length (zs.flatMap encE) ∧ ∀ z ∈ zs, Good z := by
  rcases open_slice ht h with ⟨hcs, hx⟩ | ⟨a, len, cap, m, n, D, Pl, hcs, hb, hl, hm, hmm, hx, hi⟩
  · exact ⟨none, 0, [], hcs, Nat.le_refl _, by simp, Nat.zero_le _, .inl rfl, Rd.nil, by simp⟩
  · have hmc : m = cap := by simpa using hmm
    subst hmc
    subst hx
    have hwe : ∀ q, q ∈ DataW.weightsAll P e ((List.range len).map D) → q ≤ reachBytes := fun q hq => hw q (by simp [DataW.weights, ht, hq])
    have hall : ∀ (l : List (DataW H)) (d : DataW H), d ∈ l → ∀ q ∈ d.weights P e, q ∈ DataW.weightsAll P e l := by
      intro l
      induction l with
      | nil => intro d hd; simp at hd
      | cons d' l ih =>
        intro d hd q hq
        rw [DataW.weightsAll]
        rcases List.mem_cons.1 hd with e | e
        · subst e; exact List.mem_append_left _ hq
        · exact List.mem_append_right _ (ih d e q hq)
    rw [hC] at hi
    have hcell : ∀ i, i < m → ∃ cs', w.cells? base (a.add (i * size)) size = some cs' ∧ DataW.trod enc P w base (fun _ => true) held n e cs' = some (D i, Pl i) := hi
    obtain ⟨zs, hzl, hz⟩ := choose_list (fun i (z : α) => w.cells? base (a.add (i * size)) size = some (encE z) ∧ Good z) len (fun i hil => by
      obtain ⟨cs', h1, h2⟩ := hcell i (by omega)
      obtain ⟨z, rfl, hg⟩ := hel n cs' _ h2 (fun q hq => hwe q (hall _ (D i) (List.mem_map.2 ⟨i, by simpa using hil, rfl⟩) q hq))
      exact ⟨z, h1, hg⟩)
    have hspot : 0 < m → ∃ g o, a = ⟨g, o, none⟩ ∧ g < w.heap.size := fun h0 => by
      obtain ⟨cs', h1, _⟩ := hcell 0 h0
      obtain ⟨_, hcl, hat⟩ := World.cells?_some h1
      have h2 := hat 0 hs
      obtain ⟨g, o, s⟩ := a
      have hc0 : cs'[0]? = some (cs'[0]'(by omega)) := List.getElem?_eq_getElem (by omega)
      rw [hc0] at h2
      have e0 : (⟨g, o, s⟩ : Addr).add (0 * size) = ⟨g, o, s⟩ := by cases s <;> simp [Addr.add]
      rw [e0] at h2
      have e1 : (⟨g, o, s⟩ : Addr).add 0 = ⟨g, o, s⟩ := by cases s <;> simp [Addr.add]
      rw [e1] at h2
      have hsp : s = none := by simpa using World.cell?_spot h2
      subst hsp
      exact ⟨g, o, rfl, by simpa using World.block_lt_of_cell? w _ h2⟩
    subst hzl
    refine ⟨some a, m, zs, hcs, hl, ?_, hm, ?_, ⟨flatMap_len' encE size hlen zs, fun h0 => ?_⟩, fun z hzm => ?_⟩
    · have e0 : zs.length + (m - zs.length) = m := by omega
      exact hw (m * P.bytesOf e) (by simp [DataW.weights, ht, e0])
    · by_cases h0 : m = 0
      · exact .inl h0
      · obtain ⟨g, o, rfl, _⟩ := hspot (by omega)
        exact .inr ⟨g, o, rfl⟩
    · obtain ⟨g, o, rfl, hg⟩ := hspot (by omega)
      refine ⟨g, o, rfl, hg, fun j u hu => ?_⟩
      have hj : j < zs.length * size := by
        have := (List.getElem?_eq_some_iff.1 hu).1
        rwa [flatMap_len' encE size hlen] at this
      have hji : j / size < zs.length := by rw [Nat.div_lt_iff_lt_mul hs]; exact hj
      obtain ⟨h1, _⟩ := hz (j / size) hji
      obtain ⟨_, hcl, hat⟩ := World.cells?_some h1
      have h2 := hat (j % size) (Nat.mod_lt _ hs)
      have e1 : j / size * size + j % size = j := by rw [Nat.mul_comm]; exact Nat.div_add_mod j size
      have h3 := flatMap_at' encE size hlen zs (j / size) (j % size) hji (Nat.mod_lt _ hs)
      rw [e1, hu] at h3
      rw [← h3, add_add, e1] at h2
      rwa [add_none] at h2
    · obtain ⟨i, hil, rfl⟩ := List.getElem_of_mem hzm
      exact (hz i hil).2

theorem trod_str {t : TypeId} {fuel : Nat} {cs : List Value} {x : DataW H × List MemPlace} (ht : P.underlying t = some .string) (h : DataW.trod enc P w base (fun _ => true) held fuel t cs = some x) (hw : ∀ m ∈ x.1.weights P t, m ≤ reachBytes) :
    ∃ s : ByteArray, cs = [.string s] ∧ s.size ≤ 140737488351232 := by
  obtain ⟨s, h1, h2, _⟩ := DataW.trod_string ht h
  refine ⟨s, h1, ?_⟩
  have := hw s.data.toList.length (by rw [h2]; simp [DataW.weights])
  unfold reachBytes at this
  have e : s.data.toList.length = s.size := by simp
  omega
theorem trod_i64 {t : TypeId} {fuel : Nat} {cs : List Value} {x : DataW H × List MemPlace} (ht : P.underlying t = some (.int .i64)) (h : DataW.trod enc P w base (fun _ => true) held fuel t cs = some x) : ∃ n : Int, cs = [.int .i64 n] ∧ -9223372036854775808 ≤ n ∧ n ≤ 9223372036854775807 := by
  obtain ⟨n, h1, _, h2⟩ := DataW.trod_int ht h
  exact ⟨n, h1, bounds_i64 h2⟩
theorem open_i64 {t : TypeId} {v : Value} {b0 : Nat} {d : DataW H} {p : List MemPlace} (ht : P.underlying t = some (.int .i64))
    (hv : Value.okWide P w .any b0 t v) (h : DataW.Trod enc P w base (fun _ => true) held t v d p) : ∃ n : Int, v = .int .i64 n ∧ -9223372036854775808 ≤ n ∧ n ≤ 9223372036854775807 := by
  obtain ⟨fuel, hf⟩ := h
  obtain ⟨n, h1, h2⟩ := trod_i64 ht hf
  refine ⟨n, ?_, h2⟩
  obtain ⟨m, rfl⟩ := okWide_int ht hv
  simpa [Value.cells] using h1
/-- The weights of one argument. -/
theorem weights_at {ts : List TypeId} {ds : List (DataW H)} (h : (DataW.weightsEach P ts ds).all (· ≤ reachBytes) = true) {j : Nat} {t : TypeId} {d : DataW H} (ht : ts[j]? = some t) (hd : ds[j]? = some d) : ∀ m ∈ d.weights P t, m ≤ reachBytes := by
  intro m hm
  have := List.all_eq_true.1 h m (DataW.weights_mem_each ht hd m hm)
  simpa using this
end
end Go.Proofs.Ytglfbihdbdcgiaa
