/- ask.Decode. -/
import Derived.Test.YtpccbobomppdbaaZR18
import Derived.Test.YtpccbobomppdbaaZR7
namespace Go.Proofs.Ytpccbobomppdbaa
open Go.RowKit

theorem Try.infoItemA : (Try.prog.info? 46).map (fun i => (i.zero, i.size, i.bytes)) = some (some (.agg #[.string ByteArray.empty, .int .i64 0]), 2, 24) := by kernel_rfl
theorem rd_oneA {W : World} {g : Nat} {gd : ByteArray} {k : Int} (h : W.heap[g]? = some (.cells #[.string gd, .int .i64 k] 46 (0, 0))) : Rd W 2 (some ⟨g, 0, none⟩) 1 (encI ⟨gd, k⟩) :=
  ⟨rfl, fun _ => ⟨_, _, rfl, lt_of_block h, fun j u hu => by
    match j, hu with
    | 0, hu => simp [encI] at hu; subst hu; rw [cell_at h]; rfl
    | 1, hu => simp [encI] at hu; subst hu; rw [cell_at h]; rfl
    | j + 2, hu => simp [encI] at hu⟩⟩
theorem itR_snoc (lo hi : Int) : ∀ (k : Nat) (l : List It) (s : St), itR lo hi (k + 1) l s = ((itR lo hi k l s).1 ++ [⟨strOf (textT (itR lo hi k l s).2 16).1, (numT (textT (itR lo hi k l s).2 16).2 lo hi).1⟩], (numT (textT (itR lo hi k l s).2 16).2 lo hi).2)
  | 0, _, _ => rfl
  | k + 1, l, s => by
    have ih := itR_snoc lo hi k (l ++ [⟨strOf (textT s 16).1, (numT (textT s 16).2 lo hi).1⟩]) (numT (textT s 16).2 lo hi).2
    rw [itR, ih]
    rfl
theorem textT_16 {s : St} : (textT s 16).1.length ≤ 16 := by
  have h := numT_range s 0 16
  unfold textT
  generalize numT s 0 16 = r at h
  simp only
  split
  · simp
  · split
    · simp
    · simp only [List.length_take]
      omega
theorem itR_len (lo hi : Int) : ∀ (k : Nat) (l : List It) (s : St), (itR lo hi k l s).1.length = l.length + k
  | 0, _, _ => rfl
  | k + 1, l, s => by rw [itR_snoc]; simp [itR_len lo hi k l s]; omega
theorem itR_bd (lo hi : Int) (h1 : -9223372036854775808 ≤ lo) (h2 : hi ≤ 9223372036854775807) : ∀ (k : Nat) (s : St), ∀ x ∈ (itR lo hi k [] s).1, x.good.size ≤ 16 ∧ -9223372036854775808 ≤ x.n ∧ x.n ≤ 9223372036854775807
  | 0, _, x, hx => by simp [itR] at hx
  | k + 1, s, x, hx => by
    rw [itR_snoc] at hx
    rcases List.mem_append.1 hx with hx | hx
    · exact itR_bd lo hi h1 h2 k s x hx
    · simp only [List.mem_cons, List.not_mem_nil, or_false] at hx
      subst hx
      refine ⟨?_, ?_⟩
      · have := textT_16 (s := (itR lo hi k [] s).2)
        simp only [strOf_size']
        omega
      · rcases numT_range (textT (itR lo hi k [] s).2 16).2 lo hi with h | h
        · simp only [h]; omega
        · simp only; omega
theorem i_oneA (l : List It) : ∀ u ∈ l.flatMap encI, u.oneCell' = true := fun u hu => by
  obtain ⟨z, _, hu⟩ := List.mem_flatMap.1 hu
  simp only [encI, List.mem_cons, List.not_mem_nil, or_false] at hu
  rcases hu with rfl | rfl <;> rfl
/-- What Decode's blocks hold: the taker, its variable, the answer's cell. -/
def DcT (w W : World) (pt pr p : Nat) (D : Option Nat) (s : St) : Prop :=
  IsT W 98 p D s ∧ W.heap[pt]? = some (.cells #[.pointer (some ⟨p, 0, none⟩)] 66 (0, 0)) ∧ W.heap[pr]? = some (.cells #[.int .i64 0, .int .i64 0, .int .i64 0, .int .i64 0, .int .i64 0, .int .i64 0, .int .i64 0, .string { data := #[] }, .slice none 0 0] 24 (0, 0)) ∧ Below w.heap.size w W
theorem DcT.turn {w W W' : World} {pt pr p : Nat} {D : Option Nat} {s s' : St} (h : DcT w W pt pr p D s) (hT : IsT W' 98 p D s') (hf : Fr 0 [] [p] W W') (hp : w.heap.size ≤ p) : DcT w W' pt pr p D s' := by
  obtain ⟨⟨A, c, h1, _⟩, h2, h3, h4⟩ := h
  refine ⟨hT, hf.keep0 h2 ?_, hf.keep0 h3 ?_, h4.trans (hf.belowT hp h4.size)⟩
  · simp; exact block_ne h2 h1 (by decide)
  · simp; exact block_ne h3 h1 (by decide)
theorem DcT.keepB {w W W' : World} {pt pr p b : Nat} {D : Option Nat} {s : St} (h : DcT w W pt pr p D s) (hb : Below b W W') (hw : w.heap.size ≤ b) (h1 : p < b) (h2 : ∀ d, D = some d → d < b) (h3 : pt < b) (h4 : pr < b) : DcT w W' pt pr p D s := by
  obtain ⟨⟨A, c, k1, k2, k3, k4, k5, k6, k7⟩, j2, j3, j4⟩ := h
  refine ⟨⟨A, c, (hb.block _ h1).trans k1, k2, k3, ⟨k4.1, fun hn => ?_⟩, k5, k6, k7⟩, (hb.block _ h3).trans j2, (hb.block _ h4).trans j3, j4.trans (hb.mono hw)⟩
  obtain ⟨g, o, e, hg, hc⟩ := k4.2 hn
  have hgb : g < b := h2 g (by have := k5 hn _ e; simpa using this)
  exact ⟨g, o, e, Nat.lt_of_lt_of_le hg hb.size, fun j u hu => (World.cell?_of_block (a := ⟨g, o + j, none⟩) (hb.block g hgb)).trans (hc j u hu)⟩
theorem DcT.set {w W : World} {pt pr p pa : Nat} {D : Option Nat} {s : St} (h : DcT w W pt pr p D s) (i : Nat) (u : Value) (hw : w.heap.size ≤ pa) (h1 : p ≠ pa) (h2 : D ≠ some pa) (h3 : pt ≠ pa) (h4 : pr ≠ pa) : DcT w (W.setCell ⟨pa, i, none⟩ u) pt pr p D s := by
  obtain ⟨k1, k2, k3, k4⟩ := h
  have f : Fr 0 [] [pa] W (W.setCell ⟨pa, i, none⟩ u) := (Fr.refl W).setCell (p := ⟨pa, i, none⟩) _ (Nat.zero_le _) (.inl (by simp))
  exact ⟨k1.keep f (by simpa using h1) (fun d hd => by simp; rintro rfl; exact h2 hd), f.keep0 k2 (by simpa using h3), f.keep0 k3 (by simpa using h4), k4.setCell (p := ⟨pa, i, none⟩) hw _⟩
theorem dcl_any (pt p : Nat) (D : Option Nat) (s s' : St) (n : Int) (W : World) (hT : IsT W 98 p D s) (hD : D ≠ some p) (hp : W.cell? ⟨pt, 0, none⟩ = some (.pointer (some ⟨p, 0, none⟩))) (hn : numT s 0 9223372036854775807 = (n, s')) :
    Calls Try.prog 72 #[.pointer (some ⟨pt, 0, none⟩)] W (RetT 98 p D (.int .i64 n) s' W) := by
  have H := Lib.hid (tnum_any p D s 0 9223372036854775807 W hT hD)
  rw [hn] at H
  clear hT hD hn
  go_enter Try.func72, Try.ntmps72
  go_wp2_with fail
  refine H.out.mono ?_
  rintro e w1 ⟨rfl, hT, hf⟩
  have HT := Lib.hid hT
  have HF := Lib.hid hf
  clear hT hf
  go_wp2
  go_ret
  exact ⟨rfl, HT.out, HF.out⟩
/-- Nine stores into a result's block. -/
theorem ask_store {W : World} {n : Nat} {x0 x1 x2 x3 x4 x5 x6 x7 x8 : Value} (h : W.heap[n]? = some (.cells #[x0, x1, x2, x3, x4, x5, x6, x7, x8] 24 (0, 0))) (v0 v1 v2 v3 v4 v5 v6 v7 v8 : Value) :
    ∃ W', (((((((((W.setCell ⟨n, 0, none⟩ v0).setCell ⟨n, 1, none⟩ v1).setCell ⟨n, 2, none⟩ v2).setCell ⟨n, 3, none⟩ v3).setCell ⟨n, 4, none⟩ v4).setCell ⟨n, 5, none⟩ v5).setCell ⟨n, 6, none⟩ v6).setCell ⟨n, 7, none⟩ v7).setCell ⟨n, 8, none⟩ v8) = W' ∧ (W'.cell? ⟨n, 0, none⟩ = some v0 ∧ W'.cell? ⟨n, 1, none⟩ = some v1 ∧ W'.cell? ⟨n, 2, none⟩ = some v2 ∧ W'.cell? ⟨n, 3, none⟩ = some v3 ∧ W'.cell? ⟨n, 4, none⟩ = some v4 ∧ W'.cell? ⟨n, 5, none⟩ = some v5 ∧ W'.cell? ⟨n, 6, none⟩ = some v6 ∧ W'.cell? ⟨n, 7, none⟩ = some v7 ∧ W'.cell? ⟨n, 8, none⟩ = some v8) ∧ W'.heap[n]? = some (.cells #[v0, v1, v2, v3, v4, v5, v6, v7, v8] 24 (0, 0)) ∧ Fr 0 [] [n] W W' ∧ ∀ B, B ≤ n → Below B W W' := by
  have hb := block_over [v0, v1, v2, v3, v4, v5, v6, v7, v8] _ 0 W h
  have he : over #[x0, x1, x2, x3, x4, x5, x6, x7, x8] 0 [v0, v1, v2, v3, v4, v5, v6, v7, v8] = #[v0, v1, v2, v3, v4, v5, v6, v7, v8] := by simp [over]
  rw [he] at hb
  have hF : Fr 0 [] [n] W (W.setCells n 0 [v0, v1, v2, v3, v4, v5, v6, v7, v8]) := Fr.setCells (B := 0) (T := []) (S := [n]) (Nat.zero_le _) [v0, v1, v2, v3, v4, v5, v6, v7, v8] 0 W (Fr.refl W) (.inl (by simp))
  exact ⟨W.setCells n 0 [v0, v1, v2, v3, v4, v5, v6, v7, v8], rfl, ⟨cell_at hb 0, cell_at hb 1, cell_at hb 2, cell_at hb 3, cell_at hb 4, cell_at hb 5, cell_at hb 6, cell_at hb 7, cell_at hb 8⟩, hb, hF, fun B hB => hF.belowT hB (Nat.le_trans hB (Nat.le_of_lt (lt_of_block h)))⟩
/-- What Decode answers. -/
def zeroA : Ak := ⟨0, 0, 0, 0, 0, 0, 0, ByteArray.empty, []⟩
def RetDecA (w : World) (r : Option Ak) (e : Ending) (W : World) : Prop :=
  (∀ a, r = some a → ∃ A c, e = .returned (.tuple #[akV a (.slice A a.items.length c), .int .i64 0]) ∧ Rd W 2 A a.items.length (a.items.flatMap encI) ∧ Below w.heap.size w W) ∧
  (r = none → e = .returned (.tuple #[akV zeroA (.slice none 0 0), .int .i64 10]) ∧ Below w.heap.size w W)
set_option maxRecDepth 100000 in
set_option maxHeartbeats 4000000 in
theorem adec_any (v : Value) (bs : List Nat) (w : World) (hv : Bs w v bs) (hl : ∀ b ∈ bs, b < 256) (ht : bs.length ≤ 140737488355328) :
    Calls Try.prog 41 #[v] w (RetDecA w (unA bs)) := by
  obtain ⟨i1, hi1, hy0, hy1, hy2⟩ := info_parts Try.infoItemA
  obtain ⟨⟨n1, s1⟩, hn1⟩ : ∃ x, numT (bs, false) 0 9223372036854775807 = x := ⟨_, rfl⟩
  obtain ⟨⟨n2, s2⟩, hn2⟩ : ∃ x, numT s1 0 9223372036854775807 = x := ⟨_, rfl⟩
  obtain ⟨⟨n3, s3⟩, hn3⟩ : ∃ x, numT s2 0 9223372036854775807 = x := ⟨_, rfl⟩
  obtain ⟨⟨n4, s4⟩, hn4⟩ : ∃ x, numT s3 0 9223372036854775807 = x := ⟨_, rfl⟩
  obtain ⟨⟨n5, s5⟩, hn5⟩ : ∃ x, numT s4 0 9223372036854775807 = x := ⟨_, rfl⟩
  obtain ⟨⟨n6, s6⟩, hn6⟩ : ∃ x, numT s5 0 9223372036854775807 = x := ⟨_, rfl⟩
  obtain ⟨⟨n7, s7⟩, hn7⟩ : ∃ x, numT s6 0 9223372036854775807 = x := ⟨_, rfl⟩
  obtain ⟨⟨g8, s8⟩, hg8⟩ : ∃ x, textT s7 16 = x := ⟨_, rfl⟩
  obtain ⟨N, hN, hN16⟩ : ∃ N : Nat, (numT s8 0 16).1 = N ∧ (N : Int) ≤ 16 := by
    rcases numT_range s8 0 16 with h | h
    · exact ⟨0, by rw [h]; rfl, by omega⟩
    · exact ⟨(numT s8 0 16).1.toNat, by omega, by omega⟩
  obtain ⟨s9, hs9⟩ : ∃ x, (numT s8 0 16).2 = x := ⟨_, rfl⟩
  have hn9 : numT s8 0 16 = ((N : Int), s9) := Prod.ext hN hs9
  have hrn : readNs bdA (bs, false) = ([n1, n2, n3, n4, n5, n6, n7], s7) := by
    simp only [bdA, bigP, readNs, hn1, hn2, hn3, hn4, hn5, hn6, hn7]
  have hp2 : p2A bdA (bs, false) = (g8, s8) := by unfold p2A; rw [hrn]; exact hg8
  have hp3 : p3A bdA (bs, false) = ((N : Int), s9) := by unfold p3A; rw [hp2]; exact hn9
  have hp4 : p4A bdA 0 9223372036854775807 (bs, false) = itR 0 9223372036854775807 N [] s9 := by unfold p4A; rw [hp3]; simp only [Int.toNat_natCast]
  have hpA : pA bdA 0 9223372036854775807 (bs, false) = ⟨n1, n2, n3, n4, n5, n6, n7, strOf g8, (itR 0 9223372036854775807 N [] s9).1⟩ := by unfold pA; rw [hrn, hp2, hp4]; rfl
  have hun : unA bs = if doneT (itR 0 9223372036854775807 N [] s9).2 = 0 ∧ mayA ⟨n1, n2, n3, n4, n5, n6, n7, strOf g8, (itR 0 9223372036854775807 N [] s9).1⟩ = true then some ⟨n1, n2, n3, n4, n5, n6, n7, strOf g8, (itR 0 9223372036854775807 N [] s9).1⟩ else none := by unfold unA; rw [hp4, hpA]
  have HUN := Lib.hid hun
  have HN1 := Lib.hid hn1
  have HN2 := Lib.hid hn2
  have HN3 := Lib.hid hn3
  have HN4 := Lib.hid hn4
  have HN5 := Lib.hid hn5
  have HN6 := Lib.hid hn6
  have HN7 := Lib.hid hn7
  have HG8 := Lib.hid hg8
  have HN9 := Lib.hid hn9
  have hsz8 : (strOf g8).size ≤ 16 := by have := textT_16 (s := s7); rw [hg8] at this; rw [strOf_size']; exact this
  have HSZ8 := Lib.hid hsz8
  obtain ⟨gd, hgd⟩ : ∃ gd, strOf g8 = gd := ⟨_, rfl⟩
  have HGD := Lib.hid hgd
  rw [hgd] at HUN HSZ8
  have hbw := (Below.refl w.heap.size w).alloc (Nat.le_refl _) (.cells #[.int .i64 0, .int .i64 0, .int .i64 0, .int .i64 0, .int .i64 0, .int .i64 0, .int .i64 0, .string { data := #[] }, .slice none 0 0] 24)
  have kr := block_new w (.cells #[.int .i64 0, .int .i64 0, .int .i64 0, .int .i64 0, .int .i64 0, .int .i64 0, .int .i64 0, .string { data := #[] }, .slice none 0 0] 24)
  obtain ⟨W1, hW1⟩ : ∃ W1, w.alloc (.cells #[.int .i64 0, .int .i64 0, .int .i64 0, .int .i64 0, .int .i64 0, .int .i64 0, .int .i64 0, .string { data := #[] }, .slice none 0 0] 24) = W1 := ⟨_, rfl⟩
  rw [hW1] at hbw kr
  have hs1w : W1.heap.size = w.heap.size + 1 := by rw [← hW1]; simp
  have HW1 := Lib.hid hW1
  have HKR := Lib.hid kr
  have HBW := Lib.hid hbw
  have HS1 := Lib.hid hs1w
  have HTAKE := Lib.hid (take_any v bs W1 (hv.below hbw) hl ht)
  obtain ⟨Av, cv, rfl, _, _, _⟩ := hv
  clear hun hn1 hn2 hn3 hn4 hn5 hn6 hn7 hg8 hN hs9 hn9 hrn hp2 hp3 hp4 hpA hbw kr hW1 hl ht hsz8 hgd hs1w
  go_enter Try.func41, Try.ntmps41
  go_wp2_with fail
  rw [HW1.out]
  refine HTAKE.out.mono ?_
  rintro e w2 ⟨p, D, rfl, hp, hT, hD, hDl, hb⟩
  have hpt := hT.lt
  have hT3 := hT.below ((Below.refl w2.heap.size w2).alloc (Nat.le_refl _) (.cells #[.pointer (some ⟨p, 0, none⟩)] 66))
  have hr3 := block_alloc ((hb.block _ (lt_of_block HKR.out)).trans HKR.out) (.cells #[.pointer (some ⟨p, 0, none⟩)] 66)
  have ht3 := block_new w2 (.cells #[.pointer (some ⟨p, 0, none⟩)] 66)
  have hb3 := (HBW.out.trans (hb.mono HBW.out.size)).alloc (Nat.le_trans HBW.out.size hb.size) (.cells #[.pointer (some ⟨p, 0, none⟩)] 66)
  obtain ⟨pt, hptt⟩ : ∃ pt, w2.heap.size = pt := ⟨_, rfl⟩
  obtain ⟨W3, hW3⟩ : ∃ W3, w2.alloc (.cells #[.pointer (some ⟨p, 0, none⟩)] 66) = W3 := ⟨_, rfl⟩
  have hs3 : W3.heap.size = pt + 1 := by rw [← hW3, ← hptt]; simp
  rw [hW3] at hT3 hr3 ht3 hb3
  rw [hptt] at ht3 hpt
  have hwp : w.heap.size + 1 ≤ p := by rw [← HS1.out]; exact hp
  have HNE : Hid (w.heap.size + 1 ≤ p ∧ p < pt ∧ (∀ d, D = some d → w.heap.size + 1 ≤ d ∧ d < pt) ∧ D ≠ some p) := Lib.hid ⟨hwp, hpt, fun d hd => by obtain ⟨h1, h2⟩ := hDl d hd; rw [HS1.out] at h1; rw [hptt] at h2; exact ⟨h1, h2⟩, hD⟩
  have HD0 : Hid (DcT w W3 pt w.heap.size p D (bs, false)) := Lib.hid ⟨hT3, ht3, hr3, hb3⟩
  have HS3 := Lib.hid hs3
  have HW3 : Hid (w2.alloc (.cells #[.pointer (some ⟨p, 0, none⟩)] 66) = W3) := Lib.hid hW3
  have HPT : Hid (w2.heap.size = pt) := Lib.hid hptt
  have x0 := cell_at HD0.out.2.1 0
  clear hp hT hD hDl hb hpt hT3 hr3 ht3 hb3 hptt hW3 hs3 hwp
  go_wp2_with fail
  rw [HW3.out, HPT.out]
  refine (dcl_any pt p D (bs, false) s1 n1 W3 HD0.out.1 HNE.out.2.2.2 x0 HN1.out).mono ?_
  rintro e w4 ⟨rfl, hT, hf⟩
  have HD1 := Lib.hid (HD0.out.turn hT hf (by have := HNE.out.1; omega))
  have HSZ1 : Hid (W3.heap.size ≤ w4.heap.size) := Lib.hid (hf.size)
  clear hT hf x0
  have x0 := cell_at HD1.out.2.1 0
  go_wp2_with fail
  refine (dcl_any pt p D s1 s2 n2 w4 HD1.out.1 HNE.out.2.2.2 x0 HN2.out).mono ?_
  rintro e w5 ⟨rfl, hT, hf⟩
  have HD2 := Lib.hid (HD1.out.turn hT hf (by have := HNE.out.1; omega))
  have HSZ2 : Hid (W3.heap.size ≤ w5.heap.size) := Lib.hid (Nat.le_trans HSZ1.out hf.size)
  clear hT hf x0
  have x0 := cell_at HD2.out.2.1 0
  go_wp2_with fail
  refine (dcl_any pt p D s2 s3 n3 w5 HD2.out.1 HNE.out.2.2.2 x0 HN3.out).mono ?_
  rintro e w6 ⟨rfl, hT, hf⟩
  have HD3 := Lib.hid (HD2.out.turn hT hf (by have := HNE.out.1; omega))
  have HSZ3 : Hid (W3.heap.size ≤ w6.heap.size) := Lib.hid (Nat.le_trans HSZ2.out hf.size)
  clear hT hf x0
  have x0 := cell_at HD3.out.2.1 0
  go_wp2_with fail
  refine (dcl_any pt p D s3 s4 n4 w6 HD3.out.1 HNE.out.2.2.2 x0 HN4.out).mono ?_
  rintro e w7 ⟨rfl, hT, hf⟩
  have HD4 := Lib.hid (HD3.out.turn hT hf (by have := HNE.out.1; omega))
  have HSZ4 : Hid (W3.heap.size ≤ w7.heap.size) := Lib.hid (Nat.le_trans HSZ3.out hf.size)
  clear hT hf x0
  have x0 := cell_at HD4.out.2.1 0
  go_wp2_with fail
  refine (dcl_any pt p D s4 s5 n5 w7 HD4.out.1 HNE.out.2.2.2 x0 HN5.out).mono ?_
  rintro e w8 ⟨rfl, hT, hf⟩
  have HD5 := Lib.hid (HD4.out.turn hT hf (by have := HNE.out.1; omega))
  have HSZ5 : Hid (W3.heap.size ≤ w8.heap.size) := Lib.hid (Nat.le_trans HSZ4.out hf.size)
  clear hT hf x0
  have x0 := cell_at HD5.out.2.1 0
  go_wp2_with fail
  refine (dcl_any pt p D s5 s6 n6 w8 HD5.out.1 HNE.out.2.2.2 x0 HN6.out).mono ?_
  rintro e w9 ⟨rfl, hT, hf⟩
  have HD6 := Lib.hid (HD5.out.turn hT hf (by have := HNE.out.1; omega))
  have HSZ6 : Hid (W3.heap.size ≤ w9.heap.size) := Lib.hid (Nat.le_trans HSZ5.out hf.size)
  clear hT hf x0
  have x0 := cell_at HD6.out.2.1 0
  go_wp2_with fail
  refine (dcl_any pt p D s6 s7 n7 w9 HD6.out.1 HNE.out.2.2.2 x0 HN7.out).mono ?_
  rintro e w10 ⟨rfl, hT, hf⟩
  have HD7 := Lib.hid (HD6.out.turn hT hf (by have := HNE.out.1; omega))
  have HSZ7 : Hid (W3.heap.size ≤ w10.heap.size) := Lib.hid (Nat.le_trans HSZ6.out hf.size)
  clear hT hf x0
  have x0 := cell_at HD7.out.2.1 0
  have hs10 : W3.heap.size ≤ w10.heap.size := HSZ7.out
  have hpa : pt < w10.heap.size := by rw [HS3.out] at hs10; omega
  have HPA := Lib.hid hpa
  have ka := block_new w10 (.cells #[.int .i64 n1, .int .i64 n2, .int .i64 n3, .int .i64 n4, .int .i64 n5, .int .i64 n6, .int .i64 n7, .string { data := #[] }, .slice none 0 0] 24)
  have hb11 := (Below.refl w10.heap.size w10).alloc (Nat.le_refl _) (.cells #[.int .i64 n1, .int .i64 n2, .int .i64 n3, .int .i64 n4, .int .i64 n5, .int .i64 n6, .int .i64 n7, .string { data := #[] }, .slice none 0 0] 24)
  obtain ⟨pa, hpae⟩ : ∃ pa, w10.heap.size = pa := ⟨_, rfl⟩
  obtain ⟨W11, hW11⟩ : ∃ W11, w10.alloc (.cells #[.int .i64 n1, .int .i64 n2, .int .i64 n3, .int .i64 n4, .int .i64 n5, .int .i64 n6, .int .i64 n7, .string { data := #[] }, .slice none 0 0] 24) = W11 := ⟨_, rfl⟩
  have hs11 : W11.heap.size = pa + 1 := by rw [← hW11, ← hpae]; simp
  rw [hpae] at hpa ka hb11
  rw [hW11] at ka hb11
  have hwp := HNE.out
  have HD11 : Hid (DcT w W11 pt w.heap.size p D s7) := Lib.hid (HD7.out.keepB hb11 (by omega) (by omega) (fun d hd => by have := (hwp.2.2.1 d hd).2; omega) hpa (by omega))
  have HKA := Lib.hid ka
  have HPA2 : Hid (pt < pa ∧ w.heap.size < pa ∧ p < pa ∧ D ≠ some pa ∧ W11.heap.size = pa + 1) := Lib.hid ⟨hpa, by omega, by omega, fun e => by have := (hwp.2.2.1 _ e).2; omega, hs11⟩
  have HW11 : Hid (w10.alloc (.cells #[.int .i64 n1, .int .i64 n2, .int .i64 n3, .int .i64 n4, .int .i64 n5, .int .i64 n6, .int .i64 n7, .string { data := #[] }, .slice none 0 0] 24) = W11) := Lib.hid hW11
  have HPAE : Hid (w10.heap.size = pa) := Lib.hid hpae
  have x1 : (w10.alloc (.cells #[.int .i64 n1, .int .i64 n2, .int .i64 n3, .int .i64 n4, .int .i64 n5, .int .i64 n6, .int .i64 n7, .string { data := #[] }, .slice none 0 0] 24)).cell? ⟨pt, 0, none⟩ = some (.pointer (some ⟨p, 0, none⟩)) := by rw [HW11.out]; exact cell_at HD11.out.2.1 0
  have hptl := HPA.out
  clear hs10 hpa ka hb11 hpae hW11 hs11 hwp
  have HTX : Hid (∀ (W : World) (s : St) (g : List Nat) (s' : St), textT s 16 = (g, s') → DcT w W pt w.heap.size p D s → Calls Try.prog 40 #[.pointer (some ⟨p, 0, none⟩), .int .i64 16] W fun e W' => e = .returned (.string (strOf g)) ∧ DcT w W' pt w.heap.size p D s' ∧ Fr 0 [] [p] W W') := Lib.hid (fun W s g s' h hd => by
    have h1 := ttext_any p D s 16 W hd.1 HNE.out.2.2.2
    rw [h] at h1
    exact h1.mono fun e W' ⟨he, hT, hf⟩ => ⟨he, hd.turn hT hf (by have := HNE.out.1; omega), hf⟩)
  have HCL : Hid (∀ (W : World) (s : St) (n : Int) (s' : St), numT s 0 9223372036854775807 = (n, s') → DcT w W pt w.heap.size p D s → Calls Try.prog 72 #[.pointer (some ⟨pt, 0, none⟩)] W fun e W' => e = .returned (.int .i64 n) ∧ DcT w W' pt w.heap.size p D s' ∧ Fr 0 [] [p] W W') := Lib.hid (fun W s n s' h hd => (dcl_any pt p D s s' n W hd.1 HNE.out.2.2.2 (cell_at hd.2.1 0) h).mono fun e W' ⟨he, hT, hf⟩ => ⟨he, hd.turn hT hf (by have := HNE.out.1; omega), hf⟩)
  go_wp2_with fail
  rw [HW11.out, HPAE.out]
  clear x0 x1 hptl
  refine (HTX.out W11 s7 g8 s8 HG8.out HD11.out).mono ?_
  rintro e w12 ⟨rfl, hd, hf⟩
  rw [HGD.out]
  have HD12 := Lib.hid hd
  have HF12 := Lib.hid hf
  have HKA12 := Lib.hid (hf.keep0 HKA.out (by have := HPA2.out; simp; omega))
  have x2 := cell_at HD12.out.2.1 0
  have y7 := cell_at HKA12.out 7
  have z7 := frozen_at HKA12.out 7
  clear hd hf
  have HD13 : Hid (DcT w (w12.setCell ⟨pa, 7, none⟩ (.string gd)) pt w.heap.size p D s8) := Lib.hid (HD12.out.set 7 _ (by have := HPA2.out; omega) (by have := HPA2.out; omega) HPA2.out.2.2.2.1 (by have := HPA2.out; omega) (by have := HPA2.out; omega))
  have HKA13 : Hid ((w12.setCell ⟨pa, 7, none⟩ (.string gd)).heap[pa]? = some (.cells #[.int .i64 n1, .int .i64 n2, .int .i64 n3, .int .i64 n4, .int .i64 n5, .int .i64 n6, .int .i64 n7, .string gd, .slice none 0 0] 24 (0, 0))) := Lib.hid (by rw [block_set HKA12.out]; rfl)
  have HS13 : Hid (pa + 1 ≤ (w12.setCell ⟨pa, 7, none⟩ (.string gd)).heap.size) := Lib.hid (lt_of_block HKA13.out)
  obtain ⟨W13, hW13⟩ : ∃ W13, w12.setCell ⟨pa, 7, none⟩ (.string gd) = W13 := ⟨_, rfl⟩
  rw [hW13] at HD13 HKA13 HS13
  have HW13 := Lib.hid hW13
  have x3 : (w12.setCell ⟨pa, 7, none⟩ (.string gd)).cell? ⟨pt, 0, none⟩ = some (.pointer (some ⟨p, 0, none⟩)) := by rw [HW13.out]; exact cell_at HD13.out.2.1 0
  have hpp : pt ≠ pa := by have := HPA2.out; omega
  clear hW13
  have HCNT : Hid (Calls Try.prog 39 #[.pointer (some ⟨p, 0, none⟩), .int .i64 0, .int .i64 16] W13 fun e W' => e = .returned (.int .i64 N) ∧ DcT w W' pt w.heap.size p D s9 ∧ Fr 0 [] [p] W13 W') := Lib.hid (by
    have h1 := tnum_any p D s8 0 16 W13 HD13.out.1 HNE.out.2.2.2
    rw [HN9.out] at h1
    exact h1.mono fun e W' ⟨he, hT, hf⟩ => ⟨he, HD13.out.turn hT hf (by have := HNE.out.1; omega), hf⟩)
  go_wp2_with fail
  rw [HW13.out]
  clear y7 z7 x2 x3 hpp
  refine HCNT.out.mono ?_
  rintro e w14 ⟨rfl, hd, hf⟩
  have HD14 := Lib.hid hd
  have HKA14 := Lib.hid (hf.keep0 HKA13.out (by have := HPA2.out; simp; omega))
  have HS14 : Hid (pa + 1 ≤ w14.heap.size) := Lib.hid (lt_of_block HKA14.out)
  clear hd hf
  go_wp2_with fail
  go_loopw [31] (fun iv wr => ∃ k : Nat, k ≤ N ∧ iv = .int .i64 k ∧ DcT w wr pt w.heap.size p D (itR 0 9223372036854775807 k [] s9).2 ∧ ∃ vi, wr.heap[pa]? = some (.cells #[.int .i64 n1, .int .i64 n2, .int .i64 n3, .int .i64 n4, .int .i64 n5, .int .i64 n6, .int .i64 n7, .string gd, vi] 24 (0, 0)) ∧ wr.ownsRow w14.heap.size 46 2 vi (itR 0 9223372036854775807 k [] s9).1.length ((itR 0 9223372036854775807 k [] s9).1.flatMap encI) ∧ w14.heap.size ≤ wr.heap.size) (fun iv => fun _ => N - (intOf iv).toNat)
  case atStart => exact ⟨0, Nat.zero_le _, rfl, HD14.out, _, HKA14.out, World.ownsRow_nil _ _ _ _, Nat.le_refl _⟩
  case round =>
    obtain ⟨k, hk, rfl, hd, vi, hka, hov, hsz⟩ := hrel
    have HD := Lib.hid hd
    have HKA := Lib.hid hka
    have HSZ := Lib.hid hsz
    have hlen := itR_len 0 9223372036854775807 k [] s9
    have hsn := itR_snoc 0 9223372036854775807 k [] s9
    obtain ⟨⟨L, s⟩, hLs⟩ : ∃ x, itR 0 9223372036854775807 k [] s9 = x := ⟨_, rfl⟩
    rw [hLs] at hlen hsn hov HD
    simp only [List.length_nil, Nat.zero_add] at hlen hsn hov HD
    rw [hlen] at hov
    have HO := Lib.hid hov
    have HLEN : Hid (L.length = k) := Lib.hid hlen
    have HLS := Lib.hid hLs
    obtain ⟨Ai, ci, rfl, _, _, _, _⟩ := own_slice hov
    clear hd hka hsz hlen hov hLs
    by_cases hlt : k < N
    · obtain ⟨⟨g, sa⟩, hga⟩ : ∃ x, textT s 16 = x := ⟨_, rfl⟩
      obtain ⟨⟨n, sb⟩, hnb⟩ : ∃ x, numT sa 0 9223372036854775807 = x := ⟨_, rfl⟩
      rw [hga] at hsn
      simp only at hsn
      rw [hnb] at hsn
      simp only at hsn
      have HSN := Lib.hid hsn
      have HGA := Lib.hid hga
      have HNB := Lib.hid hnb
      have hkI : decide ((k : Int) < (N : Int)) = true := by simp; omega
      have hkJ : (k : Int) < (N : Int) := by omega
      have x5 := cell_at HD.out.2.1 0
      obtain ⟨gs, hgs⟩ : ∃ gs, strOf g = gs := ⟨_, rfl⟩
      have HGS := Lib.hid hgs
      clear hsn hga hnb hgs
      go_wp2_with fail
      refine (HTX.out wr s g sa HGA.out HD.out).mono ?_
      rintro e w15 ⟨rfl, hd, hf⟩
      rw [HGS.out]
      have HD15 := Lib.hid hd
      have HF15 := Lib.hid hf
      have hne : ∀ k, (Value.slice Ai k ci).ownBlock = some k → True := fun _ _ => trivial
      have HKA15 := Lib.hid (hf.keep0 HKA.out (by have := HPA2.out; simp; omega))
      have HO15 := Lib.hid (hf.own HO.out (by simp) (fun j hj => by obtain ⟨h1, _⟩ := own_block HO.out hj; have := HPA2.out; have := HS14.out; simp; omega))
      have HSZ15 : Hid (w14.heap.size ≤ w15.heap.size) := Lib.hid (Nat.le_trans HSZ.out hf.size)
      clear hd hf x5 hne
      go_wp2_with fail
      refine wp_region_flow2 (fun W => W.heap[pa]? = some (.cells #[.int .i64 n1, .int .i64 n2, .int .i64 n3, .int .i64 n4, .int .i64 n5, .int .i64 n6, .int .i64 n7, .string gd, .slice Ai k ci] 24 (0, 0)) ∧ W.ownsRow w14.heap.size 46 2 (.slice Ai k ci) k (L.flatMap encI) ∧ w14.heap.size ≤ W.heap.size) (fun W => DcT w W pt w.heap.size p D sa) [0, 1, 2, 3, 4, 5, 6, 7, 8, 9] (by kernel_rfl) (by kernel_rfl) (by kernel_rfl) (⟨HKA15.out, (Fr.of_below (B := 0) (T := []) (S := []) ((Below.refl _ w15).drew)).own HO15.out (by simp) (by simp), HSZ15.out⟩) (HD15.out.keepB (b := w15.heap.size) ((Below.refl _ _).drew) HD15.out.2.2.2.size HD15.out.1.lt (fun d hd => Nat.lt_of_lt_of_le (HNE.out.2.2.1 d hd).2 (Nat.le_of_lt (lt_of_block HD15.out.2.1))) (lt_of_block HD15.out.2.1) (lt_of_block HD15.out.2.2.1)) ?_
      refine flow_val ?_ rfl (by kernel_rfl) (by rfl) (fun W hW => ?_) ?_
      rotate_left 1
      · go_simp <;> with_reducible rfl
      simp only [puts]
      refine flow_val ?_ rfl (by kernel_rfl) (by rfl) (fun W hW => ?_) ?_
      rotate_left 1
      · have c8 := cell_at hW.1 8; go_simp <;> with_reducible rfl
      simp only [puts]
      refine flow_val ?_ rfl (by kernel_rfl) (by rfl) (fun W hW => ?_) ?_
      rotate_left 1
      · go_simp <;> with_reducible rfl
      simp only [puts]
      refine flow_val ?_ rfl (by kernel_rfl) (by rfl) (fun W hW => ?_) ?_
      rotate_left 1
      · go_simp <;> with_reducible rfl
      simp only [puts]
      refine flow_turn (.int .i64 n) (fun W => DcT w W pt w.heap.size p D sb) rfl (by kernel_rfl) (by rfl) (by kernel_rfl) (fun W hW hC => ⟨_, _, _, by go_simp, (HCL.out W sa n sb HNB.out hC).mono fun e w1 hh => ?_⟩) ?_
      · obtain ⟨he, hd, hf⟩ := hh
        have hpk := HPA2.out
        have hnk := HNE.out
        have h14 := HS14.out
        exact ⟨he, ⟨hf.keep0 hW.1 (by simp; omega), hf.own hW.2.1 (by simp) (fun j hj => by obtain ⟨h1, _⟩ := own_block hW.2.1 hj; simp; omega), Nat.le_trans hW.2.2 hf.size⟩, hd⟩
      simp only [puts]
      refine flow_val ?_ rfl (by kernel_rfl) (by rfl) (fun W hW => ?_) ?_
      rotate_left 1
      · go_simp <;> with_reducible rfl
      simp only [puts]
      refine flow_gmake (fun v W => ∃ g, v = .slice (some ⟨g, 0, none⟩) 1 1 ∧ W.heap[g]? = some (.cells #[.string gs, .int .i64 n] 46 (0, 0)) ∧ DcT w W pt w.heap.size p D sb) rfl (by kernel_rfl) (by rfl) (by kernel_rfl) (fun W hW hC => ?_) ?_
      · have hb : Below W.heap.size W (W.alloc (.cells #[.string gs, .int .i64 n] 46)) := (Below.refl _ W).alloc (Nat.le_refl _) _
        refine ⟨_, _, by go_simp <;> with_reducible rfl, ⟨⟨(hb.block _ (lt_of_block hW.1.1)).trans hW.1.1, (Fr.of_below (B := 0) (T := []) (S := []) hb).own hW.1.2.1 (by simp) (by simp), Nat.le_trans hW.1.2.2 hb.size⟩, trivial⟩, _, rfl, block_new _ _, ?_⟩
        exact hC.keepB hb hC.2.2.2.size hC.1.lt (fun d hd => Nat.lt_of_lt_of_le (HNE.out.2.2.1 d hd).2 (Nat.le_of_lt (lt_of_block hC.2.1))) (lt_of_block hC.2.1) (lt_of_block hC.2.2.1)
      rintro v41 ⟨_, _, g41, rfl, _, _⟩
      simp only [puts]
      refine flow_bmake (fun W => W.heap[pa]? = some (.cells #[.int .i64 n1, .int .i64 n2, .int .i64 n3, .int .i64 n4, .int .i64 n5, .int .i64 n6, .int .i64 n7, .string gd, .slice Ai k ci] 24 (0, 0)) ∧ w14.heap.size ≤ W.heap.size ∧ DcT w W pt w.heap.size p D sb) (fun v W => W.ownsRow w14.heap.size 46 2 v (k + 1) (L.flatMap encI ++ encI ⟨gs, n⟩)) rfl (by kernel_rfl) (by rfl) (by kernel_rfl) (by kernel_rfl) (fun W hW hC => ?_) ?_
      · obtain ⟨⟨⟨ha, ho, hz⟩, _⟩, _⟩ := hW
        obtain ⟨g', e', hg', hd⟩ := hC
        cases e'
        have hpk := HPA2.out
        have hnk := HNE.out
        have h14 := HS14.out
        refine exec_append_rd (.tmp 36) (.tmp 41) 22 rfl w14.heap.size 46 i1 (.agg #[.string ByteArray.empty, .int .i64 0]) 2 24 Try.underlying22 hi1 hy0 hy1 hy2 rfl (by decide) _ k _ rfl ho (some ⟨g41, 0, none⟩) 1 1 (encI ⟨gs, n⟩) rfl (rd_oneA hg') (by simp [encI, Value.oneCell']) (by unfold maxLen; omega) (by omega) hz (fun v' w' x2 x3 => ?_)
        have fx : Fr w14.heap.size [46] [] W w' := (Fr.refl W).grown x3 (fun j hj => by
          obtain ⟨hb, cs, hc⟩ := own_block ho hj
          exact ⟨hb, .inr ⟨cs, _, _, hc, by simp⟩⟩)
        have hb := fx.below hz
        exact ⟨⟨(hb.block _ (by omega)).trans ha, Nat.le_trans hz fx.size, hd.keepB hb (by omega) (by omega) (fun d hd => by have := (hnk.2.2.1 d hd).2; omega) (by omega) (by omega)⟩, x2⟩
      rintro v42 ⟨_, _, hv42⟩
      obtain ⟨A42, c42, rfl, _, _, _, _⟩ := own_slice hv42
      clear hv42
      simp only [puts]
      refine flow_val ?_ rfl (by kernel_rfl) (by rfl) (fun W hW => ?_) ?_
      rotate_left 1
      · go_simp <;> with_reducible rfl
      simp only [puts]
      refine flow_bar (fun W => DcT w W pt w.heap.size p D sb ∧ W.heap[pa]? = some (.cells #[.int .i64 n1, .int .i64 n2, .int .i64 n3, .int .i64 n4, .int .i64 n5, .int .i64 n6, .int .i64 n7, .string gd, .slice A42 (k + 1) c42] 24 (0, 0)) ∧ W.ownsRow w14.heap.size 46 2 (.slice A42 (k + 1) c42) (k + 1) (L.flatMap encI ++ encI ⟨gs, n⟩) ∧ w14.heap.size ≤ W.heap.size) (fun _ => True) rfl (by kernel_rfl) (by rfl) (by kernel_rfl) (by kernel_rfl) (fun W hW hC => ?_) ?_
      · obtain ⟨⟨ha, hz, hd⟩, _⟩ := hW
        have hpk := HPA2.out
        have hnk := HNE.out
        have h14 := HS14.out
        have q1 := cell_at ha 8
        have q2 := frozen_at ha 8
        have HA := Lib.hid ha
        have HZ := Lib.hid hz
        have HDD := Lib.hid hd
        have HCC := Lib.hid hC
        clear ha hz hd hC
        refine ⟨_, by go_simp <;> with_reducible rfl, ⟨HDD.out.set 8 _ (by omega) (by omega) hpk.2.2.2.1 (by omega) (by omega), ?_, ?_, ?_⟩, trivial⟩
        · rw [block_set HA.out]; rfl
        · have fs : Fr 0 [] [pa] W (W.setCell ⟨pa, 8, none⟩ (.slice A42 (k + 1) c42)) := (Fr.refl W).setCell (p := ⟨pa, 8, none⟩) _ (Nat.zero_le _) (.inl (by simp))
          exact fs.own HCC.out (by simp) (fun j hj => by obtain ⟨h1, _⟩ := own_block HCC.out hj; simp; omega)
        · simpa using HZ.out
      simp only [Act.put]
      refine flow_done2 ?_
      intro W hW hC
      have HE := Lib.hid hW
      clear hW hC
      go_wp2_with fail
      go_roundw
      case rel => exact ⟨k + 1, hlt, by go_num, by rw [HSN.out]; exact HE.out.1.1, _, HE.out.1.2.1, by rw [HSN.out]; simp only; rw [List.length_append, HLEN.out, List.flatMap_append, List.flatMap_cons, List.flatMap_nil, List.append_nil]; simpa [HGS.out] using HE.out.1.2.2.1, HE.out.1.2.2.2⟩
      case measure => simp [intOf]; omega
    · have ekm : k = N := by omega
      have hkI : decide ((k : Int) < (N : Int)) = false := by simp; omega
      subst ekm
      have HU := HUN
      rw [HLS.out] at HU
      simp only at HU
      have hbd := itR_bd 0 9223372036854775807 (by omega) (by omega) k s9
      rw [HLS.out] at hbd
      simp only at hbd
      have HBD : Hid (BdL L) := Lib.hid ⟨fun z hz => by have := hbd z hz; exact ⟨by omega, by omega, by omega⟩, by rw [HLEN.out]; omega⟩
      obtain ⟨_, _, er, _, _, hrd, _⟩ := own_slice HO.out
      cases er
      have HRD : Hid (Rd wr 2 Ai L.length (L.flatMap encI)) := Lib.hid (by rw [HLEN.out]; exact hrd)
      obtain ⟨dn, hdn⟩ : ∃ dn, doneT s = dn := ⟨_, rfl⟩
      have HDONE := Lib.hid (tdone_any p D s wr HD.out.1)
      rw [hdn] at HU HDONE
      have HMAY := Lib.hid (amay_any ⟨n1, n2, n3, n4, n5, n6, n7, gd, L⟩ Ai ci wr HRD.out HBD.out (by have := HSZ8.out; simp only; omega))
      simp only at HMAY
      obtain ⟨MA, hMA⟩ : ∃ MA, mayA ⟨n1, n2, n3, n4, n5, n6, n7, gd, L⟩ = MA := ⟨_, rfl⟩
      rw [hMA] at HU HMAY
      rw [HLEN.out] at HMAY
      have hdc : dn = 0 ∨ dn = 10 := by rw [← hdn]; unfold doneT; split <;> simp
      have x5 := cell_at HD.out.2.1 0
      have a0 := cell_at HKA.out 0
      have a1 := cell_at HKA.out 1
      have a2 := cell_at HKA.out 2
      have a3 := cell_at HKA.out 3
      have a4 := cell_at HKA.out 4
      have a5 := cell_at HKA.out 5
      have a6 := cell_at HKA.out 6
      have a7 := cell_at HKA.out 7
      have a8 := cell_at HKA.out 8
      have hwr : w.heap.size < wr.heap.size := lt_of_block HD.out.2.2.1
      have HBF := Lib.hid HD.out.2.2.2
      clear hrd hdn hMA hbd
      rcases hdc with rfl | rfl
      · go_wp2_with fail
        refine HDONE.out.mono ?_
        rintro e w20 ⟨rfl, rfl⟩
        go_wp2_with fail
        refine HMAY.out.mono ?_
        rintro e w20 ⟨rfl, hb⟩
        have HRZ := Lib.hid ((hb.block _ (lt_of_block HD.out.2.2.1)).trans HD.out.2.2.1)
        have HKA20 := Lib.hid ((hb.block _ (lt_of_block HKA.out)).trans HKA.out)
        have HRD20 := Lib.hid (HRD.out.below hb)
        have HB20 := Lib.hid (HBF.out.trans (hb.mono HBF.out.size))
        have HPP := Lib.hid HPA2.out.2.1
        have HSZA := Lib.hid (lt_of_block HKA20.out)
        clear hb x5 a0 a1 a2 a3 a4 a5 a6 a7 a8
        cases MA
        · have hu : unA bs = none := by rw [HU.out, if_neg (by simp)]
          have HUU := Lib.hid hu
          clear hu
          have z0 := cell_at HRZ.out 0
          have f0 := frozen_at HRZ.out 0
          have z1 := cell_at HRZ.out 1
          have f1 := frozen_at HRZ.out 1
          have z2 := cell_at HRZ.out 2
          have f2 := frozen_at HRZ.out 2
          have z3 := cell_at HRZ.out 3
          have f3 := frozen_at HRZ.out 3
          have z4 := cell_at HRZ.out 4
          have f4 := frozen_at HRZ.out 4
          have z5 := cell_at HRZ.out 5
          have f5 := frozen_at HRZ.out 5
          have z6 := cell_at HRZ.out 6
          have f6 := frozen_at HRZ.out 6
          have z7 := cell_at HRZ.out 7
          have f7 := frozen_at HRZ.out 7
          have z8 := cell_at HRZ.out 8
          have f8 := frozen_at HRZ.out 8
          go_wp2_with fail
          obtain ⟨W9, h9, ⟨u0, u1, u2, u3, u4, u5, u6, u7, u8⟩, _, hF, hB⟩ := ask_store HRZ.out (.int .i64 0) (.int .i64 0) (.int .i64 0) (.int .i64 0) (.int .i64 0) (.int .i64 0) (.int .i64 0) (.string { data := #[] }) (.slice none 0 0)
          rw [h9]
          refine bodyPost_ret (v := .tuple #[.agg #[.int .i64 0, .int .i64 0, .int .i64 0, .int .i64 0, .int .i64 0, .int .i64 0, .int .i64 0, .string { data := #[] }, .slice none 0 0], .int .i64 10]) (by simp [results, Try.f41, go_sem, u0, u1, u2, u3, u4, u5, u6, u7, u8]) rfl ?_
          exact ⟨fun a ha => (by rw [HUU.out] at ha; cases ha), fun _ => ⟨rfl, HB20.out.trans (hB _ (Nat.le_refl _))⟩⟩
        · have hu : unA bs = some ⟨n1, n2, n3, n4, n5, n6, n7, gd, L⟩ := by rw [HU.out, if_pos (by simp)]
          have HUU := Lib.hid hu
          clear hu
          have z0 := cell_at HRZ.out 0
          have f0 := frozen_at HRZ.out 0
          have z1 := cell_at HRZ.out 1
          have f1 := frozen_at HRZ.out 1
          have z2 := cell_at HRZ.out 2
          have f2 := frozen_at HRZ.out 2
          have z3 := cell_at HRZ.out 3
          have f3 := frozen_at HRZ.out 3
          have z4 := cell_at HRZ.out 4
          have f4 := frozen_at HRZ.out 4
          have z5 := cell_at HRZ.out 5
          have f5 := frozen_at HRZ.out 5
          have z6 := cell_at HRZ.out 6
          have f6 := frozen_at HRZ.out 6
          have z7 := cell_at HRZ.out 7
          have f7 := frozen_at HRZ.out 7
          have z8 := cell_at HRZ.out 8
          have f8 := frozen_at HRZ.out 8
          have a0 := cell_at HKA20.out 0
          have a1 := cell_at HKA20.out 1
          have a2 := cell_at HKA20.out 2
          have a3 := cell_at HKA20.out 3
          have a4 := cell_at HKA20.out 4
          have a5 := cell_at HKA20.out 5
          have a6 := cell_at HKA20.out 6
          have a7 := cell_at HKA20.out 7
          have a8 := cell_at HKA20.out 8
          go_wp2_with fail
          obtain ⟨W9, h9, ⟨u0, u1, u2, u3, u4, u5, u6, u7, u8⟩, _, hF, hB⟩ := ask_store HRZ.out (.int .i64 n1) (.int .i64 n2) (.int .i64 n3) (.int .i64 n4) (.int .i64 n5) (.int .i64 n6) (.int .i64 n7) (.string gd) (.slice Ai k ci)
          rw [h9]
          refine bodyPost_ret (v := .tuple #[.agg #[.int .i64 n1, .int .i64 n2, .int .i64 n3, .int .i64 n4, .int .i64 n5, .int .i64 n6, .int .i64 n7, .string gd, .slice Ai k ci], .int .i64 0]) (by simp [results, Try.f41, go_sem, u0, u1, u2, u3, u4, u5, u6, u7, u8]) rfl ?_
          refine ⟨fun a ha => ?_, fun h => by rw [HUU.out] at h; cases h⟩
          rw [HUU.out] at ha
          injection ha with ha
          subst ha
          refine ⟨Ai, ci, by simp only; rw [HLEN.out], HRD20.out.frame hF (fun hn a ha => ?_), HB20.out.trans (hB _ (Nat.le_refl _))⟩
          have h14 := HS14.out
          have hpp := HPP.out
          obtain ⟨hbk, _⟩ := own_block HO.out (k := a.block) (by rw [ha]; rfl)
          simp
          omega
      · have hu : unA bs = none := by rw [HU.out, if_neg (by simp)]
        have HUU := Lib.hid hu
        have HRZ := Lib.hid HD.out.2.2.1
        have HB20 := Lib.hid HBF.out
        clear hu
        go_wp2_with fail
        refine HDONE.out.mono ?_
        rintro e w20 ⟨rfl, rfl⟩
        have z0 := cell_at HRZ.out 0
        have f0 := frozen_at HRZ.out 0
        have z1 := cell_at HRZ.out 1
        have f1 := frozen_at HRZ.out 1
        have z2 := cell_at HRZ.out 2
        have f2 := frozen_at HRZ.out 2
        have z3 := cell_at HRZ.out 3
        have f3 := frozen_at HRZ.out 3
        have z4 := cell_at HRZ.out 4
        have f4 := frozen_at HRZ.out 4
        have z5 := cell_at HRZ.out 5
        have f5 := frozen_at HRZ.out 5
        have z6 := cell_at HRZ.out 6
        have f6 := frozen_at HRZ.out 6
        have z7 := cell_at HRZ.out 7
        have f7 := frozen_at HRZ.out 7
        have z8 := cell_at HRZ.out 8
        have f8 := frozen_at HRZ.out 8
        go_wp2_with fail
        obtain ⟨W9, h9, ⟨u0, u1, u2, u3, u4, u5, u6, u7, u8⟩, _, hF, hB⟩ := ask_store HRZ.out (.int .i64 0) (.int .i64 0) (.int .i64 0) (.int .i64 0) (.int .i64 0) (.int .i64 0) (.int .i64 0) (.string { data := #[] }) (.slice none 0 0)
        rw [h9]
        refine bodyPost_ret (v := .tuple #[.agg #[.int .i64 0, .int .i64 0, .int .i64 0, .int .i64 0, .int .i64 0, .int .i64 0, .int .i64 0, .string { data := #[] }, .slice none 0 0], .int .i64 10]) (by simp [results, Try.f41, go_sem, u0, u1, u2, u3, u4, u5, u6, u7, u8]) rfl ?_
        exact ⟨fun a ha => (by rw [HUU.out] at ha; cases ha), fun _ => ⟨rfl, HB20.out.trans (hB _ (Nat.le_refl _))⟩⟩
end Go.Proofs.Ytpccbobomppdbaa
