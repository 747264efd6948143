/- What mail.Decode rests on. -/
import Derived.Test.YtpccbobomppdbaaZR13
import Derived.Test.YtpccbobomppdbaaZR20
import Derived.Test.YtpccbobomppdbaaZR18
import Derived.Deep.MidRow
namespace Go.Proofs.Ytpccbobomppdbaa
open Go.RowKit

/-- The same, where one value tells the state at the end. -/
theorem wp_region_mid1 {P : Program} {ops : Array Oper} {Q : Exit → Act → World → Prop} {id : Nat} {a : Act} {w : World} {α : Type} {M : α → World → Prop} {tm : α → Act} (hm : P.follows .mixedOrders = true)
    (h : RegOK Fence.wide 9 P ops (fun x a w => x = .normal ∧ (∃ p, a = tm p ∧ M p w) ∨ x ≠ .normal ∧ Q x a w) a w.drew) (hk : ∀ p w, M p w → Q .normal (tm p) w) : (Code.region id ops true).wp P Q a w :=
  (wpIn_wide (n := 9)).1 (region_mid (fun a w => ∃ p, a = tm p ∧ M p w) hm h fun a w hx => by
    obtain ⟨p, rfl, hx⟩ := hx
    exact hk p w hx)
/-- What Decode's blocks hold: the taker, its variable, the answer's cell. -/
def DmT (w W : World) (pt pr p : Nat) (D : Option Nat) (s : St) : Prop :=
  IsT W 98 p D s ∧ W.heap[pt]? = some (.cells #[.pointer (some ⟨p, 0, none⟩)] 66 (0, 0)) ∧ W.heap[pr]? = some (.cells #[.int .i64 0, .int .i64 0, .slice none 0 0, .int .i64 0, .int .i64 0, .int .i64 0, .int .i64 0, .int .i64 0, .int .i64 0, .int .i64 0, .string { data := #[] }, .slice none 0 0, .int .i64 0, .int .i64 0, .int .i64 0, .int .i64 0] 29 (0, 0)) ∧ Below w.heap.size w W
theorem DmT.turn {w W W' : World} {pt pr p : Nat} {D : Option Nat} {s s' : St} (h : DmT w W pt pr p D s) (hT : IsT W' 98 p D s') (hf : Fr 0 [] [p] W W') (hp : w.heap.size ≤ p) : DmT w W' pt pr p D s' := by
  obtain ⟨⟨A, c, h1, _⟩, h2, h3, h4⟩ := h
  refine ⟨hT, hf.keep0 h2 ?_, hf.keep0 h3 ?_, h4.trans (hf.belowT hp h4.size)⟩
  · simp; exact block_ne h2 h1 (by decide)
  · simp; exact block_ne h3 h1 (by decide)
theorem DmT.keepB {w W W' : World} {pt pr p b : Nat} {D : Option Nat} {s : St} (h : DmT w W pt pr p D s) (hb : Below b W W') (hw : w.heap.size ≤ b) (h1 : p < b) (h2 : ∀ d, D = some d → d < b) (h3 : pt < b) (h4 : pr < b) : DmT w W' pt pr p D s := by
  obtain ⟨⟨A, c, k1, k2, k3, k4, k5, k6, k7⟩, j2, j3, j4⟩ := h
  refine ⟨⟨A, c, (hb.block _ h1).trans k1, k2, k3, ⟨k4.1, fun hn => ?_⟩, k5, k6, k7⟩, (hb.block _ h3).trans j2, (hb.block _ h4).trans j3, j4.trans (hb.mono hw)⟩
  obtain ⟨g, o, e, hg, hc⟩ := k4.2 hn
  have hgb : g < b := h2 g (by have := k5 hn _ e; simpa using this)
  exact ⟨g, o, e, Nat.lt_of_lt_of_le hg hb.size, fun j u hu => (World.cell?_of_block (a := ⟨g, o + j, none⟩) (hb.block g hgb)).trans (hc j u hu)⟩
theorem DmT.set {w W : World} {pt pr p pa : Nat} {D : Option Nat} {s : St} (h : DmT w W pt pr p D s) (i : Nat) (u : Value) (hw : w.heap.size ≤ pa) (h1 : p ≠ pa) (h2 : D ≠ some pa) (h3 : pt ≠ pa) (h4 : pr ≠ pa) : DmT w (W.setCell ⟨pa, i, none⟩ u) pt pr p D s := by
  obtain ⟨k1, k2, k3, k4⟩ := h
  have f : Fr 0 [] [pa] W (W.setCell ⟨pa, i, none⟩ u) := (Fr.refl W).setCell (p := ⟨pa, i, none⟩) _ (Nat.zero_le _) (.inl (by simp))
  exact ⟨k1.keep f (by simpa using h1) (fun d hd => by simp; rintro rfl; exact h2 hd), f.keep0 k2 (by simpa using h3), f.keep0 k3 (by simpa using h4), k4.setCell (p := ⟨pa, i, none⟩) hw _⟩
theorem DmT.fr {w W W' : World} {pt pr p pa : Nat} {D : Option Nat} {s : St} (h : DmT w W pt pr p D s) (f : Fr 0 [] [pa] W W') (hb : Below w.heap.size w W') (h1 : p ≠ pa) (h2 : D ≠ some pa) (h3 : pt ≠ pa) (h4 : pr ≠ pa) : DmT w W' pt pr p D s := by
  obtain ⟨k1, k2, k3, k4⟩ := h
  exact ⟨k1.keep f (by simpa using h1) (fun d hd => by simp; rintro rfl; exact h2 hd), f.keep0 k2 (by simpa using h3), f.keep0 k3 (by simpa using h4), hb⟩
theorem DmT.keepC {w W W' : World} {pt pr p : Nat} {D : Option Nat} {s : St} (h : DmT w W pt pr p D s) (hb : Below W.heap.size W W') : DmT w W' pt pr p D s := by
  obtain ⟨k1, k2, k3, k4⟩ := h
  exact ⟨k1.below hb, (hb.block _ (lt_of_block k2)).trans k2, (hb.block _ (lt_of_block k3)).trans k3, k4.trans (hb.mono k4.size)⟩
theorem mdcl_any (pt p : Nat) (D : Option Nat) (s s' : St) (n : Int) (W : World) (hT : IsT W 98 p D s) (hD : D ≠ some p) (hp : W.cell? ⟨pt, 0, none⟩ = some (.pointer (some ⟨p, 0, none⟩))) (hn : numT s (-9223372036854775808) 9223372036854775807 = (n, s')) :
    Calls Try.prog 42 #[.pointer (some ⟨pt, 0, none⟩)] W (RetT 98 p D (.int .i64 n) s' W) := by
  have H := Lib.hid (tnum_any p D s (-9223372036854775808) 9223372036854775807 W hT hD)
  rw [hn] at H
  clear hT hD hn
  go_enter Try.func42, Try.ntmps42
  go_wp2_with fail
  refine H.out.mono ?_
  rintro e w1 ⟨rfl, hT, hf⟩
  have HT := Lib.hid hT
  have HF := Lib.hid hf
  clear hT hf
  go_wp2
  go_ret
  exact ⟨rfl, HT.out, HF.out⟩
theorem mail_store {W : World} {n : Nat} {x0 x1 x2 x3 x4 x5 x6 x7 x8 x9 x10 x11 x12 x13 x14 x15 : Value} (h : W.heap[n]? = some (.cells #[x0, x1, x2, x3, x4, x5, x6, x7, x8, x9, x10, x11, x12, x13, x14, x15] 29 (0, 0))) (v0 v1 v2 v3 v4 v5 v6 v7 v8 v9 v10 v11 v12 v13 v14 v15 : Value) :
    ∃ W', (((((((((((((((W.setCell ⟨n, 0, none⟩ v0).setCell ⟨n, 1, none⟩ v1).setCell ⟨n, 2, none⟩ v2).setCell ⟨n, 3, none⟩ v3).setCell ⟨n, 4, none⟩ v4).setCell ⟨n, 5, none⟩ v5).setCell ⟨n, 6, none⟩ v6).setCell ⟨n, 7, none⟩ v7).setCell ⟨n, 8, none⟩ v8).setCell ⟨n, 9, none⟩ v9).setCell ⟨n, 10, none⟩ v10).setCell ⟨n, 11, none⟩ v11).setCell ⟨n, 12, none⟩ v12).setCell ⟨n, 13, none⟩ v13).setCell ⟨n, 14, none⟩ v14).setCell ⟨n, 15, none⟩ v15 = W' ∧ W'.heap[n]? = some (.cells #[v0, v1, v2, v3, v4, v5, v6, v7, v8, v9, v10, v11, v12, v13, v14, v15] 29 (0, 0)) ∧ Fr 0 [] [n] W W' ∧ (∀ B, B ≤ n → Below B W W') ∧ W'.heap.size = W.heap.size := by
  have hb := block_over [v0, v1, v2, v3, v4, v5, v6, v7, v8, v9, v10, v11, v12, v13, v14, v15] _ 0 W h
  have he : over #[x0, x1, x2, x3, x4, x5, x6, x7, x8, x9, x10, x11, x12, x13, x14, x15] 0 [v0, v1, v2, v3, v4, v5, v6, v7, v8, v9, v10, v11, v12, v13, v14, v15] = #[v0, v1, v2, v3, v4, v5, v6, v7, v8, v9, v10, v11, v12, v13, v14, v15] := by simp [over]
  rw [he] at hb
  have hF : Fr 0 [] [n] W (W.setCells n 0 [v0, v1, v2, v3, v4, v5, v6, v7, v8, v9, v10, v11, v12, v13, v14, v15]) := Fr.setCells (B := 0) (T := []) (S := [n]) (Nat.zero_le _) [v0, v1, v2, v3, v4, v5, v6, v7, v8, v9, v10, v11, v12, v13, v14, v15] 0 W (Fr.refl W) (.inl (by simp))
  exact ⟨W.setCells n 0 [v0, v1, v2, v3, v4, v5, v6, v7, v8, v9, v10, v11, v12, v13, v14, v15], rfl, hb, hF, fun B hB => hF.belowT hB (Nat.le_trans hB (Nat.le_of_lt (lt_of_block h))), by simp [World.setCells]⟩
theorem mail_storeA {W : World} {n : Nat} {x0 x1 x2 x3 x4 x5 x6 x7 x8 x9 x10 x11 x12 x13 x14 x15 : Value} (h : W.heap[n]? = some (.cells #[x0, x1, x2, x3, x4, x5, x6, x7, x8, x9, x10, x11, x12, x13, x14, x15] 29 (0, 0))) (v3 v4 v5 v6 v7 v8 v9 v10 v11 : Value) :
    ∃ W', ((((((((W.setCell ⟨n, 3, none⟩ v3).setCell ⟨n, 4, none⟩ v4).setCell ⟨n, 5, none⟩ v5).setCell ⟨n, 6, none⟩ v6).setCell ⟨n, 7, none⟩ v7).setCell ⟨n, 8, none⟩ v8).setCell ⟨n, 9, none⟩ v9).setCell ⟨n, 10, none⟩ v10).setCell ⟨n, 11, none⟩ v11 = W' ∧ W'.heap[n]? = some (.cells #[x0, x1, x2, v3, v4, v5, v6, v7, v8, v9, v10, v11, x12, x13, x14, x15] 29 (0, 0)) ∧ Fr 0 [] [n] W W' ∧ (∀ B, B ≤ n → Below B W W') ∧ W'.heap.size = W.heap.size := by
  have hb := block_over [v3, v4, v5, v6, v7, v8, v9, v10, v11] _ 3 W h
  have he : over #[x0, x1, x2, x3, x4, x5, x6, x7, x8, x9, x10, x11, x12, x13, x14, x15] 3 [v3, v4, v5, v6, v7, v8, v9, v10, v11] = #[x0, x1, x2, v3, v4, v5, v6, v7, v8, v9, v10, v11, x12, x13, x14, x15] := by simp [over]
  rw [he] at hb
  have hF : Fr 0 [] [n] W (W.setCells n 3 [v3, v4, v5, v6, v7, v8, v9, v10, v11]) := Fr.setCells (B := 0) (T := []) (S := [n]) (Nat.zero_le _) [v3, v4, v5, v6, v7, v8, v9, v10, v11] 3 W (Fr.refl W) (.inl (by simp))
  exact ⟨W.setCells n 3 [v3, v4, v5, v6, v7, v8, v9, v10, v11], rfl, hb, hF, fun B hB => hF.belowT hB (Nat.le_trans hB (Nat.le_of_lt (lt_of_block h))), by simp [World.setCells]⟩
theorem mail_storeY {W : World} {n : Nat} {x0 x1 x2 x3 x4 x5 x6 x7 x8 x9 x10 x11 x12 x13 x14 x15 : Value} (h : W.heap[n]? = some (.cells #[x0, x1, x2, x3, x4, x5, x6, x7, x8, x9, x10, x11, x12, x13, x14, x15] 29 (0, 0))) (v12 v13 v14 v15 : Value) :
    ∃ W', (((W.setCell ⟨n, 12, none⟩ v12).setCell ⟨n, 13, none⟩ v13).setCell ⟨n, 14, none⟩ v14).setCell ⟨n, 15, none⟩ v15 = W' ∧ W'.heap[n]? = some (.cells #[x0, x1, x2, x3, x4, x5, x6, x7, x8, x9, x10, x11, v12, v13, v14, v15] 29 (0, 0)) ∧ Fr 0 [] [n] W W' ∧ (∀ B, B ≤ n → Below B W W') ∧ W'.heap.size = W.heap.size := by
  have hb := block_over [v12, v13, v14, v15] _ 12 W h
  have he : over #[x0, x1, x2, x3, x4, x5, x6, x7, x8, x9, x10, x11, x12, x13, x14, x15] 12 [v12, v13, v14, v15] = #[x0, x1, x2, x3, x4, x5, x6, x7, x8, x9, x10, x11, v12, v13, v14, v15] := by simp [over]
  rw [he] at hb
  have hF : Fr 0 [] [n] W (W.setCells n 12 [v12, v13, v14, v15]) := Fr.setCells (B := 0) (T := []) (S := [n]) (Nat.zero_le _) [v12, v13, v14, v15] 12 W (Fr.refl W) (.inl (by simp))
  exact ⟨W.setCells n 12 [v12, v13, v14, v15], rfl, hb, hF, fun B hB => hF.belowT hB (Nat.le_trans hB (Nat.le_of_lt (lt_of_block h))), by simp [World.setCells]⟩
theorem textT_cap {s : St} {m : Int} : ((textT s m).1.length : Int) ≤ max m 0 := by
  have h := numT_range s 0 m
  unfold textT
  generalize numT s 0 m = r at h
  simp only
  split
  · simp; omega
  · split
    · simp; omega
    · simp only [List.length_take]
      omega
/-- What Decode answers. -/
def zeroMl : Ml := ⟨0, 0, [], zeroK, 0, 0, 0, 0⟩
def RetDecM (w : World) (r : Option Ml) (e : Ending) (W : World) : Prop :=
  (∀ m, r = some m → ∃ A c A' c', e = .returned (.tuple #[mlV m (.slice A m.items.length c) (.slice A' m.ask.items.length c'), .int .i64 0]) ∧ Rd W 2 A m.items.length (m.items.flatMap encI) ∧ Rd W 2 A' m.ask.items.length (m.ask.items.flatMap encI) ∧ Below w.heap.size w W) ∧
  (r = none → e = .returned (.tuple #[mlV zeroMl (.slice none 0 0) (.slice none 0 0), .int .i64 10]) ∧ Below w.heap.size w W)
/-- Where items stand, no text stands ahead of anything but a number. -/
theorem rd_no {W : World} {A : Option Addr} {l : List It} {a : Addr} {cs : Array Value} {T : TypeId} {f : Nat × Nat} (hr : Rd W 2 A l.length (l.flatMap encI)) (ha : A = some a) (hn : 0 < l.length) (hb : W.heap[a.block]? = some (.cells cs T f)) (h : ∀ (j : Nat) (s : ByteArray) (k : Int), cs[j]? = some (.string s) → cs[j + 1]? = some (.int .i64 k) → False) : False := by
  obtain ⟨g, o, e, _, hc⟩ := hr.2 hn
  rw [e] at ha
  cases ha
  match l, hn, hc with
  | z :: l, _, hc =>
    have h0 := hc 0 (.string z.good) (by simp [encI])
    have h1 := hc 1 (.int .i64 z.n) (by simp [encI])
    have e0 := cell_at hb (o + 0)
    have e1 := cell_at hb (o + 1)
    rw [h0] at e0
    rw [h1] at e1
    exact h o z.good z.n e0.symm e1.symm
/-- What ask.Decode answers, in one. -/
theorem adec_one (v : Value) (bs : List Nat) (w : World) (hv : Bs w v bs) (hl : ∀ b ∈ bs, b < 256) (ht : bs.length ≤ 140737488355328) (hn : bs ≠ []) :
    Calls Try.prog 41 #[v] w fun e W => ∃ a A c n, e = .returned (.tuple #[.agg #[.int .i64 a.client, .int .i64 a.number, .int .i64 a.kind, .int .i64 a.order, .int .i64 a.region, .int .i64 a.to, .int .i64 a.n, .string a.good, .slice A a.items.length c], .int .i64 n]) ∧ Rd W 2 A a.items.length (a.items.flatMap encI) ∧ Below w.heap.size w W ∧ (askT bs = some a ∧ n = 0 ∨ askT bs = none ∧ n = 10) ∧ BdL a.items ∧ a.good.size ≤ 9223372036854775807 := by
  refine (adec_any v bs w hv hl ht).mono fun e W ⟨h1, h2⟩ => ?_
  have ha : askT bs = unA bs := by unfold askT; rw [if_neg hn]
  rw [ha]
  cases hu : unA bs with
  | some a =>
    obtain ⟨A, c, he, hr, hb⟩ := h1 a hu
    have hm := (unA_iff hl a).1 hu
    have hlm := mayA_lim hm.1
    refine ⟨a, A, c, 0, he, hr, hb, .inl ⟨rfl, rfl⟩, ⟨fun z hz => ?_, ?_⟩, ?_⟩
    · have := hlm.pit z hz
      exact ⟨by omega, by omega, by omega⟩
    · have := (mayI_at hlm.c9).1; omega
    · have := hlm.c8; omega
  | none =>
    obtain ⟨he, hb⟩ := h2 hu
    refine ⟨zeroA, none, 0, 10, he, Rd.nil, hb, .inr ⟨rfl, rfl⟩, ⟨fun z hz => ?_, ?_⟩, ?_⟩
    · cases hz
    · simp [zeroA]
    · simp [zeroA]
theorem mail_there {W : World} {n : Nat} {cs : Array Value} {T : TypeId} (h : W.heap[n]? = some (.cells cs T (0, 0))) : W.there n 0 cs.size := fun j hj => by
  rw [Nat.zero_add]
  exact ⟨by rw [cell_at h j, Array.getElem?_eq_getElem hj]; rfl, frozen_at h j⟩
theorem mail_storeS {W : World} {n : Nat} {x0 x1 x2 x3 x4 x5 x6 x7 x8 x9 x10 x11 x12 x13 x14 x15 : Value} (h : W.heap[n]? = some (.cells #[x0, x1, x2, x3, x4, x5, x6, x7, x8, x9, x10, x11, x12, x13, x14, x15] 29 (0, 0))) (v0 v1 v2 v3 v4 v5 v6 v7 v8 v9 v10 v11 v12 v13 v14 v15 : Value) :
    ∃ W', W.setCells n 0 (#[v0, v1, v2, v3, v4, v5, v6, v7, v8, v9, v10, v11, v12, v13, v14, v15] : Array Value).toList = W' ∧ W'.heap[n]? = some (.cells #[v0, v1, v2, v3, v4, v5, v6, v7, v8, v9, v10, v11, v12, v13, v14, v15] 29 (0, 0)) ∧ Fr 0 [] [n] W W' ∧ (∀ B, B ≤ n → Below B W W') ∧ W.there n 0 16 := by
  obtain ⟨W', h1, h2, h3, h4, _⟩ := mail_store h v0 v1 v2 v3 v4 v5 v6 v7 v8 v9 v10 v11 v12 v13 v14 v15
  exact ⟨W', h1, h2, h3, h4, mail_there h⟩
set_option maxHeartbeats 1000000 in
/-- What is handed back, where the first result lies in a cell of its own. -/
theorem mail_results {W : World} {pr : Nat} {fn : Func} {tmps : Array Value} {x0 x1 x2 x3 x4 x5 x6 x7 x8 x9 x10 x11 x12 x13 x14 x15 y : Value} (hf : fn.results = #[.cell 2 29, .tmp 3]) (h2 : tmps.getD 2 undef = .pointer (some ⟨pr, 0, none⟩)) (h3 : tmps.getD 3 undef = y)
    (hk : W.heap[pr]? = some (.cells #[x0, x1, x2, x3, x4, x5, x6, x7, x8, x9, x10, x11, x12, x13, x14, x15] 29 (0, 0))) :
    (results fn tmps).run Try.prog W = .ok (.tuple #[.agg #[x0, x1, x2, x3, x4, x5, x6, x7, x8, x9, x10, x11, x12, x13, x14, x15], y]) W := by
  rw [Array.getD_eq_getD_getElem?] at h2 h3
  have u0 := cell_at hk 0
  have u1 := cell_at hk 1
  have u2 := cell_at hk 2
  have u3 := cell_at hk 3
  have u4 := cell_at hk 4
  have u5 := cell_at hk 5
  have u6 := cell_at hk 6
  have u7 := cell_at hk 7
  have u8 := cell_at hk 8
  have u9 := cell_at hk 9
  have u10 := cell_at hk 10
  have u11 := cell_at hk 11
  have u12 := cell_at hk 12
  have u13 := cell_at hk 13
  have u14 := cell_at hk 14
  have u15 := cell_at hk 15
  simp [results, hf, h2, h3, go_sem, u0, u1, u2, u3, u4, u5, u6, u7, u8, u9, u10, u11, u12, u13, u14, u15]
end Go.Proofs.Ytpccbobomppdbaa
