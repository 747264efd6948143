/- Package link: On. -/
import Derived.Test.YtnmbblkfaoihfaaZLY9
namespace Go.Proofs.Ytnmbblkfaoihfaa
open Go.RowKit

/-- Three stores into a result's block. -/
theorem pkt_store {W : World} {n : Nat} {x y z : Value} (h : W.heap[n]? = some (.cells #[x, y, z] 43 (0, 0))) (a b c : Value) :
    ∃ W', ((W.setCell ⟨n, 0, none⟩ a).setCell ⟨n, 1, none⟩ b).setCell ⟨n, 2, none⟩ c = W' ∧ W'.cell? ⟨n, 0, none⟩ = some a ∧ W'.cell? ⟨n, 1, none⟩ = some b ∧ W'.cell? ⟨n, 2, none⟩ = some c ∧ Fr 0 [] [n] W W' ∧ ∀ B, B ≤ n → Below B W W' := by
  have hb := block_set (block_set (block_set h 0 a) 1 b) 2 c
  refine ⟨_, rfl, ?_, ?_, ?_, (((Fr.refl W).setCell (p := ⟨n, 0, none⟩) _ (Nat.zero_le _) (.inl (by simp))).setCell (p := ⟨n, 1, none⟩) _ (Nat.zero_le _) (.inl (by simp))).setCell (p := ⟨n, 2, none⟩) _ (Nat.zero_le _) (.inl (by simp)), fun B hB => (((Below.refl B W).setCell (p := ⟨n, 0, none⟩) hB _).setCell (p := ⟨n, 1, none⟩) hB _).setCell (p := ⟨n, 2, none⟩) hB _⟩
  · have := cell_at hb 0; simpa using this
  · have := cell_at hb 1; simpa using this
  · have := cell_at hb 2; simpa using this
/-- Another mark. -/
theorem ise_mark {W : World} {p : Nat} {G : Option Nat} {s : LSt} (h : IsE W 84 80 p G s) (m : Int) : IsE (W.setCell ⟨p, 2, none⟩ (.int .i64 m)) 84 80 p G ⟨s.l, s.sent, m⟩ := by
  obtain ⟨v, hp, zs, h1, h2, h3, h4⟩ := h
  have fs : Fr 0 [] [p] W (W.setCell ⟨p, 2, none⟩ (.int .i64 m)) := (Fr.refl W).setCell (p := ⟨p, 2, none⟩) _ (Nat.zero_le _) (.inl (by simp))
  refine ⟨v, by simpa using block_set hp 2 (.int .i64 m), zs, h1, fs.own h2 (by simp) (fun k hk hm => ?_), h3, fun z hz => (h4 z hz).far fs hp (by decide)⟩
  obtain ⟨_, cs, hc⟩ := own_block h2 hk
  simp at hm
  subst hm
  rw [hp] at hc
  injection hc with e
  injection e with _ e _
  exact absurd e (by decide)
/-- The rest of the items, put in. -/
theorem ise_set0 {W : World} {p : Nat} {v0 v' : Value} {sent mark : Int} {zs : List LIm} {l : List LIt} (hp : W.heap[p]? = some (.cells #[v0, .int .i64 sent, .int .i64 mark] 80 (0, 0)))
    (ho : W.ownsRow 0 84 4 v' zs.length (zs.flatMap encL)) (hmap : zs.map (·.it) = l) (hlen : l.length = zs.length) (hb : ∀ z ∈ zs, ByO W z.bv z.it.body) :
    IsE (W.setCell ⟨p, 0, none⟩ v') 84 80 p v'.ownBlock ⟨l, sent, mark⟩ := by
  have fs : Fr 0 [] [p] W (W.setCell ⟨p, 0, none⟩ v') := (Fr.refl W).setCell (p := ⟨p, 0, none⟩) _ (Nat.zero_le _) (.inl (by simp))
  refine ⟨v', by simpa using block_set hp 0 v', zs, hmap, ?_, rfl, fun z hz => (hb z hz).far fs hp (by decide)⟩
  rw [show (⟨l, sent, mark⟩ : LSt).l.length = zs.length from hlen]
  refine fs.own ho (by simp) (fun k hk hm => ?_)
  obtain ⟨_, cs, hc⟩ := own_block ho hk
  simp at hm
  subst hm
  rw [hp] at hc
  injection hc with e
  injection e with _ e _
  exact absurd e (by decide)
theorem lon_nil (k : LPk) (A : Option Addr) (n c : Nat) (w : World) : Calls Try.prog 20 #[.pointer none, .agg #[.int .i64 k.seq, .int .i64 k.ack, .slice A n c]] w fun e w' => e = .returned (.tuple #[.slice none 0 0, .bool false, .agg #[.int .i64 0, .int .i64 0, .slice none 0 0]]) ∧ Below w.heap.size w w' := by
  go_enter Try.func20, Try.ntmps20
  go_wp2
  refine bodyPost_ret (v := .tuple #[.slice none 0 0, .bool false, .agg #[.int .i64 0, .int .i64 0, .slice none 0 0]]) (by simp [results, Try.f20, go_sem]) rfl ?_
  exact ⟨rfl, ((Below.refl _ _).alloc (Nat.le_refl _) _).alloc (by simp) _⟩
theorem byo_nil (W : World) : ByO W (.slice none 0 0) [] := ⟨⟨rfl, .inl ⟨rfl, rfl⟩⟩, by simp⟩
theorem isp_zero (W : World) : IsP W (.agg #[.int .i64 0, .int .i64 0, .slice none 0 0]) ⟨0, 0, []⟩ := ⟨_, rfl, byo_nil W⟩

set_option maxRecDepth 100000 in
set_option maxHeartbeats 4000000 in
theorem lon_not (p : Nat) (G : Option Nat) (s : LSt) (k : LPk) (A : Option Addr) (c : Nat) (w : World) (h : IsE w 84 80 p G s) (hl : k.body.length ≤ 9223372036854775807) (hm : mayL k = false) :
    Calls Try.prog 20 #[.pointer (some ⟨p, 0, none⟩), .agg #[.int .i64 k.seq, .int .i64 k.ack, .slice A k.body.length c]] w
      (RetE 84 80 p G (fun e w' => ∃ bv v3, e = .returned (.tuple #[bv, .bool false, v3]) ∧ ByO w' bv [] ∧ IsP w' v3 ⟨0, 0, []⟩) s w) := by
  have HM := Lib.hid (fun wx => hm ▸ lmay_any k A c wx hl)
  have H := Lib.hid h
  clear h hm
  go_enter Try.func20, Try.ntmps20
  go_wp2_with fail
  refine (HM.out _).mono ?_
  rintro e w1 ⟨rfl, hb1⟩
  have hbA : Below w.heap.size w ((w.alloc (.cells #[.int .i64 k.seq, .int .i64 k.ack, .slice A k.body.length c] 43)).alloc (.cells #[.int .i64 0, .int .i64 0, .slice none 0 0] 43)) := ((Below.refl _ w).alloc (Nat.le_refl _) _).alloc (by simp) _
  have hb : Below w.heap.size w w1 := hbA.trans (hb1.mono hbA.size)
  have b4 := block_new (w.alloc (.cells #[.int .i64 k.seq, .int .i64 k.ack, .slice A k.body.length c] 43)) (.cells #[.int .i64 0, .int .i64 0, .slice none 0 0] 43)
  simp only [World.size_alloc] at b4
  have n1 := (hb1.block (w.heap.size + 1) (by simp)).trans b4
  have s0 := cell_at n1 0
  have s1 := cell_at n1 1
  have s2 := cell_at n1 2
  have z0 := frozen_at n1 0
  have z1 := frozen_at n1 1
  have z2 := frozen_at n1 2
  have N1 := Lib.hid n1
  have HB := Lib.hid hb
  clear hbA b4 n1 hb1 hb
  go_wp2_with fail
  obtain ⟨W3, hW3, y0, y1, y2, f3, bl3⟩ := pkt_store N1.out (.int .i64 0) (.int .i64 0) (.slice none 0 0)
  rw [hW3]
  refine bodyPost_ret (v := .tuple #[.slice none 0 0, .bool false, .agg #[.int .i64 0, .int .i64 0, .slice none 0 0]]) (by simp [results, Try.f20, go_sem, y0, y1, y2]) rfl ?_
  have hbl := HB.out.trans (bl3 w.heap.size (by omega))
  exact ⟨G, ⟨_, _, rfl, byo_nil _, isp_zero _⟩, H.out.below hbl, Fr.of_below hbl, .inl rfl⟩

set_option maxRecDepth 100000 in
set_option maxHeartbeats 4000000 in
theorem lon_zero (p : Nat) (G : Option Nat) (s : LSt) (k : LPk) (A : Option Addr) (c : Nat) (w : World) (h : IsE w 84 80 p G s) (hl : k.body.length ≤ 2048) (hm : mayL k = true) (hz : k.seq = 0) :
    Calls Try.prog 20 #[.pointer (some ⟨p, 0, none⟩), .agg #[.int .i64 k.seq, .int .i64 k.ack, .slice A k.body.length c]] w
      (RetE 84 80 p G (fun e w' => ∃ bv v3, e = .returned (.tuple #[bv, .bool false, v3]) ∧ ByO w' bv [] ∧ IsP w' v3 ⟨0, 0, []⟩) ⟨onL s k, s.sent, s.mark⟩ w) := by
  have HM : Hid (∀ wx, Calls Try.prog 31 #[.agg #[.int .i64 k.seq, .int .i64 k.ack, .slice A k.body.length c]] wx fun e w' => e = .returned (.bool true) ∧ Below wx.heap.size wx w') := Lib.hid (fun wx => by
    have := lmay_any k A c wx (by omega)
    rw [hm] at this
    exact this)
  obtain ⟨v, h1, zs, hzs, h2, hG, h3⟩ := h
  obtain ⟨Av, cv, rfl, _, _, _, _⟩ := own_slice h2
  have hzl : zs.length = s.l.length := by rw [← hzs]; simp
  rw [← hzl] at h1 h2 hG
  clear hzl
  have hpl := lt_of_block h1
  have H1 := Lib.hid h1
  have H2 := Lib.hid h2
  have H3 := Lib.hid h3
  have HZS := Lib.hid hzs
  have HG := Lib.hid hG
  have HZ := Lib.hid hz
  clear hz
  clear h1 h2 h3 hm hzs hG
  go_enter Try.func20, Try.ntmps20
  go_wp2_with fail
  refine (HM.out _).mono ?_
  rintro e w1 ⟨rfl, hb1⟩
  have hbA : Below w.heap.size w ((w.alloc (.cells #[.int .i64 k.seq, .int .i64 k.ack, .slice A k.body.length c] 43)).alloc (.cells #[.int .i64 0, .int .i64 0, .slice none 0 0] 43)) := ((Below.refl _ w).alloc (Nat.le_refl _) _).alloc (by simp) _
  have hb : Below w.heap.size w w1 := hbA.trans (hb1.mono hbA.size)
  have b3 := block_alloc (block_new w (.cells #[.int .i64 k.seq, .int .i64 k.ack, .slice A k.body.length c] 43)) (.cells #[.int .i64 0, .int .i64 0, .slice none 0 0] 43)
  have b4 := block_new (w.alloc (.cells #[.int .i64 k.seq, .int .i64 k.ack, .slice A k.body.length c] 43)) (.cells #[.int .i64 0, .int .i64 0, .slice none 0 0] 43)
  simp only [World.size_alloc] at b4
  have n0 := (hb1.block w.heap.size (by simp; omega)).trans b3
  have n1 := (hb1.block (w.heap.size + 1) (by simp)).trans b4
  have p1 := (hb.block p hpl).trans H1.out
  have c0 := cell_at p1 0
  have ho1 := (Fr.of_below (B := 0) (T := []) (S := []) hb).own H2.out (by simp) (by simp)
  have P1 := Lib.hid p1
  have N0 := Lib.hid n0
  have N1 := Lib.hid n1
  have HB := Lib.hid hb
  have HO1 := Lib.hid ho1
  clear hbA b3 b4 n0 n1 p1 hb1 hb ho1
  go_wp2_with fail
  refine (del_any k.ack w.heap.size _ (0, 0) zs Av cv w1 HO1.out (fun z hz => (H3.out z hz).below HB.out) N0.out rfl).mono ?_
  rintro e w2 ⟨v', rfl, ho2, hG2, hf2⟩
  have hgx : ∀ x : Nat, (x = p ∨ w.heap.size ≤ x) → x ∉ (Value.slice Av zs.length cv).ownBlock.toList := fun x hx hm => by
    obtain ⟨_, cs, hc⟩ := own_block H2.out (by simpa using hm : (Value.slice Av zs.length cv).ownBlock = some x)
    rcases hx with rfl | hx
    · rw [H1.out] at hc
      injection hc with e
      injection e with _ e _
      exact absurd e (by decide)
    · have := lt_of_block hc
      omega
  have p2 := (hf2.block p (lt_of_block P1.out) (.inr ⟨fun _ _ _ _ => by simp, hgx p (.inl rfl)⟩)).trans P1.out
  have n0 := (hf2.block _ (lt_of_block N0.out) (.inr ⟨fun _ _ _ _ => by simp, hgx _ (.inr (Nat.le_refl _))⟩)).trans N0.out
  have n1 := (hf2.block _ (lt_of_block N1.out) (.inr ⟨fun _ _ _ _ => by simp, hgx _ (.inr (by omega))⟩)).trans N1.out
  obtain ⟨A2, c2, rfl, _, _, _, _⟩ := own_slice ho2
  have hby2 : ∀ z ∈ zs, ByO w2 z.bv z.it.body := fun z hz => byo_fr P1.out (by decide) HO1.out (by decide) (hf2.mono (Nat.le_refl _) (fun _ h => h) (fun k hk => List.mem_cons_of_mem _ hk)) ((H3.out z hz).below HB.out)
  have hmap : (zs.filter (keepL k.ack)).map (·.it) = onL s k := by
    unfold onL
    rw [← HZS.out, List.filter_map]
    rfl
  have hlen2 : (onL s k).length = (zs.filter (keepL k.ack)).length := by rw [← hmap]; simp
  have c0 := cell_at p2 0
  have c2' := cell_at p2 2
  have f0 := frozen_at p2 0
  have f2 := frozen_at p2 2
  have d0 := cell_at n0 0
  have d2 := cell_at n0 2
  have s0 := cell_at n1 0
  have s1 := cell_at n1 1
  have s2 := cell_at n1 2
  have z0 := frozen_at n1 0
  have z1 := frozen_at n1 1
  have z2 := frozen_at n1 2
  have fa : Fr 0 [] (p :: G.toList) w w2 := by
    rw [← HG.out]
    exact (Fr.of_below HB.out).trans (hf2.mono (Nat.le_refl _) (fun _ h => h) (fun k hk => List.mem_cons_of_mem _ hk))
  have FA := Lib.hid fa
  have P2 := Lib.hid p2
  have N02 := Lib.hid n0
  have N12 := Lib.hid n1
  have HO2 := Lib.hid ho2
  have HG2 := Lib.hid hG2
  have HBY := Lib.hid hby2
  have HMAP := Lib.hid hmap
  have HLEN := Lib.hid hlen2
  have hpn0 : p ≠ w.heap.size := by omega
  have hpn1 : p ≠ w.heap.size + 1 := by omega
  clear fa p2 n0 n1 ho2 hG2 hf2 hgx hby2 hmap hlen2
  have hz' : (k.seq == 0) = true := by simp [HZ.out]
  go_wp2_with fail
  have hE := ise_set0 P2.out HO2.out HMAP.out HLEN.out (fun z hz => HBY.out z (List.mem_filter.1 hz).1)
  have fE : Fr 0 [] (p :: G.toList) w (w2.setCell ⟨p, 0, none⟩ (.slice A2 (zs.filter (keepL k.ack)).length c2)) := FA.out.setCell (p := ⟨p, 0, none⟩) _ (Nat.zero_le _) (.inl (by simp))
  have hk3 := block_far N12.out (p := ⟨p, 0, none⟩) (by simpa using hpn1.symm) (.slice A2 (zs.filter (keepL k.ack)).length c2)
  obtain ⟨W3, hW3, y0, y1, y2, f3, bl3⟩ := pkt_store hk3 (.int .i64 0) (.int .i64 0) (.slice none 0 0)
  rw [hW3]
  refine bodyPost_ret (v := .tuple #[.slice none 0 0, .bool false, .agg #[.int .i64 0, .int .i64 0, .slice none 0 0]]) (by simp [results, Try.f20, go_sem, y0, y1, y2]) rfl ?_
  have hE3 := hE.far f3 hk3 (by decide) (by decide) (by decide)
  rw [HG2.out, HG.out] at hE3
  exact ⟨G, ⟨_, _, rfl, byo_nil _, isp_zero _⟩, hE3, fE.thenB (bl3 w.heap.size (by omega)), .inl rfl⟩

set_option maxRecDepth 100000 in
set_option maxHeartbeats 4000000 in
theorem lon_other (p : Nat) (G : Option Nat) (s : LSt) (k : LPk) (A : Option Addr) (c : Nat) (w : World) (h : IsE w 84 80 p G s) (hl : k.body.length ≤ 2048) (hm : mayL k = true) (hmk : 0 ≤ s.mark ∧ s.mark < 9223372036854775807) (hz : k.seq ≠ 0) (hne : k.seq ≠ s.mark + 1) :
    Calls Try.prog 20 #[.pointer (some ⟨p, 0, none⟩), .agg #[.int .i64 k.seq, .int .i64 k.ack, .slice A k.body.length c]] w
      (RetE 84 80 p G (fun e w' => ∃ bv v3, e = .returned (.tuple #[bv, .bool false, v3]) ∧ ByO w' bv [] ∧ IsP w' v3 ⟨0, s.mark, []⟩) ⟨onL s k, s.sent, s.mark⟩ w) := by
  have HM : Hid (∀ wx, Calls Try.prog 31 #[.agg #[.int .i64 k.seq, .int .i64 k.ack, .slice A k.body.length c]] wx fun e w' => e = .returned (.bool true) ∧ Below wx.heap.size wx w') := Lib.hid (fun wx => by
    have := lmay_any k A c wx (by omega)
    rw [hm] at this
    exact this)
  obtain ⟨v, h1, zs, hzs, h2, hG, h3⟩ := h
  obtain ⟨Av, cv, rfl, _, _, _, _⟩ := own_slice h2
  have hzl : zs.length = s.l.length := by rw [← hzs]; simp
  rw [← hzl] at h1 h2 hG
  clear hzl
  have hpl := lt_of_block h1
  have H1 := Lib.hid h1
  have H2 := Lib.hid h2
  have H3 := Lib.hid h3
  have HZS := Lib.hid hzs
  have HG := Lib.hid hG
  have HZ := Lib.hid hz
  have HNE := Lib.hid hne
  clear hz hne
  clear h1 h2 h3 hm hzs hG
  go_enter Try.func20, Try.ntmps20
  go_wp2_with fail
  refine (HM.out _).mono ?_
  rintro e w1 ⟨rfl, hb1⟩
  have hbA : Below w.heap.size w ((w.alloc (.cells #[.int .i64 k.seq, .int .i64 k.ack, .slice A k.body.length c] 43)).alloc (.cells #[.int .i64 0, .int .i64 0, .slice none 0 0] 43)) := ((Below.refl _ w).alloc (Nat.le_refl _) _).alloc (by simp) _
  have hb : Below w.heap.size w w1 := hbA.trans (hb1.mono hbA.size)
  have b3 := block_alloc (block_new w (.cells #[.int .i64 k.seq, .int .i64 k.ack, .slice A k.body.length c] 43)) (.cells #[.int .i64 0, .int .i64 0, .slice none 0 0] 43)
  have b4 := block_new (w.alloc (.cells #[.int .i64 k.seq, .int .i64 k.ack, .slice A k.body.length c] 43)) (.cells #[.int .i64 0, .int .i64 0, .slice none 0 0] 43)
  simp only [World.size_alloc] at b4
  have n0 := (hb1.block w.heap.size (by simp; omega)).trans b3
  have n1 := (hb1.block (w.heap.size + 1) (by simp)).trans b4
  have p1 := (hb.block p hpl).trans H1.out
  have c0 := cell_at p1 0
  have ho1 := (Fr.of_below (B := 0) (T := []) (S := []) hb).own H2.out (by simp) (by simp)
  have P1 := Lib.hid p1
  have N0 := Lib.hid n0
  have N1 := Lib.hid n1
  have HB := Lib.hid hb
  have HO1 := Lib.hid ho1
  clear hbA b3 b4 n0 n1 p1 hb1 hb ho1
  go_wp2_with fail
  refine (del_any k.ack w.heap.size _ (0, 0) zs Av cv w1 HO1.out (fun z hz => (H3.out z hz).below HB.out) N0.out rfl).mono ?_
  rintro e w2 ⟨v', rfl, ho2, hG2, hf2⟩
  have hgx : ∀ x : Nat, (x = p ∨ w.heap.size ≤ x) → x ∉ (Value.slice Av zs.length cv).ownBlock.toList := fun x hx hm => by
    obtain ⟨_, cs, hc⟩ := own_block H2.out (by simpa using hm : (Value.slice Av zs.length cv).ownBlock = some x)
    rcases hx with rfl | hx
    · rw [H1.out] at hc
      injection hc with e
      injection e with _ e _
      exact absurd e (by decide)
    · have := lt_of_block hc
      omega
  have p2 := (hf2.block p (lt_of_block P1.out) (.inr ⟨fun _ _ _ _ => by simp, hgx p (.inl rfl)⟩)).trans P1.out
  have n0 := (hf2.block _ (lt_of_block N0.out) (.inr ⟨fun _ _ _ _ => by simp, hgx _ (.inr (Nat.le_refl _))⟩)).trans N0.out
  have n1 := (hf2.block _ (lt_of_block N1.out) (.inr ⟨fun _ _ _ _ => by simp, hgx _ (.inr (by omega))⟩)).trans N1.out
  obtain ⟨A2, c2, rfl, _, _, _, _⟩ := own_slice ho2
  have hby2 : ∀ z ∈ zs, ByO w2 z.bv z.it.body := fun z hz => byo_fr P1.out (by decide) HO1.out (by decide) (hf2.mono (Nat.le_refl _) (fun _ h => h) (fun k hk => List.mem_cons_of_mem _ hk)) ((H3.out z hz).below HB.out)
  have hmap : (zs.filter (keepL k.ack)).map (·.it) = onL s k := by
    unfold onL
    rw [← HZS.out, List.filter_map]
    rfl
  have hlen2 : (onL s k).length = (zs.filter (keepL k.ack)).length := by rw [← hmap]; simp
  have c0 := cell_at p2 0
  have c2' := cell_at p2 2
  have f0 := frozen_at p2 0
  have f2 := frozen_at p2 2
  have d0 := cell_at n0 0
  have d2 := cell_at n0 2
  have s0 := cell_at n1 0
  have s1 := cell_at n1 1
  have s2 := cell_at n1 2
  have z0 := frozen_at n1 0
  have z1 := frozen_at n1 1
  have z2 := frozen_at n1 2
  have fa : Fr 0 [] (p :: G.toList) w w2 := by
    rw [← HG.out]
    exact (Fr.of_below HB.out).trans (hf2.mono (Nat.le_refl _) (fun _ h => h) (fun k hk => List.mem_cons_of_mem _ hk))
  have FA := Lib.hid fa
  have P2 := Lib.hid p2
  have N02 := Lib.hid n0
  have N12 := Lib.hid n1
  have HO2 := Lib.hid ho2
  have HG2 := Lib.hid hG2
  have HBY := Lib.hid hby2
  have HMAP := Lib.hid hmap
  have HLEN := Lib.hid hlen2
  have hpn0 : p ≠ w.heap.size := by omega
  have hpn1 : p ≠ w.heap.size + 1 := by omega
  clear fa p2 n0 n1 ho2 hG2 hf2 hgx hby2 hmap hlen2
  have hz' : (k.seq == 0) = false := by simp [HZ.out]
  have hnx : IntKind.i64.wrap (s.mark + 1) = s.mark + 1 := IntWalk.i64_in _ (by omega)
  have hq : (k.seq == s.mark + 1) = false := by simp [HNE.out]
  go_wp2_with fail
  have hE := ise_set0 P2.out HO2.out HMAP.out HLEN.out (fun z hz => HBY.out z (List.mem_filter.1 hz).1)
  have fE : Fr 0 [] (p :: G.toList) w (w2.setCell ⟨p, 0, none⟩ (.slice A2 (zs.filter (keepL k.ack)).length c2)) := FA.out.setCell (p := ⟨p, 0, none⟩) _ (Nat.zero_le _) (.inl (by simp))
  have hk3 := block_far N12.out (p := ⟨p, 0, none⟩) (by simpa using hpn1.symm) (.slice A2 (zs.filter (keepL k.ack)).length c2)
  have hp3 := block_set P2.out 0 (.slice A2 (zs.filter (keepL k.ack)).length c2)
  obtain ⟨W0, hW0⟩ : ∃ W0, w2.setCell ⟨p, 0, none⟩ (.slice A2 (zs.filter (keepL k.ack)).length c2) = W0 := ⟨_, rfl⟩
  rw [hW0] at hE fE hk3 hp3 ⊢
  have hm3 := cell_at hp3 2
  simp at hm3
  have hs3 := lt_of_block hp3
  have HE := Lib.hid hE
  have FE := Lib.hid fE
  have HK3 := Lib.hid hk3
  clear hE fE hk3 hp3 hW0
  refine wp_region_flow (fun W => Below W0.heap.size W0 W) [0, 1, 2, 3, 4, 5, 6, 7] (by kernel_rfl) (by kernel_rfl) (by kernel_rfl) ((Below.refl _ W0).drew) ?_
  refine flow_val ?_ rfl (by kernel_rfl) (by rfl) (fun W hW => ?_) ?_
  rotate_left 1
  · go_simp <;> with_reducible rfl
  simp only [Act.put, List.setIfInBounds_toArray, List.set_cons_succ, List.set_cons_zero]
  refine flow_val ?_ rfl (by kernel_rfl) (by rfl) (fun W hW => ?_) ?_
  rotate_left 1
  · go_simp <;> with_reducible rfl
  simp only [Act.put, List.setIfInBounds_toArray, List.set_cons_succ, List.set_cons_zero]
  refine flow_val ?_ rfl (by kernel_rfl) (by rfl) (fun W hW => ?_) ?_
  rotate_left 1
  · go_simp <;> with_reducible rfl
  simp only [Act.put, List.setIfInBounds_toArray, List.set_cons_succ, List.set_cons_zero]
  refine flow_val ?_ rfl (by kernel_rfl) (by rfl) (fun W hW => ?_) ?_
  rotate_left 1
  · have c1 : W.cell? ⟨p, 2, none⟩ = some (.int .i64 s.mark) := (hW.cell (p := ⟨p, 2, none⟩) (hs3)).trans (hm3); go_simp <;> with_reducible rfl
  simp only [Act.put, List.setIfInBounds_toArray, List.set_cons_succ, List.set_cons_zero]
  refine flow_val ?_ rfl (by kernel_rfl) (by rfl) (fun W hW => ?_) ?_
  rotate_left 1
  · go_simp <;> with_reducible rfl
  simp only [Act.put, List.setIfInBounds_toArray, List.set_cons_succ, List.set_cons_zero]
  refine flow_val ?_ rfl (by kernel_rfl) (by rfl) (fun W hW => ?_) ?_
  rotate_left 1
  · go_simp <;> with_reducible rfl
  simp only [Act.put, List.setIfInBounds_toArray, List.set_cons_succ, List.set_cons_zero]
  refine flow_val ?_ rfl (by kernel_rfl) (by rfl) (fun W hW => ?_) ?_
  rotate_left 1
  · go_simp <;> with_reducible rfl
  simp only [Act.put, List.setIfInBounds_toArray, List.set_cons_succ, List.set_cons_zero]
  refine flow_bar (fun W => W.heap[w.heap.size + 1]? = some (.cells #[.int .i64 0, .int .i64 (s.mark), .slice none 0 0] 43 (0, 0)) ∧ IsE W 84 80 p (Value.slice A2 (zs.filter (keepL k.ack)).length c2).ownBlock ⟨onL s k, s.sent, s.mark⟩ ∧ Fr 0 [] (p :: G.toList) w W ) (fun _ => True) rfl (by kernel_rfl) (by rfl) (by kernel_rfl) (by kernel_rfl) (fun W hW hC => ?_) ?_
  · obtain hW := hW
    have hk4 := (hW.block _ (lt_of_block HK3.out)).trans HK3.out
    have q0 := cell_at hk4 0
    have q1 := cell_at hk4 1
    have q2 := cell_at hk4 2
    have g0 := frozen_at hk4 0
    have g1 := frozen_at hk4 1
    have g2 := frozen_at hk4 2
    have HK4 := Lib.hid hk4
    have HWW := Lib.hid hW
    clear hk4 hW
    refine ⟨_, by go_simp <;> with_reducible rfl, ⟨?_, ?_, ?_ ⟩, trivial⟩
    · simpa using block_set (block_set (block_set HK4.out 0 (.int .i64 0)) 1 (.int .i64 (s.mark))) 2 (.slice none 0 0)
    · obtain ⟨W5, hW5, _, _, _, f5, _⟩ := pkt_store HK4.out (.int .i64 0) (.int .i64 (s.mark)) (.slice none 0 0)
      rw [hW5]
      exact (HE.out.below HWW.out).far f5 HK4.out (by decide) (by decide) (by decide)
    · obtain ⟨W5, hW5, _, _, _, _, bl5⟩ := pkt_store HK4.out (.int .i64 0) (.int .i64 (s.mark)) (.slice none 0 0)
      rw [hW5]
      exact (FE.out.then HWW.out).thenB (bl5 w.heap.size (by omega))
  refine flow_done2 ?_
  rintro W ⟨⟨r1, r2, r3 ⟩, _⟩ _
  have y0 := cell_at r1 0
  have y1 := cell_at r1 1
  have y2 := cell_at r1 2
  clear r1
  go_wp2
  refine bodyPost_ret (v := .tuple #[.slice none 0 0, .bool false, .agg #[.int .i64 0, .int .i64 (s.mark), .slice none 0 0]]) (by simp [results, Try.f20, go_sem, y0, y1, y2]) rfl ?_
  rw [HG2.out, HG.out] at r2
  exact ⟨G, ⟨_, _, rfl, byo_nil _, ⟨_, rfl, byo_nil _⟩⟩, r2, r3, .inl rfl⟩

set_option maxRecDepth 100000 in
set_option maxHeartbeats 4000000 in
theorem lon_next (p : Nat) (G : Option Nat) (s : LSt) (k : LPk) (A : Option Addr) (c : Nat) (w : World) (h : IsE w 84 80 p G s) (hl : k.body.length ≤ 2048) (hm : mayL k = true) (hmk : 0 ≤ s.mark ∧ s.mark < 9223372036854775807) (hb : ∀ W', Fr 0 [] (p :: G.toList) w W' → Bs W' (.slice A k.body.length c) k.body) (h256 : ∀ b ∈ k.body, b < 256) (hz : k.seq ≠ 0) (hne : k.seq = s.mark + 1) :
    Calls Try.prog 20 #[.pointer (some ⟨p, 0, none⟩), .agg #[.int .i64 k.seq, .int .i64 k.ack, .slice A k.body.length c]] w
      (RetE 84 80 p G (fun e w' => ∃ bv v3, e = .returned (.tuple #[bv, .bool true, v3]) ∧ ByO w' bv k.body ∧ IsP w' v3 ⟨0, s.mark + 1, []⟩) ⟨onL s k, s.sent, s.mark + 1⟩ w) := by
  have HM : Hid (∀ wx, Calls Try.prog 31 #[.agg #[.int .i64 k.seq, .int .i64 k.ack, .slice A k.body.length c]] wx fun e w' => e = .returned (.bool true) ∧ Below wx.heap.size wx w') := Lib.hid (fun wx => by
    have := lmay_any k A c wx (by omega)
    rw [hm] at this
    exact this)
  obtain ⟨v, h1, zs, hzs, h2, hG, h3⟩ := h
  obtain ⟨Av, cv, rfl, _, _, _, _⟩ := own_slice h2
  have hzl : zs.length = s.l.length := by rw [← hzs]; simp
  rw [← hzl] at h1 h2 hG
  clear hzl
  have hpl := lt_of_block h1
  have H1 := Lib.hid h1
  have H2 := Lib.hid h2
  have H3 := Lib.hid h3
  have HZS := Lib.hid hzs
  have HG := Lib.hid hG
  have HZ := Lib.hid hz
  have HNE := Lib.hid hne
  have HBs := Lib.hid hb
  have H256 := Lib.hid h256
  clear hz hne hb h256
  clear h1 h2 h3 hm hzs hG
  go_enter Try.func20, Try.ntmps20
  go_wp2_with fail
  refine (HM.out _).mono ?_
  rintro e w1 ⟨rfl, hb1⟩
  have hbA : Below w.heap.size w ((w.alloc (.cells #[.int .i64 k.seq, .int .i64 k.ack, .slice A k.body.length c] 43)).alloc (.cells #[.int .i64 0, .int .i64 0, .slice none 0 0] 43)) := ((Below.refl _ w).alloc (Nat.le_refl _) _).alloc (by simp) _
  have hb : Below w.heap.size w w1 := hbA.trans (hb1.mono hbA.size)
  have b3 := block_alloc (block_new w (.cells #[.int .i64 k.seq, .int .i64 k.ack, .slice A k.body.length c] 43)) (.cells #[.int .i64 0, .int .i64 0, .slice none 0 0] 43)
  have b4 := block_new (w.alloc (.cells #[.int .i64 k.seq, .int .i64 k.ack, .slice A k.body.length c] 43)) (.cells #[.int .i64 0, .int .i64 0, .slice none 0 0] 43)
  simp only [World.size_alloc] at b4
  have n0 := (hb1.block w.heap.size (by simp; omega)).trans b3
  have n1 := (hb1.block (w.heap.size + 1) (by simp)).trans b4
  have p1 := (hb.block p hpl).trans H1.out
  have c0 := cell_at p1 0
  have ho1 := (Fr.of_below (B := 0) (T := []) (S := []) hb).own H2.out (by simp) (by simp)
  have P1 := Lib.hid p1
  have N0 := Lib.hid n0
  have N1 := Lib.hid n1
  have HB := Lib.hid hb
  have HO1 := Lib.hid ho1
  clear hbA b3 b4 n0 n1 p1 hb1 hb ho1
  go_wp2_with fail
  refine (del_any k.ack w.heap.size _ (0, 0) zs Av cv w1 HO1.out (fun z hz => (H3.out z hz).below HB.out) N0.out rfl).mono ?_
  rintro e w2 ⟨v', rfl, ho2, hG2, hf2⟩
  have hgx : ∀ x : Nat, (x = p ∨ w.heap.size ≤ x) → x ∉ (Value.slice Av zs.length cv).ownBlock.toList := fun x hx hm => by
    obtain ⟨_, cs, hc⟩ := own_block H2.out (by simpa using hm : (Value.slice Av zs.length cv).ownBlock = some x)
    rcases hx with rfl | hx
    · rw [H1.out] at hc
      injection hc with e
      injection e with _ e _
      exact absurd e (by decide)
    · have := lt_of_block hc
      omega
  have p2 := (hf2.block p (lt_of_block P1.out) (.inr ⟨fun _ _ _ _ => by simp, hgx p (.inl rfl)⟩)).trans P1.out
  have n0 := (hf2.block _ (lt_of_block N0.out) (.inr ⟨fun _ _ _ _ => by simp, hgx _ (.inr (Nat.le_refl _))⟩)).trans N0.out
  have n1 := (hf2.block _ (lt_of_block N1.out) (.inr ⟨fun _ _ _ _ => by simp, hgx _ (.inr (by omega))⟩)).trans N1.out
  obtain ⟨A2, c2, rfl, _, _, _, _⟩ := own_slice ho2
  have hby2 : ∀ z ∈ zs, ByO w2 z.bv z.it.body := fun z hz => byo_fr P1.out (by decide) HO1.out (by decide) (hf2.mono (Nat.le_refl _) (fun _ h => h) (fun k hk => List.mem_cons_of_mem _ hk)) ((H3.out z hz).below HB.out)
  have hmap : (zs.filter (keepL k.ack)).map (·.it) = onL s k := by
    unfold onL
    rw [← HZS.out, List.filter_map]
    rfl
  have hlen2 : (onL s k).length = (zs.filter (keepL k.ack)).length := by rw [← hmap]; simp
  have c0 := cell_at p2 0
  have c2' := cell_at p2 2
  have f0 := frozen_at p2 0
  have f2 := frozen_at p2 2
  have d0 := cell_at n0 0
  have d2 := cell_at n0 2
  have s0 := cell_at n1 0
  have s1 := cell_at n1 1
  have s2 := cell_at n1 2
  have z0 := frozen_at n1 0
  have z1 := frozen_at n1 1
  have z2 := frozen_at n1 2
  have fa : Fr 0 [] (p :: G.toList) w w2 := by
    rw [← HG.out]
    exact (Fr.of_below HB.out).trans (hf2.mono (Nat.le_refl _) (fun _ h => h) (fun k hk => List.mem_cons_of_mem _ hk))
  have FA := Lib.hid fa
  have P2 := Lib.hid p2
  have N02 := Lib.hid n0
  have N12 := Lib.hid n1
  have HO2 := Lib.hid ho2
  have HG2 := Lib.hid hG2
  have HBY := Lib.hid hby2
  have HMAP := Lib.hid hmap
  have HLEN := Lib.hid hlen2
  have hpn0 : p ≠ w.heap.size := by omega
  have hpn1 : p ≠ w.heap.size + 1 := by omega
  clear fa p2 n0 n1 ho2 hG2 hf2 hgx hby2 hmap hlen2
  have hz' : (k.seq == 0) = false := by simp [HZ.out]
  have hnx : IntKind.i64.wrap (s.mark + 1) = s.mark + 1 := IntWalk.i64_in _ (by omega)
  have hq : (k.seq == s.mark + 1) = true := by simp [HNE.out]
  have hmx : s.mark + 1 ≤ 9223372036854775807 := by omega
  go_wp2_with fail
  have hE0 := ise_set0 P2.out HO2.out HMAP.out HLEN.out (fun z hz => HBY.out z (List.mem_filter.1 hz).1)
  have hk30 := block_far N12.out (p := ⟨p, 0, none⟩) (by simpa using hpn1.symm) (.slice A2 (zs.filter (keepL k.ack)).length c2)
  have hn30 := block_far N02.out (p := ⟨p, 0, none⟩) (by simpa using hpn0.symm) (.slice A2 (zs.filter (keepL k.ack)).length c2)
  have fE : Fr 0 [] (p :: G.toList) w ((w2.setCell ⟨p, 0, none⟩ (.slice A2 (zs.filter (keepL k.ack)).length c2)).setCell ⟨p, 2, none⟩ (.int .i64 (s.mark + 1))) := (FA.out.setCell (p := ⟨p, 0, none⟩) _ (Nat.zero_le _) (.inl (by simp))).setCell (p := ⟨p, 2, none⟩) _ (Nat.zero_le _) (.inl (by simp))
  have hE := ise_mark hE0 (s.mark + 1)
  have hk3 := block_far hk30 (p := ⟨p, 2, none⟩) (by simpa using hpn1.symm) (.int .i64 (s.mark + 1))
  have hn3 := block_far hn30 (p := ⟨p, 2, none⟩) (by simpa using hpn0.symm) (.int .i64 (s.mark + 1))
  have hp3 := block_set (block_set P2.out 0 (.slice A2 (zs.filter (keepL k.ack)).length c2)) 2 (.int .i64 (s.mark + 1))
  obtain ⟨W0, hW0⟩ : ∃ W0, (w2.setCell ⟨p, 0, none⟩ (.slice A2 (zs.filter (keepL k.ack)).length c2)).setCell ⟨p, 2, none⟩ (.int .i64 (s.mark + 1)) = W0 := ⟨_, rfl⟩
  rw [hW0] at hE fE hk3 hn3 hp3 ⊢
  have hm3 := cell_at hp3 2
  simp at hm3
  have hs3 := lt_of_block hp3
  have hsn := lt_of_block hn3
  have hb3 := cell_at hn3 2
  have HE := Lib.hid hE
  have FE := Lib.hid fE
  have HK3 := Lib.hid hk3
  clear hE fE hk3 hp3 hn3 hW0 hE0 hk30 hn30
  refine wp_region_flow (fun W => Below W0.heap.size W0 W) [0, 1, 3, 4, 5, 6, 7, 2, 8, 9, 10] (by kernel_rfl) (by kernel_rfl) (by kernel_rfl) ((Below.refl _ W0).drew) ?_
  refine flow_val ?_ rfl (by kernel_rfl) (by rfl) (fun W hW => ?_) ?_
  rotate_left 1
  · go_simp <;> with_reducible rfl
  simp only [Act.put, List.setIfInBounds_toArray, List.set_cons_succ, List.set_cons_zero]
  refine flow_val ?_ rfl (by kernel_rfl) (by rfl) (fun W hW => ?_) ?_
  rotate_left 1
  · have c1 : W.cell? ⟨w.heap.size, 2, none⟩ = some (.slice A k.body.length c) := (hW.cell (p := ⟨w.heap.size, 2, none⟩) (hsn)).trans (hb3); go_simp <;> with_reducible rfl
  simp only [Act.put, List.setIfInBounds_toArray, List.set_cons_succ, List.set_cons_zero]
  refine flow_val ?_ rfl (by kernel_rfl) (by rfl) (fun W hW => ?_) ?_
  rotate_left 1
  · go_simp <;> with_reducible rfl
  simp only [Act.put, List.setIfInBounds_toArray, List.set_cons_succ, List.set_cons_zero]
  refine flow_val ?_ rfl (by kernel_rfl) (by rfl) (fun W hW => ?_) ?_
  rotate_left 1
  · go_simp <;> with_reducible rfl
  simp only [Act.put, List.setIfInBounds_toArray, List.set_cons_succ, List.set_cons_zero]
  refine flow_val ?_ rfl (by kernel_rfl) (by rfl) (fun W hW => ?_) ?_
  rotate_left 1
  · go_simp <;> with_reducible rfl
  simp only [Act.put, List.setIfInBounds_toArray, List.set_cons_succ, List.set_cons_zero]
  refine flow_val ?_ rfl (by kernel_rfl) (by rfl) (fun W hW => ?_) ?_
  rotate_left 1
  · have c1 : W.cell? ⟨p, 2, none⟩ = some (.int .i64 (s.mark + 1)) := (hW.cell (p := ⟨p, 2, none⟩) (hs3)).trans (hm3); go_simp <;> with_reducible rfl
  simp only [Act.put, List.setIfInBounds_toArray, List.set_cons_succ, List.set_cons_zero]
  refine flow_val ?_ rfl (by kernel_rfl) (by rfl) (fun W hW => ?_) ?_
  rotate_left 1
  · go_simp <;> with_reducible rfl
  simp only [Act.put, List.setIfInBounds_toArray, List.set_cons_succ, List.set_cons_zero]
  refine flow_gcall (fun v W => ByO W v k.body) rfl (by kernel_rfl) (by rfl) (by kernel_rfl) (fun W hW _ => ⟨_, _, _, by go_simp, (clone_any (.slice A k.body.length c) k.body W (HBs.out W (FE.out.then hW)) (by omega)).mono fun e w1 ⟨v, he, hv, hb1⟩ => ⟨v, he, hW.trans (hb1.mono hW.size), RowU.of (own_low hv (Nat.zero_le _)), H256.out⟩⟩) ?_
  rintro v45 ⟨_, _, hv45, _⟩
  simp only [Act.put, List.setIfInBounds_toArray, List.set_cons_succ, List.set_cons_zero]
  obtain ⟨A45, c45, rfl, _, _, _, _⟩ := RowU.slice hv45
  clear hv45
  refine flow_val ?_ rfl (by kernel_rfl) (by rfl) (fun W hW => ?_) ?_
  rotate_left 1
  · go_simp <;> with_reducible rfl
  simp only [Act.put, List.setIfInBounds_toArray, List.set_cons_succ, List.set_cons_zero]
  refine flow_val ?_ rfl (by kernel_rfl) (by rfl) (fun W hW => ?_) ?_
  rotate_left 1
  · go_simp <;> with_reducible rfl
  simp only [Act.put, List.setIfInBounds_toArray, List.set_cons_succ, List.set_cons_zero]
  refine flow_bar (fun W => W.heap[w.heap.size + 1]? = some (.cells #[.int .i64 0, .int .i64 (s.mark + 1), .slice none 0 0] 43 (0, 0)) ∧ IsE W 84 80 p (Value.slice A2 (zs.filter (keepL k.ack)).length c2).ownBlock ⟨onL s k, s.sent, s.mark + 1⟩ ∧ Fr 0 [] (p :: G.toList) w W ∧ ByO W (.slice A45 k.body.length c45) k.body) (fun _ => True) rfl (by kernel_rfl) (by rfl) (by kernel_rfl) (by kernel_rfl) (fun W hW hC => ?_) ?_
  · obtain hW := hW.1
    have hk4 := (hW.block _ (lt_of_block HK3.out)).trans HK3.out
    have q0 := cell_at hk4 0
    have q1 := cell_at hk4 1
    have q2 := cell_at hk4 2
    have g0 := frozen_at hk4 0
    have g1 := frozen_at hk4 1
    have g2 := frozen_at hk4 2
    have HK4 := Lib.hid hk4
    have HWW := Lib.hid hW
    have HC45 := Lib.hid hC
    clear hC
    clear hk4 hW
    refine ⟨_, by go_simp <;> with_reducible rfl, ⟨?_, ?_, ?_ , ?_⟩, trivial⟩
    · simpa using block_set (block_set (block_set HK4.out 0 (.int .i64 0)) 1 (.int .i64 (s.mark + 1))) 2 (.slice none 0 0)
    · obtain ⟨W5, hW5, _, _, _, f5, _⟩ := pkt_store HK4.out (.int .i64 0) (.int .i64 (s.mark + 1)) (.slice none 0 0)
      rw [hW5]
      exact (HE.out.below HWW.out).far f5 HK4.out (by decide) (by decide) (by decide)
    · obtain ⟨W5, hW5, _, _, _, _, bl5⟩ := pkt_store HK4.out (.int .i64 0) (.int .i64 (s.mark + 1)) (.slice none 0 0)
      rw [hW5]
      exact (FE.out.then HWW.out).thenB (bl5 w.heap.size (by omega))
    · obtain ⟨W5, hW5, _, _, _, f5, _⟩ := pkt_store HK4.out (.int .i64 0) (.int .i64 (s.mark + 1)) (.slice none 0 0)
      rw [hW5]
      exact HC45.out.far f5 HK4.out (by decide)
  refine flow_done2 ?_
  rintro W ⟨⟨r1, r2, r3 , r4⟩, _⟩ _
  have y0 := cell_at r1 0
  have y1 := cell_at r1 1
  have y2 := cell_at r1 2
  clear r1
  go_wp2
  refine bodyPost_ret (v := .tuple #[.slice A45 k.body.length c45, .bool true, .agg #[.int .i64 0, .int .i64 (s.mark + 1), .slice none 0 0]]) (by simp [results, Try.f20, go_sem, y0, y1, y2]) rfl ?_
  rw [HG2.out, HG.out] at r2
  exact ⟨G, ⟨_, _, rfl, r4, ⟨_, rfl, byo_nil _⟩⟩, r2, r3, .inl rfl⟩

/-- What On answers, whatever comes. -/
theorem lon_any (p : Nat) (G : Option Nat) (s : LSt) (k : LPk) (A : Option Addr) (c : Nat) (w : World) (h : IsE w 84 80 p G s) (hl : k.body.length ≤ 9223372036854775807) (hmk : 0 ≤ s.mark ∧ s.mark < 9223372036854775807)
    (hb : ∀ W', Fr 0 [] (p :: G.toList) w W' → Bs W' (.slice A k.body.length c) k.body) (h256 : ∀ b ∈ k.body, b < 256) :
    Calls Try.prog 20 #[.pointer (some ⟨p, 0, none⟩), .agg #[.int .i64 k.seq, .int .i64 k.ack, .slice A k.body.length c]] w
      (RetE 84 80 p G (fun e w' => ∃ bv v3, e = .returned (.tuple #[bv, .bool (onI s k), v3]) ∧ ByO w' bv (onB s k) ∧ IsP w' v3 (onP s k)) (onS s k) w) := by
  cases hm : mayL k with
  | false =>
    have e1 : onI s k = false := by simp [onI, hm]
    have e2 : onB s k = [] := by simp [onB, hm]
    have e3 : onP s k = ⟨0, 0, []⟩ := by simp [onP, hm]
    have e4 : onS s k = s := by simp [onS, hm]
    rw [e1, e2, e3, e4]
    exact lon_not p G s k A c w h hl hm
  | true =>
    have hbl : k.body.length ≤ 2048 := by
      simp only [mayL, Bool.and_eq_true, decide_eq_true_eq] at hm
      exact hm.1.2
    by_cases hz : k.seq = 0
    · have e1 : onI s k = false := by simp [onI, hz]
      have e2 : onB s k = [] := by simp [onB, hz]
      have e3 : onP s k = ⟨0, 0, []⟩ := by simp [onP, hz]
      have e4 : onS s k = ⟨onL s k, s.sent, s.mark⟩ := by simp [onS, hm, hz]
      rw [e1, e2, e3, e4]
      exact lon_zero p G s k A c w h hbl hm hz
    · by_cases hne : k.seq = s.mark + 1
      · have e1 : onI s k = true := by simp [onI, hm, hz, ← hne]
        have e2 : onB s k = k.body := by simp [onB, hm, hz, ← hne]
        have e4 : onS s k = ⟨onL s k, s.sent, s.mark + 1⟩ := by simp [onS, hm, hz, ← hne]
        have e3 : onP s k = ⟨0, s.mark + 1, []⟩ := by unfold onP; rw [if_pos ⟨hm, hz⟩, e4]
        rw [e1, e2, e3, e4]
        exact lon_next p G s k A c w h hbl hm hmk hb h256 hz hne
      · have e1 : onI s k = false := by simp [onI, hne]
        have e2 : onB s k = [] := by simp [onB, hne]
        have e4 : onS s k = ⟨onL s k, s.sent, s.mark⟩ := by simp [onS, hm, hne]
        have e3 : onP s k = ⟨0, s.mark, []⟩ := by unfold onP; rw [if_pos ⟨hm, hz⟩, e4]
        rw [e1, e2, e3, e4]
        exact lon_other p G s k A c w h hbl hm hmk hz hne
end Go.Proofs.Ytnmbblkfaoihfaa
