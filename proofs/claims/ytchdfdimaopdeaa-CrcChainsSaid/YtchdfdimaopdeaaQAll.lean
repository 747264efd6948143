/- Package crc and the reference: all frames. -/
import Derived.Test.YtchdfdimaopdeaaQRFrame
namespace Go.Proofs.Ytchdfdimaopdeaa
open Go.RowKit

theorem Try.infoBytes : (Try.prog.info? 23).map (fun i => (i.zero, i.size, i.bytes)) = some (some (.slice none 0 0), 1, 24) := by kernel_rfl
theorem allN_none {s : Int} {bs : List Nat} (h : openN s bs = none) : allN s bs = ([], s, 0) := by
  rw [allN]
  split
  · rfl
  · rename_i h2
    rw [h] at h2
    cases h2
theorem allN_some {s : Int} {bs x : List Nat} {m : Nat} (h : openN s bs = some (x, m)) : allN s bs = (x :: (allN (m : Nat) (bs.drop (16 + x.length))).1, (allN (m : Nat) (bs.drop (16 + x.length))).2.1, 16 + x.length + (allN (m : Nat) (bs.drop (16 + x.length))).2.2) := by
  rw [allN]
  split
  · rename_i h2
    rw [h] at h2
    cases h2
  · rename_i h2
    rw [h] at h2
    injection h2 with h2
    injection h2 with h3 h4
    subst h3; subst h4
    rfl
/-- What is found so far: a row of the call's own, each of whose elements owns its bytes. -/
def OutR (W : World) (B : Nat) (out : Value) (L : List (List Nat)) (hs : List Value) : Prop := W.ownsRow B 23 1 out L.length hs ∧ ∀ j (h : j < L.length) u, hs[j]? = some u → W.ownsRow 0 5 1 u (L[j]).length ((L[j]).map u8v)
theorem OutR.nil (W : World) (B : Nat) : OutR W B (.slice none 0 0) [] [] := ⟨World.ownsRow_nil _ _ _ _, fun j h => absurd h (by simp)⟩
theorem OutR.below {W W' : World} {B : Nat} {out : Value} {L : List (List Nat)} {hs : List Value} (h : OutR W B out L hs) (b : Below W.heap.size W W') : OutR W' B out L hs :=
  ⟨own_below h.1 b, fun j hj u hu => own_below (h.2 j hj u hu) b⟩
theorem own_tab {W W' : World} {B e n p : Nat} {v : Value} {xs : List Value} (h : W.ownsRow B e 1 v n xs) (he : e ≠ 62) (ht : IsTab W p) (f : Fr 0 [] [p] W W') : W'.ownsRow B e 1 v n xs := by
  refine f.own h (by simp) fun k hk hm => ?_
  simp at hm
  subst hm
  obtain ⟨_, cs, hc⟩ := own_block h hk
  rcases ht with ht | ht
  · rw [TabB, hc] at ht
    injection ht with ht
    injection ht with _ ht _
    exact he ht
  · rw [TabB, hc] at ht
    injection ht with ht
    injection ht with _ ht _
    exact he ht
theorem OutR.tab {W W' : World} {B p : Nat} {out : Value} {L : List (List Nat)} {hs : List Value} (h : OutR W B out L hs) (ht : IsTab W p) (f : Fr 0 [] [p] W W') : OutR W' B out L hs :=
  ⟨own_tab h.1 (by decide) ht f, fun j hj u hu => own_tab (h.2 j hj u hu) (by decide) ht f⟩
theorem OutR.bss {W : World} {B : Nat} {out : Value} {L : List (List Nat)} {hs : List Value} (h : OutR W B out L hs) : Bss W out L := by
  obtain ⟨h1, h2⟩ := h
  obtain ⟨A, c, e, k1, k2, k3, _⟩ := own_slice h1
  exact ⟨A, c, hs, e, k1, k2, k3, fun j hj u hu => Bs.of_own (h2 j hj u hu)⟩
/-- One more: the row has grown by a slice that owns its bytes. -/
theorem OutR.more {W W' : World} {B : Nat} {out' u : Value} {L : List (List Nat)} {x : List Nat} {hs : List Value} (hl : hs.length = L.length) (h2 : ∀ j (h : j < L.length) u, hs[j]? = some u → W.ownsRow 0 5 1 u (L[j]).length ((L[j]).map u8v)) (hx : W.ownsRow 0 5 1 u x.length (x.map u8v)) (f : Fr B [23] [] W W') (ho : W'.ownsRow B 23 1 out' (L.length + 1) (hs ++ [u])) : OutR W' B out' (L ++ [x]) (hs ++ [u]) := by
  refine ⟨by rw [List.length_append]; exact ho, fun j hj v hv => ?_⟩
  by_cases h : j < L.length
  · rw [List.getElem?_append_left (by omega)] at hv
    have := f.own (h2 j h v hv) (by decide) (by simp)
    simpa [List.getElem_append_left h] using this
  · have hj' : j = L.length := by rw [List.length_append] at hj; simp at hj; omega
    subst hj'
    rw [List.getElem?_append_right (by omega), hl, Nat.sub_self] at hv
    simp at hv
    subst hv
    have := f.own hx (by decide) (by simp)
    simpa using this
theorem Fr.thenB {S : List Nat} {a w w' : World} (h : Fr 0 [] S a w) (b : Below a.heap.size w w') : Fr 0 [] S a w' :=
  ⟨b.os.trans h.os, b.tape.trans h.tape, b.output.trans h.output, Nat.le_trans h.size b.size, fun k hk hc => (b.block k hk).trans (h.block k hk hc)⟩
theorem IsTab.fr {W W' : World} {B p : Nat} (h : IsTab W p) (f : Fr B [23] [] W W') : IsTab W' p := by
  rcases h with h | h
  · exact .inl (f.keep h (by decide) (by simp))
  · exact .inr (f.keep h (by decide) (by simp))
/-- s[a:], as the walk spells its address. -/
def Sl (A : Option Addr) (a c : Nat) (R : Option Addr) : Prop := (if c = a then A else Option.map (fun x => x.add a) A) = R
theorem sl_of {W : World} {A : Option Addr} {n c a : Nat} {bs : List Nat} (h : Bs W (.slice A n c) bs) (ha : a ≤ n) (hlc : n ≤ c) (hcm : c ≤ 9223372036854775807) : ∃ R, Sl A a c R ∧ Hid (Bs W (.slice R (n - a) (c - a)) (bs.drop a)) := by
  refine ⟨_, rfl, Lib.hid ?_⟩
  by_cases h0 : n - a = 0
  · have hl := h.len
    have e : bs.drop a = [] := List.drop_eq_nil_of_le (by omega)
    rw [e, h0]
    exact ⟨_, _, rfl, Nat.zero_le _, by unfold maxLen; omega, by simp, fun hn => absurd hn (by simp)⟩
  · have hl := h.len
    subst hl
    obtain ⟨g, o, rfl⟩ := h.pos (by omega)
    refine h.rest a ha (by omega) (by omega) fun _ => ?_
    rw [if_neg (by omega)]
    simp only [Option.map_some]
    congr 1
    unfold Addr.add
    split <;> simp_all
/-- What is left to find. -/
def LeftN (s : Int) (bs : List Nat) (L : List (List Nat)) (t : Int) (a : Nat) : Prop := allN s bs = (L ++ (allN t (bs.drop a)).1, (allN t (bs.drop a)).2.1, a + (allN t (bs.drop a)).2.2)
theorem LeftN.start (s : Int) (bs : List Nat) : LeftN s bs [] s 0 := by simp [LeftN]
theorem LeftN.done {s : Int} {bs : List Nat} {L : List (List Nat)} {t : Int} {a : Nat} (h : LeftN s bs L t a) (hn : openN t (bs.drop a) = none) : allN s bs = (L, t, a) := by
  rw [LeftN, allN_none hn] at h
  simpa using h
theorem LeftN.next {s : Int} {bs : List Nat} {L : List (List Nat)} {t : Int} {a : Nat} {x : List Nat} {m : Nat} (h : LeftN s bs L t a) (hn : openN t (bs.drop a) = some (x, m)) : LeftN s bs (L ++ [x]) (m : Nat) (a + 16 + x.length) := by
  rw [LeftN, allN_some hn] at h
  rw [LeftN, h]
  simp only [List.drop_drop, List.append_assoc, List.cons_append, List.nil_append]
  rw [show a + (16 + x.length) = a + 16 + x.length by omega]
  congr 2
  omega

theorem open_all (p : Nat) (s : Int) (v : Value) (bs : List Nat) (hb : ∀ b ∈ bs, b < 256) (hlen : bs.length ≤ 140737488351232) (w : World) (ht : IsTab w p) (hv : Bs w v bs) : Calls Try.prog 20 #[.pointer (some ⟨p, 0, none⟩), .int .u64 s, v] w fun e w' => OpenR s bs badT goodT e w' ∧ IsTab w' p ∧ Fr 0 [] [p] w w' := by
  by_cases h : bs.length < 16
  · refine (open_short p s v bs w hv h).mono ?_
    rintro e w' ⟨h1, rfl⟩
    exact ⟨h1, ht, Fr.refl _⟩
  · exact open_tab p s v bs hb hlen w ht hv (by omega)
theorem ropen_all (s : Int) (v : Value) (bs : List Nat) (hb : ∀ b ∈ bs, b < 256) (hlen : bs.length ≤ 140737488351232) (w : World) (hv : Bs w v bs) : Calls Try.prog 23 #[.int .u64 s, v] w fun e w' => OpenR s bs badR goodR e w' ∧ Below w.heap.size w w' := by
  by_cases h : bs.length < 16
  · refine (ropen_short s v bs w hv h).mono ?_
    rintro e w' ⟨h1, rfl⟩
    exact ⟨h1, Below.refl _ _⟩
  · exact ropen_any s v bs hb hlen w hv (by omega)

set_option maxRecDepth 100000 in
set_option maxHeartbeats 1600000 in
theorem all_tab (p : Nat) (s : Int) (v : Value) (bs : List Nat) (hb : ∀ b ∈ bs, b < 256) (hlen : bs.length ≤ 1099511627776) (w : World) (ht : IsTab w p) (hv : Bs w v bs) : Calls Try.prog 24 #[.pointer (some ⟨p, 0, none⟩), .int .u64 s, v] w fun e w' => ∃ vo, e = .returned (.tuple #[vo, .int .u64 (allN s bs).2.1, .int .i64 ((allN s bs).2.2 : Nat)]) ∧ Bss w' vo (allN s bs).1 ∧ IsTab w' p ∧ Fr 0 [] [p] w w' := by
  obtain ⟨i0, hi0, hz0, hz1, hz2⟩ := info_parts Try.infoBytes
  obtain ⟨A, c, rfl, hl, hlc, hcm⟩ := hv.slice
  have HV := Lib.hid hv
  have HB := Lib.hid hb
  have HT := Lib.hid ht
  obtain ⟨n, hn⟩ : ∃ n, bs.length = n := ⟨_, rfl⟩
  obtain ⟨B, hB⟩ : ∃ B, w.heap.size = B := ⟨_, rfl⟩
  have HN := Lib.hid hn
  rw [hn] at hl hlen hlc
  simp only [hn]
  rw [hn] at HV
  clear hv hb hn ht
  go_enter Try.func24, Try.ntmps24
  go_wp2_with fail
  go_loopw [1, 9, 10] (fun sv ov av wr => ∃ (L : List (List Nat)) (hs : List Value) (t : Int) (a : Nat), a ≤ n ∧ sv = .int .u64 t ∧ av = .int .i64 a ∧ LeftN s bs L t a ∧ 16 * L.length ≤ a ∧ OutR wr B ov L hs ∧ IsTab wr p ∧ Fr 0 [] [p] w wr) (fun _ _ av _ => n - (intOf av).toNat)
  case atStart => exact ⟨[], [], s, 0, Nat.zero_le _, rfl, rfl, LeftN.start s bs, Nat.zero_le _, OutR.nil _ _, ⟨HT.out, Fr.refl w⟩⟩
  case round =>
    obtain ⟨L, hs, t, a, ha, rfl, rfl, hleft, hL, ho, hx⟩ := hrel
    have HLEFT := Lib.hid hleft
    have HO := Lib.hid ho
    have HX : Hid (IsTab wr p ∧ Fr 0 [] [p] w wr) := Lib.hid hx
    have HV1 := Lib.hid (HV.out.tab HT.out hx.2)
    obtain ⟨Ao, co, rfl, k1, k2, _⟩ := own_slice ho.1
    have hco : co ≤ 9223372036854775807 := by unfold maxLen at k2; omega
    have HLD : Hid ((bs.drop a).length = n - a) := Lib.hid (by rw [List.length_drop, HN.out])
    have HBD : Hid (∀ b ∈ bs.drop a, b < 256) := Lib.hid (fun b hb => HB.out b (List.mem_of_mem_drop hb))
    have hsl : hs.length = L.length := by simpa using ho.1.1
    have HSL := Lib.hid hsl
    obtain ⟨l, hle⟩ : ∃ l, L.length = l := ⟨_, rfl⟩
    have HLE := Lib.hid hle
    rw [hle] at hL k1
    clear hleft ho hx k2 hsl
    obtain ⟨R, hRe, HVR⟩ : ∃ R, Sl A a c R ∧ Hid (Bs wr (.slice R (n - a) (c - a)) (bs.drop a)) := sl_of HV1.out ha hlc hcm
    simp only [hle]
    have HB2 : Hid (w.heap.size = B) := Lib.hid hB
    clear hle
    have hac : (a : Int) ≤ (n : Int) := by omega
    unfold Sl at hRe
    go_wp2_with fail
    refine (open_all p t (.slice R (n - a) (c - a)) (bs.drop a) HBD.out (by rw [HLD.out]; omega) wr HX.out.1 HVR.out).mono ?_
    rintro e w2 ⟨hr, ht2, hf2⟩
    have HO2 := Lib.hid (HO.out.tab HX.out.1 hf2)
    have HX2 : Hid (IsTab w2 p ∧ Fr 0 [] [p] w w2) := Lib.hid ⟨ht2, HX.out.2.trans hf2⟩
    clear ht2 hf2
    unfold OpenR at hr
    cases hop : openN t (bs.drop a) with
    | none =>
      rw [hop] at hr
      obtain rfl := hr
      have HD := Lib.hid (HLEFT.out.done hop)
      unfold badT
      clear hop
      go_wp2_with fail
      refine bodyPost_ret (results_tmp3 rfl _ _ _) rfl ?_
      rw [HD.out]
      refine ⟨_, rfl, ?_, HX2.out.1, HX2.out.2⟩
      have := HO2.out.bss
      rwa [HLE.out] at this
    | some r =>
      obtain ⟨x, m⟩ := r
      rw [hop] at hr
      obtain ⟨vx, rfl, hvx⟩ := hr
      have HNX := Lib.hid (HLEFT.out.next hop)
      have hxl := openN_len hop
      rw [HLD.out] at hxl
      obtain ⟨Ax, cx, rfl, kx1, kx2, _⟩ := own_slice hvx
      have hcx : cx ≤ 9223372036854775807 := by unfold maxLen at kx2; omega
      have HVX := Lib.hid hvx
      obtain ⟨y, hy⟩ : ∃ y, x.length = y := ⟨_, rfl⟩
      have HY := Lib.hid hy
      rw [hy] at hxl kx1
      have HO2' : Hid (w2.ownsRow B 23 1 (.slice Ao l co) l hs) := Lib.hid (by have := HO2.out.1; rwa [HLE.out] at this)
      unfold goodT
      simp only [hy]
      have hs2 : B ≤ w2.heap.size := by rw [← HB2.out]; exact (HX2.out.2).size
      clear hop hvx kx2 hy
      go_wp2_with (at_builtin
                   refine wpList_append_rd_at _ rfl (.tmp 29) (.tmp 31) 44 rfl B 23 i0 (.slice none 0 0) 1 24 Try.underlying44 hi0 hz0 hz1 hz2 rfl (by decide) (.slice Ao l co) l hs rfl (own_below HO2'.out ((Below.refl _ w2).alloc (Nat.le_refl _) _)) (some ⟨w2.heap.size, 0, none⟩) 1 1 [.slice Ax y cx] rfl ⟨rfl, fun _ => ⟨_, _, rfl, by simp, fun j u hu => by
                     have hj : j = 0 := by
                       have := (List.getElem?_eq_some_iff.1 hu).1
                       simp at this; omega
                     subst hj
                     simp at hu
                     subst hu
                     rw [cell_at (block_new _ _)]; rfl⟩⟩ (by simp [Value.oneCell']) (by unfold maxLen; omega) (by omega) (by simp; omega) ?_
                   intro v5 w5 hown5 hgrow5 _
                   have HO5 := Lib.hid hown5
                   have HG5 := Lib.hid hgrow5
                   clear hown5 hgrow5)
      go_roundw
      case rel =>
        have hb3 : Below w2.heap.size w2 (w2.alloc (.cells #[.slice Ax y cx] 23)) := (Below.refl _ w2).alloc (Nat.le_refl _) _
        have hs3 : B ≤ (w2.alloc (.cells #[.slice Ax y cx] 23)).heap.size := Nat.le_trans hs2 hb3.size
        have hB := HB2.out
        have f5 := (Fr.refl (w2.alloc (.cells #[.slice Ax y cx] 23))).grown (B := B) (T := [23]) (S := []) HG5.out (fun j hj => by
          obtain ⟨hb, cs, hc⟩ := own_block (own_below HO2'.out hb3) hj
          exact ⟨hb, .inr ⟨cs, _, _, hc, by simp⟩⟩)
        refine ⟨L ++ [x], hs ++ [.slice Ax y cx], m, a + 16 + y, by omega, rfl, by go_num, by have := HNX.out; rwa [HY.out] at this, by rw [List.length_append, HLE.out]; simp only [List.length_cons, List.length_nil]; omega, ?_, ⟨(HX2.out.1.below hb3).fr f5, ((HX2.out.2.then hb3)).thenB (hB ▸ f5.below hs3)⟩⟩
        · refine OutR.more HSL.out (fun j hj u hu => own_below (HO2.out.2 j hj u hu) hb3) (own_below (by rw [HY.out] at HVX; rw [HY.out]; exact HVX.out) hb3) f5 (by rw [HLE.out]; exact HO5.out)
      case measure => simp [intOf]; omega

set_option maxRecDepth 100000 in
set_option maxHeartbeats 1600000 in
theorem rall_any (s : Int) (v : Value) (bs : List Nat) (hb : ∀ b ∈ bs, b < 256) (hlen : bs.length ≤ 1099511627776) (w : World) (hv : Bs w v bs) : Calls Try.prog 25 #[.int .u64 s, v] w fun e w' => ∃ vo, e = .returned (.tuple #[vo, .int .u64 (allN s bs).2.1, .int .i64 ((allN s bs).2.2 : Nat)]) ∧ Bss w' vo (allN s bs).1 ∧ Below w.heap.size w w' := by
  obtain ⟨i0, hi0, hz0, hz1, hz2⟩ := info_parts Try.infoBytes
  obtain ⟨A, c, rfl, hl, hlc, hcm⟩ := hv.slice
  have HV := Lib.hid hv
  have HB := Lib.hid hb
  obtain ⟨n, hn⟩ : ∃ n, bs.length = n := ⟨_, rfl⟩
  obtain ⟨B, hB⟩ : ∃ B, w.heap.size = B := ⟨_, rfl⟩
  have HN := Lib.hid hn
  rw [hn] at hl hlen hlc
  simp only [hn]
  rw [hn] at HV
  clear hv hb hn
  go_enter Try.func25, Try.ntmps25
  go_wp2_with fail
  go_loopw [0, 7, 8] (fun sv ov av wr => ∃ (L : List (List Nat)) (hs : List Value) (t : Int) (a : Nat), a ≤ n ∧ sv = .int .u64 t ∧ av = .int .i64 a ∧ LeftN s bs L t a ∧ 16 * L.length ≤ a ∧ OutR wr B ov L hs ∧ Below w.heap.size w wr) (fun _ _ av _ => n - (intOf av).toNat)
  case atStart => exact ⟨[], [], s, 0, Nat.zero_le _, rfl, rfl, LeftN.start s bs, Nat.zero_le _, OutR.nil _ _, Below.refl _ w⟩
  case round =>
    obtain ⟨L, hs, t, a, ha, rfl, rfl, hleft, hL, ho, hx⟩ := hrel
    have HLEFT := Lib.hid hleft
    have HO := Lib.hid ho
    have HX : Hid (Below w.heap.size w wr) := Lib.hid hx
    have HV1 := Lib.hid (HV.out.below hx)
    obtain ⟨Ao, co, rfl, k1, k2, _⟩ := own_slice ho.1
    have hco : co ≤ 9223372036854775807 := by unfold maxLen at k2; omega
    have HLD : Hid ((bs.drop a).length = n - a) := Lib.hid (by rw [List.length_drop, HN.out])
    have HBD : Hid (∀ b ∈ bs.drop a, b < 256) := Lib.hid (fun b hb => HB.out b (List.mem_of_mem_drop hb))
    have hsl : hs.length = L.length := by simpa using ho.1.1
    have HSL := Lib.hid hsl
    obtain ⟨l, hle⟩ : ∃ l, L.length = l := ⟨_, rfl⟩
    have HLE := Lib.hid hle
    rw [hle] at hL k1
    clear hleft ho hx k2 hsl
    obtain ⟨R, hRe, HVR⟩ : ∃ R, Sl A a c R ∧ Hid (Bs wr (.slice R (n - a) (c - a)) (bs.drop a)) := sl_of HV1.out ha hlc hcm
    simp only [hle]
    have HB2 : Hid (w.heap.size = B) := Lib.hid hB
    clear hle
    have hac : (a : Int) ≤ (n : Int) := by omega
    unfold Sl at hRe
    go_wp2_with fail
    refine (ropen_all t (.slice R (n - a) (c - a)) (bs.drop a) HBD.out (by rw [HLD.out]; omega) wr HVR.out).mono ?_
    rintro e w2 ⟨hr, hf2⟩
    have HO2 := Lib.hid (HO.out.below hf2)
    have HX2 : Hid (Below w.heap.size w w2) := Lib.hid (HX.out.trans (hf2.mono HX.out.size))
    clear hf2
    unfold OpenR at hr
    cases hop : openN t (bs.drop a) with
    | none =>
      rw [hop] at hr
      obtain rfl := hr
      have HD := Lib.hid (HLEFT.out.done hop)
      unfold badR
      clear hop
      go_wp2_with fail
      refine bodyPost_ret (results_tmp3 rfl _ _ _) rfl ?_
      rw [HD.out]
      refine ⟨_, rfl, ?_, HX2.out⟩
      have := HO2.out.bss
      rwa [HLE.out] at this
    | some r =>
      obtain ⟨x, m⟩ := r
      rw [hop] at hr
      obtain ⟨vx, rfl, hvx⟩ := hr
      have HNX := Lib.hid (HLEFT.out.next hop)
      have hxl := openN_len hop
      rw [HLD.out] at hxl
      obtain ⟨Ax, cx, rfl, kx1, kx2, _⟩ := own_slice hvx
      have hcx : cx ≤ 9223372036854775807 := by unfold maxLen at kx2; omega
      have HVX := Lib.hid hvx
      obtain ⟨y, hy⟩ : ∃ y, x.length = y := ⟨_, rfl⟩
      have HY := Lib.hid hy
      rw [hy] at hxl kx1
      have HO2' : Hid (w2.ownsRow B 23 1 (.slice Ao l co) l hs) := Lib.hid (by have := HO2.out.1; rwa [HLE.out] at this)
      unfold goodR
      simp only [hy]
      have hs2 : B ≤ w2.heap.size := by rw [← HB2.out]; exact (HX2.out).size
      clear hop hvx kx2 hy
      go_wp2_with (at_builtin
                   refine wpList_append_rd_at _ rfl (.tmp 26) (.tmp 28) 44 rfl B 23 i0 (.slice none 0 0) 1 24 Try.underlying44 hi0 hz0 hz1 hz2 rfl (by decide) (.slice Ao l co) l hs rfl (own_below HO2'.out ((Below.refl _ w2).alloc (Nat.le_refl _) _)) (some ⟨w2.heap.size, 0, none⟩) 1 1 [.slice Ax y cx] rfl ⟨rfl, fun _ => ⟨_, _, rfl, by simp, fun j u hu => by
                     have hj : j = 0 := by
                       have := (List.getElem?_eq_some_iff.1 hu).1
                       simp at this; omega
                     subst hj
                     simp at hu
                     subst hu
                     rw [cell_at (block_new _ _)]; rfl⟩⟩ (by simp [Value.oneCell']) (by unfold maxLen; omega) (by omega) (by simp; omega) ?_
                   intro v5 w5 hown5 hgrow5 _
                   have HO5 := Lib.hid hown5
                   have HG5 := Lib.hid hgrow5
                   clear hown5 hgrow5)
      go_roundw
      case rel =>
        have hb3 : Below w2.heap.size w2 (w2.alloc (.cells #[.slice Ax y cx] 23)) := (Below.refl _ w2).alloc (Nat.le_refl _) _
        have hs3 : B ≤ (w2.alloc (.cells #[.slice Ax y cx] 23)).heap.size := Nat.le_trans hs2 hb3.size
        have hB := HB2.out
        have f5 := (Fr.refl (w2.alloc (.cells #[.slice Ax y cx] 23))).grown (B := B) (T := [23]) (S := []) HG5.out (fun j hj => by
          obtain ⟨hb, cs, hc⟩ := own_block (own_below HO2'.out hb3) hj
          exact ⟨hb, .inr ⟨cs, _, _, hc, by simp⟩⟩)
        refine ⟨L ++ [x], hs ++ [.slice Ax y cx], m, a + 16 + y, by omega, rfl, by go_num, by have := HNX.out; rwa [HY.out] at this, by rw [List.length_append, HLE.out]; simp only [List.length_cons, List.length_nil]; omega, ?_, (HX2.out.trans (hb3.mono HX2.out.size)).trans (hB ▸ f5.below hs3)⟩
        · refine OutR.more HSL.out (fun j hj u hu => own_below (HO2.out.2 j hj u hu) hb3) (own_below (by rw [HY.out] at HVX; rw [HY.out]; exact HVX.out) hb3) f5 (by rw [HLE.out]; exact HO5.out)
      case measure => simp [intOf]; omega
end Go.Proofs.Ytchdfdimaopdeaa
