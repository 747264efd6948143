/- The walk of the law CrcParts. -/
import Derived.Test.YtchdfdimaopdeaaQLives
namespace Go.Proofs.Ytchdfdimaopdeaa
open Go.RowKit

/-- append at an operation whose guard says yes. -/
theorem wpList_append_rd_w {P : Program} (w : World) {ops : Array Oper} {rest : List Oper} {o : Oper} {a : Act} {Q : Exit → Act → World → Prop} (hgd : Region.wanted o (yielded ops a.tmps) = true) (s x : Operand) (t : TypeId)
    (ho : o.op = .call { callee := .builtin .append, args := #[s, x], argTypes := #[t, t] })
    (base : Nat) (e : TypeId) (i : TypeInfo) (z : Value) (size bytes : Nat) (ht : P.underlying t = some (.slice e)) (hi : P.info? e = some i) (hz : i.zero = some z)
    (hsize : i.size = size) (hby : i.bytes = bytes) (hzs : z.cells.size = size) (hsz : 0 < size)
    (v : Value) (n : Nat) (xs : List Value) (hs : a.eval s = v) (hown : w.ownsRow base e size v n xs)
    (A : Option Addr) (m c : Nat) (news : List Value) (hx : a.eval x = .slice A m c) (hr : Rd w size A m news) (h1 : ∀ u ∈ news, u.oneCell' = true)
    (h63 : n + m ≤ maxLen) (hbytes : (n + m) * bytes ≤ 140737488355328) (hbase : base ≤ w.heap.size)
    (h : ∀ v' w', w'.ownsRow base e size v' (n + m) (xs ++ news) → w.grownBy w' v.ownBlock → (v' = .slice none 0 0 → v = .slice none 0 0 ∧ m = 0) → wpList P ops Q rest (a.put o.dst v') w') : wpList P ops Q (o :: rest) a w :=
  BigFrame.wpList_want hgd fun _ hK => wp_append_rd (P := P) w s x t ho base e i z size bytes ht hi hz hsize hby hzs hsz v n xs hs hown A m c news hx hr h1 h63 hbytes hbase fun v' w' h2 h3 h4 => hK _ _ (h v' w' h2 h3 h4)

set_option maxRecDepth 100000 in
set_option maxHeartbeats 1600000 in
theorem parts_any (s : Nat) (A : Option Addr) (c : Nat) (xs : List Nat) (B : Option Addr) (d : Nat) (bs : List Nat) (w : World) (ha : IsBy w A c xs) (hb : IsBy w B d bs) (hs : s < 4294967296) (hlen : xs.length + bs.length ≤ 140737488355328) : Calls Try.prog 4 #[.int .u32 s, .slice A xs.length c, .slice B bs.length d] w fun e w' => e = .returned (.bool true) ∧ Below w.heap.size w w' := by
  obtain ⟨i0, hi0, hz0, hz1, hz2⟩ := info_parts Try.infoByte
  have HA := Lib.hid ha
  have HB := Lib.hid hb
  have HS := Lib.hid hs
  have ha4 := ha.2.2.2.1
  have hb4 := hb.2.2.2.1
  have H5 : Hid (∀ b ∈ xs ++ bs, b < 256) := Lib.hid (by
    intro b hx
    rcases List.mem_append.1 hx with hx | hx
    · exact ha4 b hx
    · exact hb4 b hx)
  have HA4 := Lib.hid ha4
  have HB4 := Lib.hid hb4
  have hap : onN s (xs ++ bs) = onN (onN s xs) bs := onN_append ha4
  have hnl : onN s [] = s := onN_nil hs
  obtain ⟨q, hq⟩ : ∃ q, onN s xs = q := ⟨_, rfl⟩
  have hql : q < 4294967296 := by rw [← hq]; exact onN_lt s xs
  rw [hq] at hap
  obtain ⟨N, hN⟩ : ∃ N, w.heap.size = N := ⟨_, rfl⟩
  have HNN := Lib.hid hN
  have HAP := Lib.hid hap
  have HNL := Lib.hid hnl
  have HQ := Lib.hid hq
  have HQL := Lib.hid hql
  obtain ⟨n, hn⟩ : ∃ n, xs.length = n := ⟨_, rfl⟩
  obtain ⟨m, hm⟩ : ∃ m, bs.length = m := ⟨_, rfl⟩
  have HLN := Lib.hid hn
  have HLM := Lib.hid hm
  have HVA : Hid (Bs w (.slice A n c) xs) := Lib.hid (hn ▸ ha.bs)
  have HVB : Hid (Bs w (.slice B m d) bs) := Lib.hid (hm ▸ hb.bs)
  rw [hn, hm] at hlen
  simp only [hn, hm]
  clear ha hb hs ha4 hb4 hap hnl hq hn hm hql
  go_enter Try.func4, Try.ntmps4
  go_wp2_with fail
  refine (new_any w).mono ?_
  rintro e w1 ⟨rfl, ht1, hb1⟩
  rw [hN] at ht1 ⊢
  have HT1 := Lib.hid ht1
  have HB1 := Lib.hid hb1
  have HA1 := Lib.hid (HVA.out.below hb1)
  have HC1 := Lib.hid (HVB.out.below hb1)
  clear hN ht1 hb1
  go_wp2_with fail
  refine (lives_any w1).mono ?_
  rintro e w2 ⟨rfl, hb2⟩
  have HT2 := Lib.hid (HT1.out.below hb2)
  have HA2 := Lib.hid (HA1.out.below hb2)
  have HC2 := Lib.hid (HC1.out.below hb2)
  have F2 := Lib.hid (Fr.of_below (B := 0) (T := []) (S := [N]) hb2)
  clear hb2
  go_wp2_with fail
  refine (on_tab N s _ xs HS.out HA4.out w2 HT2.out HA2.out).mono ?_
  rintro e w3 ⟨rfl, ht3, hf3⟩
  rw [HQ.out]
  have HT3 := Lib.hid ht3
  have HA3 := Lib.hid (HA2.out.tab HT2.out hf3)
  have HC3 := Lib.hid (HC2.out.tab HT2.out hf3)
  have F3 := Lib.hid (F2.out.trans hf3)
  clear ht3 hf3 HT2 HA2 HC2 F2
  go_wp2_with fail
  refine (on_tab N q _ bs HQL.out HB4.out w3 HT3.out HC3.out).mono ?_
  rintro e w4 ⟨rfl, ht4, hf4⟩
  obtain ⟨r, hr⟩ : ∃ r, onN q bs = r := ⟨_, rfl⟩
  rw [hr] at HAP ⊢
  have HT4 := Lib.hid ht4
  have HA4' := Lib.hid (HA3.out.tab HT3.out hf4)
  have HC4 := Lib.hid (HC3.out.tab HT3.out hf4)
  have F4 := Lib.hid (F3.out.trans hf4)
  clear ht4 hf4 HT3 HA3 HC3 F3 hr
  have HO0 := Lib.hid (own_of_cells w4 #[] 0 (Nat.zero_le _) rfl)
  have HE0 := Lib.hid ((HA4'.out.below ((Below.refl _ w4).alloc (Nat.le_refl _) (.cells #[] 5))).rd')
  go_wp2_with (first
    | (at_builtin
       refine wpList_append_rd_w _ (by rfl) (.tmp 20) (.tmp 21) 23 rfl w4.heap.size 5 i0 (.int .u8 0) 1 1 Try.underlying23 hi0 hz0 hz1 hz2 rfl (by decide) (.slice (some ⟨w4.heap.size, 0, none⟩) 0 0) 0 [] rfl HO0.out A n c (xs.map u8v) rfl HE0.out (u8_one' _) (by unfold maxLen; omega) (by omega) (by simp) ?_
       intro v5 w5 hown5 hgrow5 _
       have hb5 := grown_below ((Below.refl _ w4).alloc (Nat.le_refl _) (.cells #[] 5)) (by simp) HO0.out hgrow5
       simp only [Nat.zero_add, List.nil_append] at hown5
       have HO5 := Lib.hid hown5
       have HB5 := Lib.hid hb5
       have hs5 : w4.heap.size ≤ w5.heap.size := hb5.size
       have HC5 := Lib.hid ((HC4.out.below hb5).rd')
       clear hown5 hgrow5 hb5)
    | (at_builtin
       refine wpList_append_rd_w _ (by rfl) (.tmp 22) (.tmp 23) 23 rfl w4.heap.size 5 i0 (.int .u8 0) 1 1 Try.underlying23 hi0 hz0 hz1 hz2 rfl (by decide) v5 n _ rfl HO5.out B m d (bs.map u8v) rfl HC5.out (u8_one' _) (by unfold maxLen; omega) (by omega) hs5 ?_
       intro v6 w6 hown6 hgrow6 _
       have hb6 := grown_below HB5.out hs5 HO5.out hgrow6
       rw [← List.map_append] at hown6
       have HO6 := Lib.hid (Bs.own_n hown6)
       have HB6 := Lib.hid hb6
       have HT6 := Lib.hid (HT4.out.below hb6)
       clear hown6 hgrow6 hb6))
  refine (on_tab N s _ (xs ++ bs) HS.out H5.out w6 HT6.out HO6.out).mono ?_
  rintro e w7 ⟨rfl, ht7, hf7⟩
  rw [HAP.out]
  have HT7 := Lib.hid ht7
  have F7 := Lib.hid ((F4.out.then HB6.out).trans hf7)
  clear ht7 hf7
  go_wp2_with fail
  refine (on_tab N s _ [] HS.out (by simp) w7 HT7.out (Bs.nil _)).mono ?_
  rintro e w8 ⟨rfl, ht8, hf8⟩
  rw [HNL.out]
  have F8 := Lib.hid (F7.out.trans hf8)
  clear ht8 hf8
  go_wp2
  go_ret
  exact ⟨by simp, Fr.own2 HNN.out HB1.out F8.out⟩
end Go.Proofs.Ytchdfdimaopdeaa
