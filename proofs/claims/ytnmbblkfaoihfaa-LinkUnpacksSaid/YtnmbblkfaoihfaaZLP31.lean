/- Joined: The reference's Pack of an end. Pack of an end. -/
import Derived.Test.YtnmbblkfaoihfaaZLP29
namespace Go.Proofs.Ytnmbblkfaoihfaa
open Go.RowKit

/-- The code so far. -/
def pkE (s : LSt) (k : Nat) : List Nat := numB s.sent ++ (numB s.mark ++ (numB s.l.length ++ itsB (s.l.take k)))
theorem pkE_all (s : LSt) : pkE s s.l.length = packE s := by simp [pkE, packE]
theorem pkE_len {s : LSt} (h : GoodE s) (k : Nat) : (pkE s k).length ≤ 132827 := by
  have h1 := (numB_length s.sent).2
  have h2 := (numB_length s.mark).2
  have h3 := (numB_length s.l.length).2
  have h4 := itsB_len (s.l.take k) (fun x hx => (h.it x (List.mem_of_mem_take hx)).1)
  have h5 := h.len
  have h6 : (s.l.take k).length ≤ 64 := by rw [List.length_take]; omega
  simp only [pkE, List.length_append]
  omega
theorem pkE_0 (s : LSt) : putS (putS (putS ([], false) (numB s.sent)) (numB s.mark)) (numB s.l.length) = (pkE s 0, false) := by
  have h1 := (numB_length s.sent).2
  have h2 := (numB_length s.mark).2
  have h3 := (numB_length s.l.length).2
  have e1 : putS ([], false) (numB s.sent) = (numB s.sent, false) := by rw [putS_fits rfl (by simp; omega)]; simp
  have e2 : putS (numB s.sent, false) (numB s.mark) = (numB s.sent ++ numB s.mark, false) := putS_fits rfl (by simp only; omega)
  rw [e1, e2, putS_fits rfl (by simp only [List.length_append]; omega)]
  simp [pkE, itsB]
set_option maxRecDepth 100000 in
theorem pkE_succ {s : LSt} (h : GoodE s) (k : Nat) (hk : k < s.l.length) : putS (putS (putS (pkE s k, false) (textB s.l[k].body)) (numB s.l[k].tries)) (numB s.l[k].due) = (pkE s (k + 1), false) := by
  have h1 := (numB_length s.l[k].body.length).2
  have h2 := (numB_length s.l[k].tries).2
  have h3 := (numB_length s.l[k].due).2
  have h4 := pkE_len h k
  have h5 := (h.it s.l[k] (List.getElem_mem hk)).1
  have e1 : putS (pkE s k, false) (textB s.l[k].body) = (pkE s k ++ textB s.l[k].body, false) := putS_fits rfl (by simp only [textB, List.length_append]; omega)
  have e2 : putS (pkE s k ++ textB s.l[k].body, false) (numB s.l[k].tries) = (pkE s k ++ textB s.l[k].body ++ numB s.l[k].tries, false) := putS_fits rfl (by simp only [textB, List.length_append]; omega)
  rw [e1, e2, putS_fits rfl (by simp only [textB, List.length_append]; omega)]
  simp only [pkE, List.take_succ_eq_append_getElem hk, itsB_snoc, itB, List.append_assoc]

/-- An end, as it is read. -/
theorem ise_view {W : World} {T TE : TypeId} {p : Nat} {G : Option Nat} {s : LSt} (h : IsE W T TE p G s) : ∃ A c, s.l.length ≤ c ∧ c ≤ 9223372036854775807 ∧ (∀ W', Below W.heap.size W W' → W'.heap[p]? = some (.cells #[.slice A s.l.length c, .int .i64 s.sent, .int .i64 s.mark] TE (0, 0))) ∧
    ∀ k (hk : k < s.l.length), ∃ g Ab cb, A = some ⟨g, 0, none⟩ ∧ ∀ W', Below W.heap.size W W' → W'.cell? ⟨g, k * 4, none⟩ = some (.int .i64 s.l[k].seq) ∧ W'.cell? ⟨g, k * 4 + 1, none⟩ = some (.slice Ab s.l[k].body.length cb) ∧ W'.cell? ⟨g, k * 4 + 2, none⟩ = some (.int .i64 s.l[k].tries) ∧ W'.cell? ⟨g, k * 4 + 3, none⟩ = some (.int .i64 s.l[k].due) ∧ Rd W' 1 Ab s.l[k].body.length (s.l[k].body.map u8v) := by
  obtain ⟨v, hp, zs, hz, ho, hv, hb⟩ := h
  obtain ⟨A, c, rfl, k1, k2, k3, k4⟩ := own_slice ho
  refine ⟨A, c, k1, by unfold maxLen at k2; omega, fun W' hW => (hW.block _ (lt_of_block hp)).trans hp, fun k hk => ?_⟩
  have hzl : zs.length = s.l.length := by rw [← hz, List.length_map]
  obtain ⟨g, o, rfl, hg, hc⟩ := k3.2 (by omega)
  obtain ⟨_, ho0, _⟩ := k4 _ rfl
  simp only at ho0
  subst ho0
  have hkz : k < zs.length := by omega
  have e : s.l[k] = zs[k].it := by simp [← hz]
  obtain ⟨Ab, cb, eb, _, _, rb, _⟩ := byo_slice (hb zs[k] (List.getElem_mem hkz))
  refine ⟨g, Ab, cb, rfl, fun W' hW => ?_⟩
  have key : ∀ j u, (encL zs[k])[j]? = some u → j < 4 → W'.cell? ⟨g, k * 4 + j, none⟩ = some u := fun j u hu hj => by
    have := hc (k * 4 + j) u (by rw [flatL_at zs k j hkz hj]; exact hu)
    rw [Nat.zero_add] at this
    exact (hW.cell (p := ⟨g, k * 4 + j, none⟩) hg).trans this
  rw [e]
  refine ⟨key 0 _ rfl (by omega), ?_, key 2 _ rfl (by omega), key 3 _ rfl (by omega), rb.below hW⟩
  rw [← eb]
  exact key 1 _ rfl (by omega)

/-- A reference's maker of a call's own. -/
def XM (w : World) (m : Nat) (s : List Nat × Bool) (W : World) : Prop := ∃ D, IsT W 106 m D s ∧ D ≠ some m ∧ w.heap.size ≤ m ∧ Below w.heap.size w W
theorem XM.below {w W : World} {m : Nat} {s : List Nat × Bool} (h : XM w m s W) : Below w.heap.size w W := by obtain ⟨_, _, _, _, hb⟩ := h; exact hb
theorem XM.ret {w W : World} {m : Nat} {s s' : List Nat × Bool} {f : FuncId} {args : Array Value} (h : XM w m s W) (hc : ∀ D, IsT W 106 m D s → D ≠ some m → Calls Try.prog f args W (RetR m D s' W)) :
    Calls Try.prog f args W fun e W' => e = .returned (.tuple #[]) ∧ XM w m s' W' := by
  obtain ⟨D, h1, h2, h3, h4⟩ := h
  exact (hc D h1 h2).mono fun e W' ⟨D', he, hT, hD, _, hf⟩ => ⟨he, D', hT, hD, h3, h4.trans (hf.belowT h3 h4.size)⟩
theorem xm_num {w W : World} {m : Nat} {s : List Nat × Bool} (h : XM w m s W) (n : Int) (hn : I64 n) : Calls Try.prog 57 #[.pointer (some ⟨m, 0, none⟩), .int .i64 n] W fun e W' => e = .returned (.tuple #[]) ∧ XM w m (putS s (numB n)) W' :=
  h.ret fun D hT hD => rmnum_any m D s n W hT hD hn
theorem xm_text {w W : World} {m : Nat} {s : List Nat × Bool} (h : XM w m s W) (t : ByteArray) (ht : t.size ≤ 140737488351232) : Calls Try.prog 58 #[.pointer (some ⟨m, 0, none⟩), .string t] W fun e W' => e = .returned (.tuple #[]) ∧ XM w m (putS s (textB (natsOf t))) W' :=
  h.ret fun D hT hD => rmtext_any m D s t W hT hD ht

set_option maxRecDepth 100000 in
set_option maxHeartbeats 1600000 in
theorem lxpack_any (q : Nat) (H : Option Nat) (s : LSt) (w : World) (h : IsX w q H s) (hg : GoodE s) :
    Calls Try.prog 37 #[.pointer (some ⟨q, 0, none⟩)] w fun e w' => ∃ v, e = .returned v ∧ Bs w' v (packE s) ∧ Below w.heap.size w w' := by
  have HG := Lib.hid hg
  have hl := hg.len
  have hlt := h.lt
  obtain ⟨A, c, k1, k2, hp, hit⟩ := ise_view h
  obtain ⟨n, hn⟩ : ∃ n, s.l.length = n := ⟨_, rfl⟩
  have HN := Lib.hid hn
  rw [hn] at hl k1 hp
  have HP := Lib.hid hp
  have HIT := Lib.hid hit
  have HPK := Lib.hid (fun k => pkE_succ hg k)
  obtain ⟨w1, hw1⟩ : ∃ w1, w.alloc (.cells #[.slice none 0 0, .bool false] 106) = w1 := ⟨_, rfl⟩
  have hb1 : Below w.heap.size w w1 := by rw [← hw1]; exact (Below.refl _ w).alloc (Nat.le_refl _) _
  obtain ⟨m, hm⟩ : ∃ m, w.heap.size = m := ⟨_, rfl⟩
  have HM1 : Hid (XM w m ([], false) w1) := Lib.hid ⟨none, ⟨none, 0, by rw [← hw1, ← hm]; exact block_new _ _, Nat.le_refl _, Nat.zero_le _, Rd.nil, by simp, by simp, .inl rfl⟩, by simp, by omega, hb1⟩
  have x1 : (w.alloc (.cells #[.slice none 0 0, .bool false] 106)).cell? ⟨q, 1, none⟩ = some (.int .i64 s.sent) := by rw [hw1]; exact cell_at (hp w1 hb1) 1
  have HW1 := Lib.hid hw1
  have HM := Lib.hid hm
  clear hg hn hp hit hw1 hb1 hm h
  go_enter Try.func37, Try.ntmps37
  go_wp2_with fail
  rw [HW1.out, HM.out]
  refine (xm_num HM1.out s.sent ⟨by have := HG.out.sent; omega, HG.out.sent.2⟩).mono ?_
  rintro e w2 ⟨rfl, h2⟩
  have x2 : w2.cell? ⟨q, 2, none⟩ = some (.int .i64 s.mark) := cell_at (HP.out w2 h2.below) 2
  have H2 := Lib.hid h2
  clear h2 x1
  go_wp2_with fail
  refine (xm_num H2.out s.mark ⟨by have := HG.out.mark; omega, HG.out.mark.2⟩).mono ?_
  rintro e w3 ⟨rfl, h3⟩
  have x3 : w3.cell? ⟨q, 0, none⟩ = some (.slice A n c) := cell_at (HP.out w3 h3.below) 0
  have H3 := Lib.hid h3
  clear h3 x2
  go_wp2_with fail
  refine (xm_num H3.out n ⟨by omega, by omega⟩).mono ?_
  rintro e w4 ⟨rfl, h4⟩
  rw [← HN.out, pkE_0] at h4
  have H4 := Lib.hid h4
  clear h4 x3
  go_wp2_with fail
  go_loopw [4] (fun iv wr => ∃ k : Nat, k ≤ n ∧ iv = .int .i64 k ∧ XM w m (pkE s k, false) wr) (fun iv _ => n - (intOf iv).toNat)
  case atStart => exact ⟨0, Nat.zero_le _, rfl, H4.out⟩
  case round =>
    obtain ⟨k, hk, rfl, hx⟩ := hrel
    have x4 : wr.cell? ⟨q, 0, none⟩ = some (.slice A n c) := cell_at (HP.out wr hx.below) 0
    have HX := Lib.hid hx
    clear hx H4
    by_cases hltk : k < n
    · have hks : k < s.l.length := by rw [HN.out]; exact hltk
      obtain ⟨g, Ab, cb, rfl, hc⟩ := HIT.out k hks
      have HS := Lib.hid (HPK.out k hks)
      have HO := Lib.hid (HG.out.it s.l[k] (List.getElem_mem hks))
      obtain ⟨x, hxx⟩ : ∃ x, s.l[k] = x := ⟨_, rfl⟩
      rw [hxx] at hc HS HO
      have HC := Lib.hid hc
      have hsz : (strOf x.body).size ≤ 140737488351232 := by rw [strOf_size]; have := HO.out.1; omega
      obtain ⟨_, c1, _, _, r1⟩ := hc wr HX.out.below
      have hs1 := run_str wr Ab _ cb x.body r1 HO.out.2.1
      have HNat := Lib.hid (natsOf_strOf HO.out.2.1)
      obtain ⟨S, hSe⟩ : ∃ S, strOf x.body = S := ⟨_, rfl⟩
      rw [hSe] at hs1 hsz HNat
      clear hks hc hxx r1 hSe
      go_wp2_with fail
      refine (xm_text HX.out S hsz).mono ?_
      rintro e w5 ⟨rfl, h5⟩
      rw [HNat.out] at h5
      have x5 : w5.cell? ⟨q, 0, none⟩ = some (.slice (some ⟨g, 0, none⟩) n c) := cell_at (HP.out w5 h5.below) 0
      obtain ⟨_, _, y5, _⟩ := HC.out w5 h5.below
      have H5 := Lib.hid h5
      clear h5 x4 c1 hs1
      go_wp2_with fail
      refine (xm_num H5.out x.tries ⟨by have := HO.out.2.2; omega, HO.out.2.2.2.1⟩).mono ?_
      rintro e w6 ⟨rfl, h6⟩
      have x6 : w6.cell? ⟨q, 0, none⟩ = some (.slice (some ⟨g, 0, none⟩) n c) := cell_at (HP.out w6 h6.below) 0
      obtain ⟨_, _, _, y6, _⟩ := HC.out w6 h6.below
      have H6 := Lib.hid h6
      clear h6 x5 y5
      go_wp2_with fail
      refine (xm_num H6.out x.due HO.out.2.2.2.2).mono ?_
      rintro e w7 ⟨rfl, h7⟩
      rw [HS.out] at h7
      have H7 := Lib.hid h7
      clear h7 x6 y6
      go_wp2_with fail
      go_roundw
      case rel => exact ⟨k + 1, hltk, by go_num, H7.out⟩
      case measure => simp [intOf]; omega
    · obtain rfl : k = n := by omega
      have h4 := HX.out
      have HBR := Lib.hid h4.below
      rw [← HN.out, pkE_all] at h4
      obtain ⟨D, ⟨A4, c4, j1, j2, j3, j4, _⟩, _⟩ := h4
      have x5 : wr.cell? ⟨m, 0, none⟩ = some (.slice A4 (packE s).length c4) := cell_at j1 0
      have HJ : Hid (Bs wr (.slice A4 (packE s).length c4) (packE s)) := Lib.hid ⟨A4, c4, rfl, j2, j3, j4⟩
      obtain ⟨z, hz⟩ : ∃ z, (packE s).length = z := ⟨_, rfl⟩
      rw [hz] at x5 HJ
      clear j1 j2 j3 j4 hz
      go_wp2
      go_ret
      exact ⟨_, rfl, HJ.out, HBR.out⟩
end Go.Proofs.Ytnmbblkfaoihfaa

namespace Go.Proofs.Ytnmbblkfaoihfaa
open Go.RowKit

/-- What a maker's call keeps beside. -/
theorem mk_keep {w W : World} {p : Nat} {s s' : List Nat × Bool} {f : FuncId} {args : Array Value} (h : Mk w p s W) (hc : ∀ G, IsM W p G s → Calls Try.prog f args W (RetM p G s' W)) :
    Calls Try.prog f args W fun e W' => e = .returned (.pointer (some ⟨p, 0, none⟩)) ∧ Mk w p s' W' ∧ ∀ (k : Nat) (cs : Array Value) (T : TypeId) (f : Nat × Nat), W.heap[k]? = some (Obj.cells cs T f) → T ≠ 112 → T ≠ 5 → W'.heap[k]? = some (Obj.cells cs T f) := by
  obtain ⟨G, h1, h2, h3, h4⟩ := h
  refine (hc G h1).mono fun e W' ⟨G', he, hM, hf, hg⟩ => ⟨he, ⟨G', hM, h2, fun g hg' => ?_, h4.trans (hf.belowM h2 h3 h4.size)⟩, fun k cs T f hk h5 h6 => ?_⟩
  · rcases hg with e | ⟨g', e, hn⟩
    · exact h3 g (e ▸ hg')
    · rw [hg'] at e
      injection e with e
      have := h4.size
      omega
  · obtain ⟨v, hp, ho, hv⟩ := h1
    refine hf.keep hk (by simp) fun hm => ?_
    rcases List.mem_cons.1 hm with rfl | hm
    · rw [hp] at hk
      injection hk with hk
      injection hk with _ hk
      exact h5 hk.symm
    · obtain ⟨_, cs', hb⟩ := own_block ho (k := k) (by rw [hv]; simpa using hm)
      rw [hb] at hk
      injection hk with hk
      injection hk with _ hk
      exact h6 hk.symm

set_option maxRecDepth 100000 in
set_option maxHeartbeats 1600000 in
theorem lpack_any (p : Nat) (G : Option Nat) (s : LSt) (w : World) (h : IsE w 84 80 p G s) (hg : GoodE s) :
    Calls Try.prog 35 #[.pointer (some ⟨p, 0, none⟩)] w fun e w' => ∃ v, e = .returned v ∧ Bs w' v (packE s) ∧ Below w.heap.size w w' := by
  have HG := Lib.hid hg
  have hl := hg.len
  obtain ⟨A, c, k1, k2, hp, hit⟩ := ise_view h
  obtain ⟨n, hn⟩ : ∃ n, s.l.length = n := ⟨_, rfl⟩
  have HN := Lib.hid hn
  rw [hn] at hl k1 hp
  have HP := Lib.hid hp
  have HIT := Lib.hid hit
  have HPK := Lib.hid (fun k => pkE_succ hg k)
  clear hg hn hp hit h
  go_enter Try.func35, Try.ntmps35
  go_wp2_with fail
  refine wp_region_flow2 (fun W => Below w.heap.size w W) Nil_ [1, 2, 3, 4, 6, 7, 8, 9, 11, 12, 13, 14, 15, 0, 5, 10, 16, 17] (by kernel_rfl) (by kernel_rfl) (by kernel_rfl) (Below.refl _ w).drew trivial ?_
  refine flow_val ?_ rfl (by kernel_rfl) (by rfl) (fun W hW => ?_) ?_
  rotate_left 1
  · go_simp <;> with_reducible rfl
  simp only [Act.put, List.setIfInBounds_toArray, List.set_cons_succ, List.set_cons_zero]
  refine flow_val ?_ rfl (by kernel_rfl) (by rfl) (fun W hW => ?_) ?_
  rotate_left 1
  · go_simp <;> with_reducible rfl
  simp only [Act.put, List.setIfInBounds_toArray, List.set_cons_succ, List.set_cons_zero]
  refine flow_val ?_ rfl (by kernel_rfl) (by rfl) (fun W hW => ?_) ?_
  rotate_left 1
  · go_simp <;> with_reducible rfl
  simp only [Act.put, List.setIfInBounds_toArray, List.set_cons_succ, List.set_cons_zero]
  refine flow_val ?_ rfl (by kernel_rfl) (by rfl) (fun W hW => ?_) ?_
  rotate_left 1
  · have c1 : W.cell? ⟨p, 1, none⟩ = some (.int .i64 s.sent) := cell_at (HP.out W hW) 1; go_simp <;> with_reducible rfl
  simp only [Act.put, List.setIfInBounds_toArray, List.set_cons_succ, List.set_cons_zero]
  refine flow_val ?_ rfl (by kernel_rfl) (by rfl) (fun W hW => ?_) ?_
  rotate_left 1
  · go_simp <;> with_reducible rfl
  simp only [Act.put, List.setIfInBounds_toArray, List.set_cons_succ, List.set_cons_zero]
  refine flow_val ?_ rfl (by kernel_rfl) (by rfl) (fun W hW => ?_) ?_
  rotate_left 1
  · go_simp <;> with_reducible rfl
  simp only [Act.put, List.setIfInBounds_toArray, List.set_cons_succ, List.set_cons_zero]
  refine flow_val ?_ rfl (by kernel_rfl) (by rfl) (fun W hW => ?_) ?_
  rotate_left 1
  · go_simp <;> with_reducible rfl
  simp only [Act.put, List.setIfInBounds_toArray, List.set_cons_succ, List.set_cons_zero]
  refine flow_val ?_ rfl (by kernel_rfl) (by rfl) (fun W hW => ?_) ?_
  rotate_left 1
  · have c1 : W.cell? ⟨p, 2, none⟩ = some (.int .i64 s.mark) := cell_at (HP.out W hW) 2; go_simp <;> with_reducible rfl
  simp only [Act.put, List.setIfInBounds_toArray, List.set_cons_succ, List.set_cons_zero]
  refine flow_val ?_ rfl (by kernel_rfl) (by rfl) (fun W hW => ?_) ?_
  rotate_left 1
  · go_simp <;> with_reducible rfl
  simp only [Act.put, List.setIfInBounds_toArray, List.set_cons_succ, List.set_cons_zero]
  refine flow_val ?_ rfl (by kernel_rfl) (by rfl) (fun W hW => ?_) ?_
  rotate_left 1
  · go_simp <;> with_reducible rfl
  simp only [Act.put, List.setIfInBounds_toArray, List.set_cons_succ, List.set_cons_zero]
  refine flow_val ?_ rfl (by kernel_rfl) (by rfl) (fun W hW => ?_) ?_
  rotate_left 1
  · go_simp <;> with_reducible rfl
  simp only [Act.put, List.setIfInBounds_toArray, List.set_cons_succ, List.set_cons_zero]
  refine flow_val ?_ rfl (by kernel_rfl) (by rfl) (fun W hW => ?_) ?_
  rotate_left 1
  · have c1 : W.cell? ⟨p, 0, none⟩ = some (.slice A n c) := cell_at (HP.out W hW) 0; go_simp <;> with_reducible rfl
  simp only [Act.put, List.setIfInBounds_toArray, List.set_cons_succ, List.set_cons_zero]
  refine flow_val ?_ rfl (by kernel_rfl) (by rfl) (fun W hW => ?_) ?_
  rotate_left 1
  · go_simp <;> with_reducible rfl
  simp only [Act.put, List.setIfInBounds_toArray, List.set_cons_succ, List.set_cons_zero]
  refine flow_gcall (Mkv w ([], false)) rfl (by kernel_rfl) (by rfl) (by kernel_rfl) (fun W hW _ => ⟨_, _, _, by go_simp, (mkv_new hW).mono fun e w1 hh => hh⟩) ?_
  rintro v ⟨_, _, _⟩
  simp only [Act.put, List.setIfInBounds_toArray, List.set_cons_succ, List.set_cons_zero]
  refine flow_turn (v) (Mkv w (putS ([], false) (numB s.sent)) v) rfl (by kernel_rfl) (by rfl) (by kernel_rfl) (fun W hW hC => ⟨_, _, _, by go_simp, (mkv_num hC s.sent ⟨by have := HG.out.sent; omega, HG.out.sent.2⟩).mono fun e w1 ⟨he, hb, hk⟩ => ⟨he, ⟨hb, trivial⟩, hk⟩⟩) ?_
  simp only [Act.put, List.setIfInBounds_toArray, List.set_cons_succ, List.set_cons_zero]
  refine flow_turn (v) (Mkv w (putS (putS ([], false) (numB s.sent)) (numB s.mark)) v) rfl (by kernel_rfl) (by rfl) (by kernel_rfl) (fun W hW hC => ⟨_, _, _, by go_simp, (mkv_num hC s.mark ⟨by have := HG.out.mark; omega, HG.out.mark.2⟩).mono fun e w1 ⟨he, hb, hk⟩ => ⟨he, ⟨⟨hb, trivial⟩, trivial⟩, hk⟩⟩) ?_
  simp only [Act.put, List.setIfInBounds_toArray, List.set_cons_succ, List.set_cons_zero]
  refine flow_turn (v) (Mkv w (putS (putS (putS ([], false) (numB s.sent)) (numB s.mark)) (numB n)) v) rfl (by kernel_rfl) (by rfl) (by kernel_rfl) (fun W hW hC => ⟨_, _, _, by go_simp, (mkv_num hC n ⟨by omega, by omega⟩).mono fun e w1 ⟨he, hb, hk⟩ => ⟨he, ⟨⟨⟨hb, trivial⟩, trivial⟩, trivial⟩, hk⟩⟩) ?_
  simp only [Act.put, List.setIfInBounds_toArray, List.set_cons_succ, List.set_cons_zero]
  refine flow_val ?_ rfl (by kernel_rfl) (by rfl) (fun W hW => ?_) ?_
  rotate_left 1
  · go_simp <;> with_reducible rfl
  simp only [Act.put, List.setIfInBounds_toArray, List.set_cons_succ, List.set_cons_zero]
  refine flow_done2 ?_
  intro W hW0 hC
  have hM := hC
  rw [← HN.out, pkE_0] at hM
  obtain ⟨pm, rfl, hM⟩ := hM
  have HM := Lib.hid hM
  have x0 : W.cell? ⟨p, 0, none⟩ = some (.slice A n c) := cell_at (HP.out W hM.below) 0
  clear hM hC hW0
  go_wp2_with fail
  go_loopw [32] (fun iv wr => ∃ k : Nat, k ≤ n ∧ iv = .int .i64 k ∧ Mk w pm (pkE s k, false) wr) (fun iv _ => n - (intOf iv).toNat)
  case atStart => exact ⟨0, Nat.zero_le _, rfl, HM.out⟩
  case round =>
    obtain ⟨k, hk, rfl, hx⟩ := hrel
    have HX := Lib.hid hx
    clear hx HM x0
    by_cases hltk : k < n
    · have hks : k < s.l.length := by rw [HN.out]; exact hltk
      obtain ⟨g, Ab, cb, rfl, hc⟩ := HIT.out k hks
      have HS := Lib.hid (HPK.out k hks)
      have HO := Lib.hid (HG.out.it s.l[k] (List.getElem_mem hks))
      obtain ⟨x, hxx⟩ : ∃ x, s.l[k] = x := ⟨_, rfl⟩
      rw [hxx] at hc HS HO
      have HC := Lib.hid hc
      have hsz : (strOf x.body).size ≤ 140737488351232 := by rw [strOf_size]; have := HO.out.1; omega
      obtain ⟨c0, c1, c2, c3, _⟩ := hc wr HX.out.below
      have HNat := Lib.hid (natsOf_strOf HO.out.2.1)
      obtain ⟨S, hSe⟩ : ∃ S, strOf x.body = S := ⟨_, rfl⟩
      have HSE := Lib.hid hSe
      rw [hSe] at hsz HNat
      obtain ⟨wb, hwb⟩ : ∃ wb, wr.alloc (.cells #[.int .i64 x.seq, .slice Ab x.body.length cb, .int .i64 x.tries, .int .i64 x.due] 84) = wb := ⟨_, rfl⟩
      obtain ⟨b, hb⟩ : ∃ b, wr.heap.size = b := ⟨_, rfl⟩
      have hbb : wb.heap[b]? = some (.cells #[.int .i64 x.seq, .slice Ab x.body.length cb, .int .i64 x.tries, .int .i64 x.due] 84 (0, 0)) := by rw [← hwb, ← hb]; exact block_new _ _
      have HXB : Hid (Mk w pm (pkE s k, false) wb) := Lib.hid (HX.out.keep (by rw [← hwb]; exact (Below.refl _ wr).alloc (Nat.le_refl _) _))
      have HBB := Lib.hid hbb
      have HWB := Lib.hid hwb
      clear hks hc hxx hSe hwb hbb
      go_wp2_with fail
      rw [HWB.out]
      clear hb
      refine wp_region_flow2 (fun W => Below w.heap.size w W ∧ W.heap[b]? = some (.cells #[.int .i64 x.seq, .slice Ab x.body.length cb, .int .i64 x.tries, .int .i64 x.due] 84 (0, 0))) (fun W => Mk w pm (pkE s k, false) W) [0, 1, 2, 3, 5, 6, 8, 9, 4, 7, 10] (by kernel_rfl) (by kernel_rfl) (by kernel_rfl) ⟨HXB.out.below.trans ((Below.refl _ wb).drew.mono HXB.out.below.size), HBB.out⟩ (HXB.out.keep (Below.refl _ wb).drew) ?_
      refine flow_val ?_ rfl (by kernel_rfl) (by rfl) (fun W hW => ?_) ?_
      rotate_left 1
      · go_simp <;> with_reducible rfl
      simp only [Act.put, List.setIfInBounds_toArray, List.set_cons_succ, List.set_cons_zero]
      refine flow_val ?_ rfl (by kernel_rfl) (by rfl) (fun W hW => ?_) ?_
      rotate_left 1
      · go_simp <;> with_reducible rfl
      simp only [Act.put, List.setIfInBounds_toArray, List.set_cons_succ, List.set_cons_zero]
      refine flow_val ?_ rfl (by kernel_rfl) (by rfl) (fun W hW => ?_) ?_
      rotate_left 1
      · have c1 : W.cell? ⟨b, 1, none⟩ = some (.slice Ab x.body.length cb) := cell_at hW.2 1; go_simp <;> with_reducible rfl
      simp only [Act.put, List.setIfInBounds_toArray, List.set_cons_succ, List.set_cons_zero]
      refine flow_val ?_ rfl (by kernel_rfl) (by rfl) (fun W hW => ?_) ?_
      rotate_left 1
      · have hs1 := HSE.out ▸ run_str W Ab _ cb x.body (HC.out W hW.1).2.2.2.2 HO.out.2.1; go_simp <;> with_reducible rfl
      simp only [Act.put, List.setIfInBounds_toArray, List.set_cons_succ, List.set_cons_zero]
      refine flow_val ?_ rfl (by kernel_rfl) (by rfl) (fun W hW => ?_) ?_
      rotate_left 1
      · go_simp <;> with_reducible rfl
      simp only [Act.put, List.setIfInBounds_toArray, List.set_cons_succ, List.set_cons_zero]
      refine flow_val ?_ rfl (by kernel_rfl) (by rfl) (fun W hW => ?_) ?_
      rotate_left 1
      · have c1 : W.cell? ⟨b, 2, none⟩ = some (.int .i64 x.tries) := cell_at hW.2 2; go_simp <;> with_reducible rfl
      simp only [Act.put, List.setIfInBounds_toArray, List.set_cons_succ, List.set_cons_zero]
      refine flow_val ?_ rfl (by kernel_rfl) (by rfl) (fun W hW => ?_) ?_
      rotate_left 1
      · go_simp <;> with_reducible rfl
      simp only [Act.put, List.setIfInBounds_toArray, List.set_cons_succ, List.set_cons_zero]
      refine flow_val ?_ rfl (by kernel_rfl) (by rfl) (fun W hW => ?_) ?_
      rotate_left 1
      · have c1 : W.cell? ⟨b, 3, none⟩ = some (.int .i64 x.due) := cell_at hW.2 3; go_simp <;> with_reducible rfl
      simp only [Act.put, List.setIfInBounds_toArray, List.set_cons_succ, List.set_cons_zero]
      refine flow_turn (.pointer (some ⟨pm, 0, none⟩)) (Mk w pm (putS (pkE s k, false) (textB (natsOf S)))) rfl (by kernel_rfl) (by rfl) (by kernel_rfl) (fun W hW hC => ⟨_, _, _, by go_simp, (mk_keep hC fun G hM => mtext_any pm G _ S W hM hsz).mono fun e w1 ⟨he, hk, h5⟩ => ⟨he, ⟨hk.below, h5 _ _ _ _ hW.2 (by decide) (by decide)⟩, hk⟩⟩) ?_
      simp only [Act.put, List.setIfInBounds_toArray, List.set_cons_succ, List.set_cons_zero]
      refine flow_turn (.pointer (some ⟨pm, 0, none⟩)) (Mk w pm (putS (putS (pkE s k, false) (textB (natsOf S))) (numB x.tries))) rfl (by kernel_rfl) (by rfl) (by kernel_rfl) (fun W hW hC => ⟨_, _, _, by go_simp, (mk_keep hC fun G hM => mnum_any pm G _ x.tries W hM ⟨by have := HO.out.2.2; omega, HO.out.2.2.2.1⟩).mono fun e w1 ⟨he, hk, h5⟩ => ⟨he, ⟨⟨hk.below, h5 _ _ _ _ hW.1.2 (by decide) (by decide)⟩, trivial⟩, hk⟩⟩) ?_
      simp only [Act.put, List.setIfInBounds_toArray, List.set_cons_succ, List.set_cons_zero]
      refine flow_turn (.pointer (some ⟨pm, 0, none⟩)) (Mk w pm (putS (putS (putS (pkE s k, false) (textB (natsOf S))) (numB x.tries)) (numB x.due))) rfl (by kernel_rfl) (by rfl) (by kernel_rfl) (fun W hW hC => ⟨_, _, _, by go_simp, (mk_keep hC fun G hM => mnum_any pm G _ x.due W hM HO.out.2.2.2.2).mono fun e w1 ⟨he, hk, h5⟩ => ⟨he, ⟨⟨⟨hk.below, h5 _ _ _ _ hW.1.1.2 (by decide) (by decide)⟩, trivial⟩, trivial⟩, hk⟩⟩) ?_
      simp only [Act.put, List.setIfInBounds_toArray, List.set_cons_succ, List.set_cons_zero]
      refine flow_done2 ?_
      intro W hW0 hC
      have hM := hC
      rw [HNat.out, HS.out] at hM
      have HM := Lib.hid hM
      clear hM hC hW0
      go_wp2_with fail
      go_roundw
      case rel => exact ⟨k + 1, hltk, by go_num, HM.out⟩
      case measure => simp [intOf]; omega
    · obtain rfl : k = n := by omega
      have hM := HX.out
      rw [← HN.out, pkE_all] at hM
      have HM := Lib.hid hM
      have hpl := packE_len HG.out
      clear hM hltk
      go_wp2_with fail
      refine (mk_done HM.out (by simp only; omega)).mono ?_
      rintro e w9 ⟨v, rfl, hv, _, _, hm9⟩
      have HV := Lib.hid hv
      have HB9 := Lib.hid hm9.below
      simp only [Bool.false_eq_true, if_false] at HV ⊢
      clear hv hm9
      go_wp2
      go_ret
      exact ⟨_, rfl, HV.out, HB9.out⟩
end Go.Proofs.Ytnmbblkfaoihfaa
