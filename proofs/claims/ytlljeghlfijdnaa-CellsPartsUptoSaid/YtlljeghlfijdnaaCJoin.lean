/- cells.Join: texts' cells, one behind the other. -/
import Derived.Test.YtlljeghlfijdnaaCCat
namespace Go.Proofs.Ytlljeghlfijdnaa
open Go.RowKit

/-- One text's cell. -/
def cellB (b : List Nat) : List Nat := numB b.length ++ b
def joinB (l : List (List Nat)) : List Nat := (l.map cellB).flatten
/-- What a round of a join adds. -/
theorem join_step (l : List (List Nat)) (L : List (List Nat)) (h : l.map cellB = L) (k : Nat) (hk : k < l.length) :
    cat L (k + 1) = cat L k ++ (numB (l[k]).length ++ l[k]) ∧ catN L (k + 1) = catN L k + (numB (l[k]).length).length + (l[k]).length ∧ catN L (k + 1) ≤ L.flatten.length := by
  subst h
  have h1 := cat_succ (l.map cellB) k (by simpa using hk)
  have h2 : (l.map cellB)[k]'(by simpa using hk) = numB (l[k]).length ++ l[k] := by simp [cellB]
  rw [h2] at h1
  refine ⟨h1, ?_, catN_le _ _⟩
  unfold catN
  rw [h1]
  simp only [List.length_append]
  omega
theorem join_all (l : List (List Nat)) (L : List (List Nat)) (h : l.map cellB = L) : cat L l.length = joinB l ∧ catN L l.length = (joinB l).length := by
  subst h
  have h1 : cat (l.map cellB) l.length = joinB l := by
    have := cat_all (l.map cellB)
    rwa [List.length_map] at this
  exact ⟨h1, by unfold catN; rw [h1]⟩
/-- What holds between two rounds of Join. -/
def JoinRel (w : World) (n : Nat) (L : List (List Nat)) (v i : Value) (wr : World) : Prop := ∃ k, k ≤ n ∧ i = .int .i64 k ∧ wr.ownsRow w.heap.size 5 1 v (catN L k) ((cat L k).map u8v) ∧ Below w.heap.size w wr

set_option maxRecDepth 100000 in
set_option maxHeartbeats 2000000 in
theorem join_any (v : Value) (l : List (List Nat)) (w : World) (hv : Bss w v l) (ht : (joinB l).length ≤ 140737488355328) :
    Calls Try.prog 36 #[v] w (RetO (joinB l) w) := by
  obtain ⟨i0, hi0, hz0, hz1, hz2⟩ := info_parts Try.infoByte
  obtain ⟨A, c, hs, rfl, hlc, hcm, hr, hbs⟩ := hv
  have hlm : l.length ≤ 9223372036854775807 := by unfold maxLen at hcm; omega
  have hl0 : hs.length = l.length := by simpa using hr.1
  have hcell : ∀ k (h : k < l.length), ∃ g o Ak ck, A = some ⟨g, o, none⟩ ∧ g < w.heap.size ∧ w.cell? ⟨g, o + k, none⟩ = some (.slice Ak (l[k]).length ck) ∧ (l[k]).length ≤ ck ∧ ck ≤ maxLen ∧ Rd w 1 Ak (l[k]).length ((l[k]).map u8v) := by
    intro k hk
    obtain ⟨g, o, ha, hg, hc⟩ := hr.2 (by omega)
    obtain ⟨Ak, ck, e1, e2, e3, e4⟩ := hbs k hk hs[k] (by simp [hl0, hk])
    exact ⟨g, o, Ak, ck, ha, hg, by rw [hc k hs[k] (by simp [hl0, hk]), e1], e2, e3, e4⟩
  have HC := Lib.hid hcell
  obtain ⟨L, hL⟩ : ∃ L, l.map cellB = L := ⟨_, rfl⟩
  have HS := Lib.hid (fun k h => join_step l L hL k h)
  have HA := Lib.hid (join_all l L hL)
  have ht' : L.flatten.length ≤ 140737488355328 := by rw [← hL]; exact ht
  obtain ⟨T, hT⟩ : ∃ T, L.flatten.length = T := ⟨_, rfl⟩
  rw [hT] at ht' HS
  clear hcell hbs hr hl0 hcm hL ht hT
  go_enter Try.func36, Try.ntmps36
  go_wp2_with fail
  go_loopw [3, 8] (fun v i wr => JoinRel w l.length L v i wr) (fun _ i _ => l.length - (intOf i).toNat)
  case atStart => exact ⟨0, Nat.zero_le _, rfl, World.ownsRow_nil _ _ _ _, Below.refl _ _⟩
  case round =>
    obtain ⟨k, hk, rfl, ho, hb⟩ := hrel
    have HO := Lib.hid ho
    clear ho
    by_cases hlt : k < l.length
    · obtain ⟨g, o, Ak, ck, rfl, hg, hc0, hck, hckm, hrk⟩ := HC.out k hlt
      have hc : wr.cell? ⟨g, o + k, none⟩ = some (.slice Ak (l[k]).length ck) := (hb.cell (p := ⟨g, o + k, none⟩) hg).trans hc0
      obtain ⟨hs1, hs2, hs3⟩ := HS.out k hlt
      obtain ⟨bs, hbs⟩ : ∃ bs, l[k] = bs := ⟨_, rfl⟩
      rw [hbs] at hc hck hrk hs1 hs2
      obtain ⟨m, hm⟩ : ∃ m, bs.length = m := ⟨_, rfl⟩
      rw [hm] at hc hck hrk hs1 hs2
      have hnl := (numB_length (m : Int)).2
      have HR := Lib.hid hrk
      have H1 := Lib.hid hs1
      have hmm : m ≤ 9223372036854775807 := by unfold maxLen at hckm; omega
      have HCK := Lib.hid hckm
      clear hc0 hrk hbs hs1 hckm hm
      go_wp2_with fail
      refine (num_any _ _ (by unfold I64; omega)).mono ?_
      rintro e w1 ⟨v1, rfl, ⟨A1, c1, rfl, hc1, hcm1, hr1⟩, hb1⟩
      obtain ⟨d, hd⟩ : ∃ d, (numB (m : Int)).length = d := ⟨_, rfl⟩
      rw [hd] at hc1 hr1 hs2 hnl
      have HO1 := Lib.hid ((Fr.of_below (B := 0) (T := []) (S := []) hb1).own HO.out (by simp) (by simp))
      have HR1 := Lib.hid hr1
      have HR2 := Lib.hid (HR.out.below (hb.trans (hb1.mono hb.size)))
      have HB1 := Lib.hid (hb.trans (hb1.mono hb.size))
      have hz1' : w.heap.size ≤ w1.heap.size := HB1.out.size
      simp only [hd]
      clear hr1 hcm1 hd hb1
      go_wp2_with (first
                | (at_builtin
                   refine wpList_append_rd_at _ rfl (.tmp 12) (.tmp 15) 22 rfl w.heap.size 5 i0 (.int .u8 0) 1 1 Try.underlying22 hi0 hz0 hz1 hz2 rfl (by decide) u3 _ _ rfl HO1.out A1 d c1 ((numB (m : Int)).map u8v) rfl HR1.out (u8_one' _) (by unfold maxLen; omega) (by omega) hz1' ?_
                   intro v5 w5 hown5 hgrow5 _
                   have f5 : Fr w.heap.size [5] [] w1 w5 := (Fr.refl w1).grown hgrow5 (fun j hj => by
                     obtain ⟨hb, cs, hc⟩ := own_block HO1.out hj
                     exact ⟨hb, .inr ⟨cs, _, _, hc, by simp⟩⟩)
                   have HB5 := Lib.hid (HB1.out.trans (f5.below hz1'))
                   have HO5 := Lib.hid hown5
                   have HR5 := Lib.hid (HR.out.below HB5.out)
                   have hz5 : w.heap.size ≤ w5.heap.size := HB5.out.size
                   clear hown5 hgrow5 f5)
                | (at_builtin
                   refine wpList_append_rd_at _ rfl (.tmp 17) (.tmp 18) 22 rfl w.heap.size 5 i0 (.int .u8 0) 1 1 Try.underlying22 hi0 hz0 hz1 hz2 rfl (by decide) v5 _ _ rfl HO5.out Ak m ck (bs.map u8v) rfl HR5.out (u8_one' _) (by unfold maxLen; omega) (by omega) hz5 ?_
                   intro v6 w6 hown6 hgrow6 _
                   have f6 : Fr w.heap.size [5] [] w5 w6 := (Fr.refl w5).grown hgrow6 (fun j hj => by
                     obtain ⟨hb, cs, hc⟩ := own_block HO5.out hj
                     exact ⟨hb, .inr ⟨cs, _, _, hc, by simp⟩⟩)
                   have HB6 := Lib.hid (HB5.out.trans (f6.below hz5))
                   have HO6 := Lib.hid hown6
                   clear hown6 hgrow6 f6))
      go_roundw
      case rel =>
        refine ⟨k + 1, hlt, by go_num, ?_, HB6.out⟩
        have := HO6.out
        rw [hs2, H1.out, List.map_append, List.map_append, ← List.append_assoc]
        exact this
      case measure => simp [intOf]; omega
    · obtain rfl : k = l.length := by omega
      go_wp2
      go_ret
      refine ⟨_, rfl, ?_, hb⟩
      have := HO.out
      rwa [HA.out.1, HA.out.2] at this
end Go.Proofs.Ytlljeghlfijdnaa
