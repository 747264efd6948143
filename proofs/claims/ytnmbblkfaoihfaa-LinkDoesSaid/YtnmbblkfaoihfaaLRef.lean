/- The reference's ends in memory. -/
import Derived.Test.YtnmbblkfaoihfaaLEn
namespace Go.Proofs.Ytnmbblkfaoihfaa
open Go.RowKit

theorem Try.infoRItem : (Try.prog.info? 91).map (fun i => (i.zero, i.size, i.bytes)) = some (some (.agg #[.int .i64 0, .slice none 0 0, .int .i64 0, .int .i64 0]), 4, 48) := by kernel_rfl
theorem Fr.cellS {S : List Nat} {a b : World} {g i : Nat} (h : Fr 0 [] S a b) (hg : g < a.heap.size) (hS : g ∉ S) : b.cell? ⟨g, i, none⟩ = a.cell? ⟨g, i, none⟩ := by
  simp only [World.cell?, h.block g hg (.inr ⟨fun _ _ _ _ => by simp, hS⟩)]
/-- An end of the reference. -/
abbrev IsX (W : World) (p : Nat) (G : Option Nat) (s : LSt) : Prop := IsE W 91 55 p G s
/-- What a call on it leaves. -/
def RetX (p : Nat) (G : Option Nat) (R : Ending → World → Prop) (s : LSt) (w : World) (e : Ending) (w' : World) : Prop :=
  ∃ G', R e w' ∧ IsX w' p G' s ∧ Fr 0 [] (p :: G.toList) w w' ∧ (∀ g, G' = some g → G = some g ∨ w.heap.size ≤ g)
/-- Other items, put in. -/
theorem isx_set0 {W : World} {p : Nat} {v0 v' : Value} {sent mark : Int} {zs : List LIm} {l : List LIt} (hp : W.heap[p]? = some (.cells #[v0, .int .i64 sent, .int .i64 mark] 55 (0, 0)))
    (ho : W.ownsRow 0 91 4 v' zs.length (zs.flatMap encL)) (hmap : zs.map (·.it) = l) (hb : ∀ z ∈ zs, ByO W z.bv z.it.body) :
    IsX (W.setCell ⟨p, 0, none⟩ v') p v'.ownBlock ⟨l, sent, mark⟩ := by
  have hlen : l.length = zs.length := by rw [← hmap]; simp
  have fs : Fr 0 [] [p] W (W.setCell ⟨p, 0, none⟩ v') := (Fr.refl W).setCell (p := ⟨p, 0, none⟩) _ (Nat.zero_le _) (.inl (by simp))
  refine ⟨v', by simpa using block_set hp 0 v', zs, hmap, ?_, rfl, fun z hz => (hb z hz).far fs hp (by decide)⟩
  rw [show (⟨l, sent, mark⟩ : LSt).l.length = zs.length from hlen]
  refine fs.own ho (by simp) (fun k hk hm => ?_)
  obtain ⟨_, cs, hc⟩ := own_block ho hk
  simp at hm
  subst hm
  rw [hp] at hc
  injection hc with e
  injection e with _ e _
  exact absurd e (by decide)
/-- Another mark. -/
theorem isx_mark {W : World} {p : Nat} {G : Option Nat} {s : LSt} (h : IsX W p G s) (m : Int) : IsX (W.setCell ⟨p, 2, none⟩ (.int .i64 m)) p G ⟨s.l, s.sent, m⟩ := by
  obtain ⟨v, hp, zs, h1, h2, h3, h4⟩ := h
  have fs : Fr 0 [] [p] W (W.setCell ⟨p, 2, none⟩ (.int .i64 m)) := (Fr.refl W).setCell (p := ⟨p, 2, none⟩) _ (Nat.zero_le _) (.inl (by simp))
  refine ⟨v, by simpa using block_set hp 2 (.int .i64 m), zs, h1, fs.own h2 (by simp) (fun k hk hm => ?_), h3, fun z hz => (h4 z hz).far fs hp (by decide)⟩
  obtain ⟨_, cs, hc⟩ := own_block h2 hk
  simp at hm
  subst hm
  rw [hp] at hc
  injection hc with e
  injection e with _ e _
  exact absurd e (by decide)
/-- What two stores of a round of Tick leave of the copied row. -/
theorem rtick_row {W : World} {B g c n : Nat} {zs : List LIm} {k : Nat} (hk : k < zs.length) (ho : W.ownsRow B 91 4 (.slice (some ⟨g, 0, none⟩) n c) n (zs.flatMap encL)) (hn : zs.length = n) (a b : Int) :
    ((W.setCell ⟨g, k * 4 + 3, none⟩ (.int .i64 a)).setCell ⟨g, k * 4 + 2, none⟩ (.int .i64 b)).ownsRow B 91 4 (.slice (some ⟨g, 0, none⟩) n c) n ((zs.set k ⟨⟨zs[k].it.seq, zs[k].it.body, b, a⟩, zs[k].bv⟩).flatMap encL) := by
  have hrow := own_set (own_set ho (i := k * 4 + 3) (by omega) (.int .i64 a)) (i := k * 4 + 2) (by omega) (.int .i64 b)
  rwa [flatL_set zs k hk] at hrow
end Go.Proofs.Ytnmbblkfaoihfaa
