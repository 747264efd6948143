/- Unpacking: a taker and the end that is made of what it takes. -/
import Derived.Test.YtnmbblkfaoihfaaZLP29
import Derived.Test.YtnmbblkfaoihfaaZLP17
namespace Go.Proofs.Ytnmbblkfaoihfaa
open Go.RowKit

/-- Items in a row of a call's own. -/
def HeldU (W : World) (B : Nat) (TI : TypeId) (v : Value) (l : List LIt) : Prop :=
  ∃ zs : List LIm, zs.map (·.it) = l ∧ W.ownsRow B TI 4 v l.length (zs.flatMap encL) ∧ ∀ z ∈ zs, ByO W z.bv z.it.body
theorem HeldU.own {W : World} {B : Nat} {TI : TypeId} {v : Value} {l : List LIt} (h : HeldU W B TI v l) : ∃ xs, W.ownsRow B TI 4 v l.length xs := by
  obtain ⟨zs, _, h, _⟩ := h
  exact ⟨_, h⟩
theorem HeldU.fr {W W' : World} {B : Nat} {TI : TypeId} {v : Value} {l : List LIt} {S : List Nat} (h : HeldU W B TI v l) (f : Fr 0 [] S W W') (hg : ∀ k, v.ownBlock = some k → k ∉ S) (hS : ∀ k ∈ S, ∀ cs fz, W.heap[k]? ≠ some (.cells cs 5 fz)) : HeldU W' B TI v l := by
  obtain ⟨zs, h1, h2, h3⟩ := h
  exact ⟨zs, h1, f.own h2 (by simp) hg, fun z hz => (h3 z hz).frame f (by simp) hS⟩
/-- Where the end at pe is made out of a taker at pt. -/
structure UE (w : World) (TT TE TI : TypeId) (pt pe : Nat) (D : Option Nat) (s : List Nat × Bool) (v : Value) (l : List LIt) (sent mark : Int) (W : World) : Prop where
  t : IsT W TT pt D s
  lt : pt < pe
  d : ∀ d, D = some d → d < pe ∧ d ≠ pt
  low : w.heap.size ≤ pt
  e : W.heap[pe]? = some (.cells #[v, .int .i64 sent, .int .i64 mark] TE (0, 0))
  r : HeldU W pe TI v l
  bel : Below w.heap.size w W
section
variable {w W W' : World} {TT TE TI : TypeId} {pt pe : Nat} {D : Option Nat} {s s' : List Nat × Bool} {v v' : Value} {l : List LIt} {sent mark : Int}
theorem UE.dp (h : UE w TT TE TI pt pe D s v l sent mark W) : D ≠ some pt := fun e => (h.d _ e).2 rfl
theorem UE.ownb (h : UE w TT TE TI pt pe D s v l sent mark W) : ∀ g, v.ownBlock = some g → pe ≤ g ∧ g < W.heap.size ∧ ∃ cs, W.heap[g]? = some (.cells cs TI (0, 0)) := fun g hg => by
  obtain ⟨_, h1⟩ := h.r.own
  obtain ⟨h2, cs, hc⟩ := own_block h1 hg
  exact ⟨h2, lt_of_block hc, cs, hc⟩
theorem ne_u8 {k : Nat} {cs : Array Value} {T : TypeId} {fz : Nat × Nat} (h : W.heap[k]? = some (.cells cs T fz)) (hT : T ≠ 5) : ∀ j ∈ [k], ∀ cs' fz', W.heap[j]? ≠ some (.cells cs' 5 fz') := fun j hj cs' fz' e => by
  simp at hj
  subst hj
  rw [h] at e
  injection e with e
  injection e with _ e
  exact hT e
theorem UE.turn (h : UE w TT TE TI pt pe D s v l sent mark W) (hTT : TT ≠ 5) {val : Value} {e : Ending} (hr : RetT TT pt D val s' W e W') : e = .returned val ∧ UE w TT TE TI pt pe D s' v l sent mark W' := by
  obtain ⟨he, hT, hf⟩ := hr
  have hlt := h.lt
  obtain ⟨_, _, hb, _⟩ := id h.t
  refine ⟨he, hT, hlt, h.d, h.low, hf.keep0 h.e (by simp; omega), h.r.fr hf (fun k hk => ?_) (ne_u8 hb hTT), h.bel.trans (hf.belowT h.low h.bel.size)⟩
  have := (h.ownb k hk).1
  simp
  omega
theorem HeldU.below {B : Nat} (h : HeldU W B TI v l) (b : Below W.heap.size W W') : HeldU W' B TI v l := h.fr (Fr.of_below (T := []) (S := []) b) (by simp) (by simp)
theorem UE.below (h : UE w TT TE TI pt pe D s v l sent mark W) (b : Below W.heap.size W W') : UE w TT TE TI pt pe D s v l sent mark W' :=
  ⟨h.t.below b, h.lt, h.d, h.low, (b.block _ (lt_of_block h.e)).trans h.e, h.r.below b, h.bel.trans (b.mono h.bel.size)⟩
theorem UE.set (h : UE w TT TE TI pt pe D s v l sent mark W) {px : Nat} (hp : pe < px) (hg : ∀ g, v.ownBlock = some g → g ≠ px) {cs : Array Value} {T : TypeId} {fz : Nat × Nat} (hx : W.heap[px]? = some (.cells cs T fz)) (hT : T ≠ 5) (i : Nat) (u : Value) : UE w TT TE TI pt pe D s v l sent mark (W.setCell ⟨px, i, none⟩ u) := by
  have hlt := h.lt
  have f : Fr 0 [] [px] W (W.setCell ⟨px, i, none⟩ u) := (Fr.refl W).setCell (p := ⟨px, i, none⟩) _ (Nat.zero_le _) (.inl (by simp))
  exact ⟨h.t.keep f (by simp; omega) (fun d hd => by have := (h.d d hd).1; simp; omega), hlt, h.d, h.low, f.keep0 h.e (by simp; omega), h.r.fr f (fun k hk => by simpa using hg k hk) (ne_u8 hx hT), h.bel.trans (f.belowT (by have := h.low; omega) h.bel.size)⟩
/-- A number of the end's own is stored. -/
theorem UE.num (h : UE w TT TE TI pt pe D s v l sent mark W) (hTE : TE ≠ 5) (hne : TE ≠ TI) {i : Nat} {u : Value} {sent' mark' : Int} (he : (#[v, .int .i64 sent, .int .i64 mark] : Array Value).setIfInBounds i u = #[v, .int .i64 sent', .int .i64 mark']) : UE w TT TE TI pt pe D s v l sent' mark' (W.setCell ⟨pe, i, none⟩ u) := by
  have hlt := h.lt
  have f : Fr 0 [] [pe] W (W.setCell ⟨pe, i, none⟩ u) := (Fr.refl W).setCell (p := ⟨pe, i, none⟩) _ (Nat.zero_le _) (.inl (by simp))
  refine ⟨h.t.keep f (by simp; omega) (fun d hd => by have := (h.d d hd).1; simp; omega), hlt, h.d, h.low, by rw [block_set h.e, he], h.r.fr f (fun k hk => ?_) (ne_u8 h.e hTE), h.bel.trans (f.belowT (by have := h.low; omega) h.bel.size)⟩
  obtain ⟨h1, _, cs, hc⟩ := h.ownb k hk
  simpa using block_ne hc h.e hne.symm
theorem IsT.lowB {B p : Nat} {T : TypeId} (h : IsT W T p D s) (b : Below B W W') (hp : p < B) (hD : ∀ d, D = some d → d < B) : IsT W' T p D s := by
  obtain ⟨A, c, h1, h2, h3, h4, h5, h6, h7⟩ := h
  refine ⟨A, c, (b.block _ hp).trans h1, h2, h3, ⟨h4.1, fun hn => ?_⟩, h5, h6, h7⟩
  obtain ⟨g, o, e, hg, hc⟩ := h4.2 hn
  have hgB := hD _ (h5 hn _ e)
  exact ⟨g, o, e, Nat.lt_of_lt_of_le hg b.size, fun j u hu => (World.cell?_of_block (a := ⟨g, o + j, none⟩) (b.block g hgB)).trans (hc j u hu)⟩
/-- Where one more has been appended, and not been stored. -/
structure UF (w : World) (TT TE TI : TypeId) (pt pe : Nat) (D : Option Nat) (s : List Nat × Bool) (v v' : Value) (l : List LIt) (sent mark : Int) (W : World) : Prop where
  t : IsT W TT pt D s
  lt : pt < pe
  d : ∀ d, D = some d → d < pe ∧ d ≠ pt
  low : w.heap.size ≤ pt
  e : W.heap[pe]? = some (.cells #[v, .int .i64 sent, .int .i64 mark] TE (0, 0))
  r : HeldU W pe TI v' l
  ne : ∀ g, v'.ownBlock = some g → g ≠ pe
  bel : Below w.heap.size w W
theorem UE.fr {xs : List Value} {n : Nat} (ho : W.ownsRow pe TI 4 v n xs) (hg : W.grownBy W' v.ownBlock) (B : Nat) (hB : B ≤ pe) : Fr B [TI] [] W W' := (Fr.refl W).grown hg fun k hk => by
  obtain ⟨hb, cs, hc⟩ := own_block ho hk
  exact ⟨by omega, .inr ⟨cs, _, _, hc, by simp⟩⟩
theorem UE.app (h : UE w TT TE TI pt pe D s v l sent mark W) (hne : TE ≠ TI) (hTI : TI ≠ 5) {zs : List LIm} (hz : zs.map (·.it) = l) (ho : W.ownsRow pe TI 4 v l.length (zs.flatMap encL)) (hb : ∀ z ∈ zs, ByO W z.bv z.it.body) {x : LIt} {bv : Value} (hx : ByO W bv x.body)
    (ho' : W'.ownsRow pe TI 4 v' (l.length + 1) (zs.flatMap encL ++ encL ⟨x, bv⟩)) (hg : W.grownBy W' v.ownBlock) :
    UF w TT TE TI pt pe D s v v' (l ++ [x]) sent mark W' := by
  have hlt := h.lt
  have hpb := lt_of_block h.e
  have f1 := UE.fr ho hg pe (Nat.le_refl _)
  have f0 := UE.fr ho hg 0 (Nat.zero_le _)
  have b1 : Below pe W W' := f1.below (by omega)
  have he := f1.keep h.e (by simpa using hne) (by simp)
  have hu : 5 ∉ [TI] := by simpa using fun e : 5 = TI => hTI e.symm
  refine ⟨h.t.lowB b1 hlt (fun d hd => (h.d d hd).1), hlt, h.d, h.low, he, ⟨zs ++ [⟨x, bv⟩], by simp [hz], by rw [List.length_append]; simpa using ho', fun z hz' => ?_⟩, fun g hg' => ?_, h.bel.trans (b1.mono (by have := h.low; omega))⟩
  · rcases List.mem_append.1 hz' with hz' | hz'
    · exact (hb z hz').frame f0 hu (by simp)
    · simp at hz'
      subst hz'
      exact hx.frame f0 hu (by simp)
  · obtain ⟨_, cs, hc⟩ := own_block ho' hg'
    rintro rfl
    rw [he] at hc
    injection hc with hc
    injection hc with _ hc
    exact hne hc
theorem UF.store (h : UF w TT TE TI pt pe D s v v' l sent mark W) (hTE : TE ≠ 5) : UE w TT TE TI pt pe D s v' l sent mark (W.setCell ⟨pe, 0, none⟩ v') := by
  have hlt := h.lt
  have f : Fr 0 [] [pe] W (W.setCell ⟨pe, 0, none⟩ v') := (Fr.refl W).setCell (p := ⟨pe, 0, none⟩) _ (Nat.zero_le _) (.inl (by simp))
  exact ⟨h.t.keep f (by simp; omega) (fun d hd => by have := (h.d d hd).1; simp; omega), hlt, h.d, h.low, by rw [block_set h.e]; rfl, h.r.fr f (fun k hk => by simpa using h.ne k hk) (ne_u8 h.e hTE), h.bel.trans (f.belowT (by have := h.low; omega) h.bel.size)⟩
/-- The end, as the contracts of an end's methods want it. -/
theorem UE.ise (h : UE w TT TE TI pt pe D s v l sent mark W) : IsE W TI TE pe v.ownBlock ⟨l, sent, mark⟩ := by
  obtain ⟨zs, h1, h2, h3⟩ := h.r
  exact ⟨v, h.e, zs, h1, own_low h2 (Nat.zero_le _), rfl, h3⟩
end
/-- '[]byte(s)': the text's bytes, a body. -/
theorem str_body (w : World) (t : ByteArray) (ht : t.size ≤ maxLen) : ∃ c W, (convert 9 41 (.string t)).run Try.prog w = .ok (.slice (some ⟨w.heap.size, 0, none⟩) t.size c) W ∧
    ByO W (.slice (some ⟨w.heap.size, 0, none⟩) t.size c) (natsOf t) ∧ Below w.heap.size w W ∧ W.heap.size = w.heap.size + 1 := by
  refine ⟨_, _, run_bytes_of_string w 9 41 5 t Try.underlying9 Try.underlying41 Try.underlying5, ?_, (Below.refl w.heap.size w).drew.alloc (Nat.le_refl _) _, by simp⟩
  have hl := natsOf_length t
  refine ⟨⟨by simp, .inr ⟨w.heap.size, _, _, _, by rw [hl], block_new w.drew _, by rw [hl]; exact grownCap_ge w _ _ _, grownCap_le_maxLen w _ _ _ ht, ?_⟩⟩, natsOf_lt t⟩
  unfold bytesRow
  rw [Array.toList_append, List.take_append_of_le_length (by simp [hl])]
  rw [List.take_of_length_le (by simp [hl])]
  simp only [natsOf, List.map_map, Array.toList_map]
  exact List.map_congr_left (fun x _ => by simp; rfl)
/-- The same, where two values tell the state at the end of a drawn region. -/
theorem wp_region_mid2 {P : Program} {ops : Array Oper} {Q : Exit → Act → World → Prop} {id : Nat} {a : Act} {w : World} {α β : Type} {M : α → β → World → Prop} {tm : α → β → Act} (hm : P.follows .mixedOrders = true)
    (h : RegOK Fence.wide 9 P ops (fun x a w => x = .normal ∧ (∃ p q, a = tm p q ∧ M p q w) ∨ x ≠ .normal ∧ Q x a w) a w.drew) (hk : ∀ p q w, M p q w → Q .normal (tm p q) w) : (Code.region id ops true).wp P Q a w :=
  (wpIn_wide (n := 9)).1 (region_mid (fun a w => ∃ p q, a = tm p q ∧ M p q w) hm h fun a w hx => by
    obtain ⟨p, q, rfl, hx⟩ := hx
    exact hk p q w hx)
/-- The same, where three values tell it. -/
theorem wp_region_mid3 {P : Program} {ops : Array Oper} {Q : Exit → Act → World → Prop} {id : Nat} {a : Act} {w : World} {α β γ : Type} {M : α → β → γ → World → Prop} {tm : α → β → γ → Act} (hm : P.follows .mixedOrders = true)
    (h : RegOK Fence.wide 9 P ops (fun x a w => x = .normal ∧ (∃ p q r, a = tm p q r ∧ M p q r w) ∨ x ≠ .normal ∧ Q x a w) a w.drew) (hk : ∀ p q r w, M p q r w → Q .normal (tm p q r) w) : (Code.region id ops true).wp P Q a w :=
  (wpIn_wide (n := 9)).1 (region_mid (fun a w => ∃ p q r, a = tm p q r ∧ M p q r w) hm h fun a w hx => by
    obtain ⟨p, q, r, rfl, hx⟩ := hx
    exact hk p q r w hx)
/-- What Unpack answers. -/
def RetUE (TI TE : TypeId) (ok no : Value) (r : Option LSt) (w : World) (e : Ending) (w' : World) : Prop :=
  (match r with
    | none => e = .returned (.tuple #[.pointer none, no])
    | some s => ∃ q G, e = .returned (.tuple #[.pointer (some ⟨q, 0, none⟩), ok]) ∧ IsE w' TI TE q G s ∧ w.heap.size ≤ q ∧ ∀ g, G = some g → w.heap.size ≤ g) ∧ Below w.heap.size w w'
theorem retUE_none {TI TE : TypeId} {ok no : Value} {r : Option LSt} {w w' : World} (h : r = none) (hb : Below w.heap.size w w') : RetUE TI TE ok no r w (.returned (.tuple #[.pointer none, no])) w' := by
  subst h; exact ⟨rfl, hb⟩
theorem retUE_some {w W : World} {TT TE TI : TypeId} {pt pe : Nat} {D : Option Nat} {s : List Nat × Bool} {v : Value} {l : List LIt} {sent mark : Int} {ok no : Value} {r : Option LSt} (h : r = some ⟨l, sent, mark⟩) (hu : UE w TT TE TI pt pe D s v l sent mark W) : RetUE TI TE ok no r w (.returned (.tuple #[.pointer (some ⟨pe, 0, none⟩), ok])) W := by
  subst h
  have h1 := hu.low
  have h2 := hu.lt
  exact ⟨⟨pe, _, rfl, hu.ise, by omega, fun g hg => by have := (hu.ownb g hg).1; omega⟩, hu.bel⟩
theorem numT_nat (s : List Nat × Bool) (b : Int) (hb : 0 ≤ b) : ∃ n : Nat, (numT s 0 b).1 = n ∧ (n : Int) ≤ b := by
  rcases numT_range s 0 b with h | h
  · exact ⟨0, by rw [h]; rfl, hb⟩
  · exact ⟨(numT s 0 b).1.toNat, by omega, by omega⟩
end Go.Proofs.Ytnmbblkfaoihfaa
