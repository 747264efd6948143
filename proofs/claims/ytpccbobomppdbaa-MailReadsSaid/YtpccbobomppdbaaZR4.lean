/- Joined: Requests, by definition: which may be, their codes, what any bytes are as one; the one is the other's inverse. strings.Contains of the library at this translation, by the kit's shelf in its plain mode, for a text of one byte. -/
import Derived.Test.YtpccbobomppdbaaZR1
import Derived.Test.YtpccbobomppdbaaZR3
import Derived.Shelf.Strings.Search3
import Derived.Test.YtpccbobomppdbaaProg
namespace Go.Proofs.Ytpccbobomppdbaa
open Go.RowKit

/-- A request. -/
structure Ak where
  client : Int
  number : Int
  kind : Int
  order : Int
  region : Int
  to : Int
  n : Int
  good : ByteArray
  items : List It
/-- The fields of a kind, as letters. -/
def fldA (k : Int) : List Nat :=
  if k = 1 then [110, 105] else if k = 2 ∨ k = 3 ∨ k = 4 then [111] else if k = 5 then [111, 114, 105] else if k = 6 ∨ k = 8 ∨ k = 9 then [114, 105]
  else if k = 7 then [114, 110, 103] else if k = 10 then [114, 116, 105] else if k = 11 then [110] else []
def hasF (k : Int) (c : Nat) : Bool := (fldA k).contains c
def rightB (k : Int) (c : Nat) (x y : Bool) : Bool := if hasF k c = true then x else y
def inB (n a b : Int) : Bool := decide (a ≤ n) && decide (n ≤ b)
theorem inB_iff {n a b : Int} : inB n a b = true ↔ a ≤ n ∧ n ≤ b := by simp [inB]
def mayNA (k n : Int) : Bool := if k = 1 then inB n 0 1 else if k = 7 then mayC n else if k = 11 then inB n 1 4294967297 else decide (n = 0)
def mayA0 (a : Ak) : Bool := !(fldA a.kind).isEmpty && inB a.client 0 63 && inB a.number 1 4294967296
def mayA1 (a : Ak) : Bool := rightB a.kind 111 (inB a.order 1 1099511627776) (decide (a.order = 0))
def mayA2 (a : Ak) : Bool := rightB a.kind 114 (inB a.region 0 7) (decide (a.region = 0))
def mayA3 (a : Ak) : Bool := rightB a.kind 116 (inB a.to 0 7 && !decide (a.to = a.region)) (decide (a.to = 0))
def mayA4 (a : Ak) : Bool := rightB a.kind 103 (goodS a.good) (decide (a.good.size = 0))
def mayA5 (a : Ak) : Bool := rightB a.kind 105 (!a.items.isEmpty && mayI a.items) a.items.isEmpty
/-- May a request be? -/
def mayA (a : Ak) : Bool := mayA0 a && (mayA1 a && (mayA2 a && (mayA3 a && (mayA4 a && (mayA5 a && mayNA a.kind a.n)))))
theorem fldA_le {k : Int} (h : fldA k ≠ []) : 1 ≤ k ∧ k ≤ 11 := by
  unfold fldA at h
  repeat' split at h
  all_goals first | omega | exact absurd rfl h
theorem mayI_nil : mayI [] = true := by decide
theorem right_or {k : Int} {c : Nat} {x y : Bool} (h : rightB k c x y = true) : x = true ∨ y = true := by
  unfold rightB at h
  split at h
  · exact .inl h
  · exact .inr h
/-- How great what may be is. -/
structure LimA (a : Ak) : Prop where
  c1 : 0 ≤ a.client ∧ a.client ≤ 63
  c2 : 1 ≤ a.number ∧ a.number ≤ 4294967296
  c3 : 1 ≤ a.kind ∧ a.kind ≤ 11
  c4 : 0 ≤ a.order ∧ a.order ≤ 1099511627776
  c5 : 0 ≤ a.region ∧ a.region ≤ 7
  c6 : 0 ≤ a.to ∧ a.to ≤ 7
  c7 : 0 ≤ a.n ∧ a.n ≤ 1099511627776
  c8 : a.good.size ≤ 16
  c9 : mayI a.items = true
theorem mayA_lim {a : Ak} (h : mayA a = true) : LimA a := by
  unfold mayA at h
  simp only [Bool.and_eq_true] at h
  obtain ⟨h0, h1, h2, h3, h4, h5, h6⟩ := h
  unfold mayA0 at h0
  simp only [Bool.and_eq_true, inB_iff, Bool.not_eq_true', List.isEmpty_eq_false_iff] at h0
  obtain ⟨⟨k0, k1⟩, k2⟩ := h0
  refine ⟨k1, k2, fldA_le k0, ?_, ?_, ?_, ?_, ?_, ?_⟩
  · rcases right_or h1 with h | h
    · rw [inB_iff] at h; omega
    · have := of_decide_eq_true h; omega
  · rcases right_or h2 with h | h
    · rw [inB_iff] at h; omega
    · have := of_decide_eq_true h; omega
  · rcases right_or h3 with h | h
    · rw [Bool.and_eq_true, inB_iff] at h; omega
    · have := of_decide_eq_true h; omega
  · unfold mayNA at h6
    split at h6
    · rw [inB_iff] at h6; omega
    · split at h6
      · unfold mayC at h6; simp at h6; omega
      · split at h6
        · rw [inB_iff] at h6; omega
        · have := of_decide_eq_true h6; omega
  · rcases right_or h4 with h | h
    · unfold goodS at h; simp only [Bool.and_eq_true, decide_eq_true_eq] at h; omega
    · have := of_decide_eq_true h; omega
  · rcases right_or h5 with h | h
    · rw [Bool.and_eq_true] at h; exact h.2
    · rw [List.isEmpty_iff] at h; rw [h]; exact mayI_nil

/-- The code of an item, and of a list's items. -/
def itemB (x : It) : List Nat := textB (natsOf x.good) ++ numB x.n
def itemsB : List It → List Nat
  | [] => []
  | x :: l => itemB x ++ itemsB l
theorem itemsB_snoc : ∀ (l : List It) (x : It), itemsB (l ++ [x]) = itemsB l ++ itemB x
  | [], x => by simp [itemsB]
  | y :: l, x => by simp only [List.cons_append, itemsB, itemsB_snoc l x, List.append_assoc]
def numsB : List Int → List Nat
  | [] => []
  | n :: l => numB n ++ numsB l
def numsA (a : Ak) : List Int := [a.client, a.number, a.kind, a.order, a.region, a.to, a.n]
def tailA (a : Ak) : List Nat := textB (natsOf a.good) ++ (numB a.items.length ++ itemsB a.items)
def bodyA (a : Ak) : List Nat := numsB [a.kind, a.order, a.region, a.to, a.n] ++ tailA a
def encA (a : Ak) : List Nat := numsB (numsA a) ++ tailA a
theorem encA_body (a : Ak) : encA a = numB a.client ++ (numB a.number ++ bodyA a) := by
  unfold encA bodyA numsA
  simp only [numsB, List.append_assoc, List.append_nil]
theorem numB_le9 (n : Int) : (numB n).length ≤ 9 := (numB_length n).2
theorem textB_le (s : List Nat) : (textB s).length ≤ 9 + s.length := by
  unfold textB
  have := numB_le9 s.length
  rw [List.length_append]; omega
theorem numsB_le : ∀ l : List Int, (numsB l).length ≤ 9 * l.length
  | [] => by simp [numsB]
  | n :: l => by
    have h1 := numB_le9 n
    have h2 := numsB_le l
    simp only [numsB, List.length_append, List.length_cons]
    omega
theorem itemB_le {x : It} (h : x.good.size ≤ 16) : (itemB x).length ≤ 34 := by
  unfold itemB
  have h1 := textB_le (natsOf x.good)
  have h2 := numB_le9 x.n
  rw [natsOf_length] at h1
  rw [List.length_append]; omega
theorem itemsB_le : ∀ {l : List It}, (∀ x ∈ l, x.good.size ≤ 16) → (itemsB l).length ≤ 34 * l.length
  | [], _ => by simp [itemsB]
  | x :: l, h => by
    have h1 := itemB_le (h x (by simp))
    have h2 := itemsB_le (l := l) (fun y hy => h y (by simp [hy]))
    simp only [itemsB, List.length_append, List.length_cons]
    omega
theorem mayI_item {l : List It} (h : mayI l = true) : ∀ x ∈ l, x.good.size ≤ 16 ∧ 1 ≤ x.n ∧ x.n ≤ 1099511627776 := fun x hx => by
  obtain ⟨k, hk, rfl⟩ := List.getElem_of_mem hx
  obtain ⟨h1, h2, h3⟩ := okItem_iff.1 (okAt_item hk ((mayI_at h).2 k hk))
  unfold goodS at h1
  simp only [Bool.and_eq_true, decide_eq_true_eq] at h1
  exact ⟨h1.2, h2, h3⟩
theorem encA_le {a : Ak} (h : LimA a) : (encA a).length ≤ 641 := by
  have h1 := numsB_le (numsA a)
  have h2 := textB_le (natsOf a.good)
  have h3 := numB_le9 a.items.length
  have h4 := itemsB_le (l := a.items) (fun x hx => (mayI_item h.c9 x hx).1)
  have h5 := (mayI_at h.c9).1
  have h6 := h.c8
  rw [natsOf_length] at h2
  have e : (numsA a).length = 7 := rfl
  unfold encA tailA
  simp only [List.length_append]
  omega
theorem textB_lt' {s : List Nat} (h : ∀ x ∈ s, x < 256) : ∀ x ∈ textB s, x < 256 := fun x hx => by
  unfold textB at hx
  rcases List.mem_append.1 hx with hx | hx
  · exact numB_lt _ x hx
  · exact h x hx
theorem numsB_lt : ∀ l : List Int, ∀ x ∈ numsB l, x < 256
  | [], x, h => by simp [numsB] at h
  | n :: l, x, h => by
    simp only [numsB, List.mem_append] at h
    rcases h with h | h
    · exact numB_lt _ x h
    · exact numsB_lt l x h
theorem itemsB_lt : ∀ l : List It, ∀ x ∈ itemsB l, x < 256
  | [], x, h => by simp [itemsB] at h
  | n :: l, x, h => by
    simp only [itemsB, itemB, List.mem_append] at h
    rcases h with (h | h) | h
    · exact textB_lt' (natsOf_lt _) x h
    · exact numB_lt _ x h
    · exact itemsB_lt l x h
theorem encA_lt (a : Ak) : ∀ x ∈ encA a, x < 256 := fun x h => by
  unfold encA tailA at h
  simp only [List.mem_append] at h
  rcases h with h | h | h | h
  · exact numsB_lt _ x h
  · exact textB_lt' (natsOf_lt _) x h
  · exact numB_lt _ x h
  · exact itemsB_lt _ x h

abbrev St : Type := List Nat × Bool
theorem numT_back' {s : St} (hb : ∀ b ∈ s.1, b < 256) {a b : Int} (h : (numT s a b).2.2 = false) : s.2 = false ∧ s.1 = numB (numT s a b).1 ++ (numT s a b).2.1 ∧ a ≤ (numT s a b).1 ∧ (numT s a b).1 ≤ b := by
  obtain ⟨h1, k, h2, h3, h4, h5, _, _, _⟩ := numT_good hb h
  obtain ⟨_, h6, _, _⟩ := firstN_some hb h2
  exact ⟨h1, by rw [h5, h6, List.take_append_drop], h3, h4⟩
theorem textT_back' {s : St} (hb : ∀ b ∈ s.1, b < 256) {m : Int} (h : (textT s m).2.2 = false) : s.2 = false ∧ s.1 = textB (textT s m).1 ++ (textT s m).2.1 ∧ ((textT s m).1.length : Int) ≤ m := by
  have hn := numT_back' hb (a := 0) (b := m)
  unfold textT at h ⊢
  generalize numT s 0 m = r at h hn ⊢
  simp only at h ⊢
  split at h
  · rename_i hr
    simp only at h
    rw [h] at hr
    cases hr
  · rename_i hr
    split at h
    · cases h
    · rename_i hl
      rw [if_neg hr, if_neg hl]
      obtain ⟨h1, h2, h3, h4⟩ := hn (by simpa using hr)
      simp only
      have hle : r.1.toNat ≤ r.2.1.length := by omega
      have e : ((r.2.1.take r.1.toNat).length : Int) = r.1 := by rw [List.length_take, Nat.min_eq_left hle]; omega
      refine ⟨h1, ?_, by omega⟩
      unfold textB
      rw [e, List.append_assoc, List.take_append_drop]
      exact h2
/-- Numbers, one behind the other, each between two others. -/
def readNs : List (Int × Int) → St → List Int × St
  | [], s => ([], s)
  | p :: l, s => ((numT s p.1 p.2).1 :: (readNs l (numT s p.1 p.2).2).1, (readNs l (numT s p.1 p.2).2).2)
def Inside : List (Int × Int) → List Int → Prop
  | [], [] => True
  | p :: l, n :: ns => (p.1 ≤ n ∧ n ≤ p.2) ∧ Inside l ns
  | _, _ => False
theorem readNs_lt : ∀ (l : List (Int × Int)) (s : St), (∀ b ∈ s.1, b < 256) → ∀ b ∈ (readNs l s).2.1, b < 256
  | [], _, h => h
  | p :: l, _, h => readNs_lt l _ (numT_lt h p.1 p.2)
theorem readNs_back : ∀ (l : List (Int × Int)) (s : St), (∀ b ∈ s.1, b < 256) → (readNs l s).2.2 = false → s.2 = false ∧ s.1 = numsB (readNs l s).1 ++ (readNs l s).2.1 ∧ Inside l (readNs l s).1
  | [], s, _, h => ⟨h, rfl, trivial⟩
  | p :: l, s, hb, h => by
    obtain ⟨h1, h2, h3⟩ := readNs_back l _ (numT_lt hb p.1 p.2) h
    obtain ⟨k1, k2, k3⟩ := numT_back' hb h1
    refine ⟨k1, ?_, k3, h3⟩
    simp only [readNs, numsB, List.append_assoc]
    rw [← h2]
    exact k2
theorem readNs_len : ∀ (l : List (Int × Int)) (s : St), (readNs l s).1.length = l.length
  | [], _ => rfl
  | p :: l, s => by simp only [readNs, List.length_cons, readNs_len l]
theorem readNs_put : ∀ (l : List (Int × Int)) (ns : List Int) (r : List Nat), Inside l ns → (∀ n ∈ ns, I64 n) → readNs l (numsB ns ++ r, false) = (ns, (r, false))
  | [], [], r, _, _ => rfl
  | [], n :: ns, r, h, _ => h.elim
  | p :: l, [], r, h, _ => h.elim
  | p :: l, n :: ns, r, ⟨h1, h2⟩, h3 => by
    have e := numT_put n (h3 n (by simp)) (numsB ns ++ r) h1.1 h1.2
    simp only [readNs, numsB, List.append_assoc]
    rw [e]
    simp only
    rw [readNs_put l ns r h2 (fun m hm => h3 m (by simp [hm]))]

/-- Items, one behind the other. -/
def itR (lo hi : Int) : Nat → List It → St → List It × St
  | 0, l, s => (l, s)
  | k + 1, l, s => itR lo hi k (l ++ [⟨strOf (textT s 16).1, (numT (textT s 16).2 lo hi).1⟩]) (numT (textT s 16).2 lo hi).2
/-- The same, as the reference takes them. -/
def itX : Nat → List It → St → List It × St
  | 0, l, s => (l, s)
  | k + 1, l, s => if s.2 = true then (l, s) else itX k (l ++ [⟨strOf (rtextT s 16).1, (numT (rtextT s 16).2 1 1099511627776).1⟩]) (numT (rtextT s 16).2 1 1099511627776).2
theorem strOf_size' (l : List Nat) : (strOf l).size = l.length := by simp [strOf, ByteArray.size]
theorem natsOf_strOf' {l : List Nat} (h : ∀ x ∈ l, x < 256) : natsOf (strOf l) = l := by
  unfold natsOf strOf
  simp only [List.map_map]
  conv => rhs; rw [← List.map_id l]
  apply List.map_congr_left
  intro x hx
  have := h x hx
  simp [Nat.mod_eq_of_lt this]
theorem strOf_natsOf' (s : ByteArray) : strOf (natsOf s) = s := by
  unfold strOf natsOf
  rw [List.map_map]
  have : (UInt8.ofNat ∘ UInt8.toNat) = id := by funext x; simp
  rw [this, List.map_id]
theorem itR_lt (lo hi : Int) : ∀ (k : Nat) (l : List It) (s : St), (∀ b ∈ s.1, b < 256) → ∀ b ∈ (itR lo hi k l s).2.1, b < 256
  | 0, _, _, h => h
  | k + 1, _, _, h => itR_lt lo hi k _ _ (numT_lt (textT_lt h 16).2 lo hi)
theorem itR_back (lo hi : Int) : ∀ (k : Nat) (l : List It) (s : St), (∀ b ∈ s.1, b < 256) → (itR lo hi k l s).2.2 = false →
    s.2 = false ∧ ∃ m, (itR lo hi k l s).1 = l ++ m ∧ m.length = k ∧ s.1 = itemsB m ++ (itR lo hi k l s).2.1 ∧ ∀ x ∈ m, x.good.size ≤ 16 ∧ lo ≤ x.n ∧ x.n ≤ hi
  | 0, l, s, _, h => ⟨h, [], by simp [itR], rfl, by simp [itR, itemsB], by simp⟩
  | k + 1, l, s, hb, h => by
    have hb1 := (textT_lt hb 16)
    obtain ⟨h1, m, h2, h3, h4, h5⟩ := itR_back lo hi k _ _ (numT_lt hb1.2 lo hi) h
    obtain ⟨k1, k2, k3⟩ := numT_back' hb1.2 h1
    obtain ⟨j1, j2, j3⟩ := textT_back' hb k1
    refine ⟨j1, ⟨strOf (textT s 16).1, (numT (textT s 16).2 lo hi).1⟩ :: m, ?_, by simp [h3], ?_, ?_⟩
    · simp only [itR]
      rw [h2]
      simp
    · simp only [itR, itemsB, itemB, List.append_assoc]
      rw [natsOf_strOf' hb1.1, ← h4, ← k2]
      exact j2
    · intro x hx
      rcases List.mem_cons.1 hx with rfl | hx
      · exact ⟨by rw [strOf_size']; omega, k3⟩
      · exact h5 x hx
theorem itR_put (lo hi : Int) : ∀ (m l : List It) (r : List Nat), (∀ x ∈ m, x.good.size ≤ 16 ∧ (lo ≤ x.n ∧ x.n ≤ hi) ∧ I64 x.n) → itR lo hi m.length l (itemsB m ++ r, false) = (l ++ m, (r, false))
  | [], l, r, _ => by simp [itR, itemsB]
  | x :: m, l, r, h => by
    obtain ⟨h1, h2, h3⟩ := h x (by simp)
    have e1 := textT_put (natsOf x.good) (numB x.n ++ (itemsB m ++ r)) (most := 16) (by rw [natsOf_length]; omega) (by rw [natsOf_length]; omega)
    have e2 := numT_put x.n h3 (itemsB m ++ r) h2.1 h2.2
    simp only [List.length_cons, itR, itemsB, itemB, List.append_assoc]
    rw [e1]
    simp only
    rw [e2]
    simp only
    rw [strOf_natsOf', itR_put lo hi m _ r (fun y hy => h y (by simp [hy]))]
    simp
theorem rtext_eq {s : St} (hb : ∀ b ∈ s.1, b < 256) {m : Int} (h : (textT s m).2.2 = false ∨ (rtextT s m).2.2 = false) : rtextT s m = textT s m := by
  obtain ⟨h1, h2, h3⟩ := SameT.text hb (SameT.refl s) m
  have hf : (textT s m).2.2 = false := by
    rcases h with h | h
    · exact h
    · rw [h2]; exact h
  have h4 := h3 hf
  exact (Prod.ext h1 (Prod.ext h4 h2)).symm
theorem itX_start : ∀ (k : Nat) (l : List It) (s : St), (itX k l s).2.2 = false → s.2 = false
  | 0, _, _, h => h
  | k + 1, l, s, h => by
    by_cases hs : s.2 = true
    · rw [itX, if_pos hs] at h; exact h
    · simpa using hs
theorem itX_eq : ∀ (k : Nat) (l : List It) (s : St), (∀ b ∈ s.1, b < 256) → ((itR 1 1099511627776 k l s).2.2 = false ∨ (itX k l s).2.2 = false) → itX k l s = itR 1 1099511627776 k l s
  | 0, _, _, _, _ => rfl
  | k + 1, l, s, hb, h => by
    have hs : s.2 = false := by
      rcases h with h | h
      · exact (itR_back _ _ _ _ _ hb h).1
      · exact itX_start _ _ _ h
    have hb1 := textT_lt hb 16
    have hb2 := rtextT_lt hb 16
    rw [itX, if_neg (by rw [hs]; simp)] at h ⊢
    have ht : (textT s 16).2.2 = false ∨ (rtextT s 16).2.2 = false := by
      rcases h with h | h
      · exact .inl (numT_back' hb1.2 (itR_back _ _ _ _ _ (numT_lt hb1.2 _ _) h).1).1
      · exact .inr (numT_back' hb2.2 (itX_start _ _ _ h)).1
    have e := rtext_eq hb ht
    rw [e] at h ⊢
    rw [itR] at h ⊢
    exact itX_eq k _ _ (numT_lt hb1.2 _ _) h

/-- A request of what was taken. -/
def akOf (ns : List Int) (g : List Nat) (l : List It) : Ak := ⟨ns.getD 0 0, ns.getD 1 0, ns.getD 2 0, ns.getD 3 0, ns.getD 4 0, ns.getD 5 0, ns.getD 6 0, strOf g, l⟩
def bigP : Int × Int := (0, 9223372036854775807)
/-- The bounds of the program's numbers, of the reference's. -/
def bdA : List (Int × Int) := [bigP, bigP, bigP, bigP, bigP, bigP, bigP]
def bdX : List (Int × Int) := [(0, 63), (1, 4294967296), (0, 99), (0, 1099511627776), (0, 7), (0, 7), (0, 1099511627776)]
def p2A (B : List (Int × Int)) (s : St) : List Nat × St := textT (readNs B s).2 16
def p3A (B : List (Int × Int)) (s : St) : Int × St := numT (p2A B s).2 0 16
def p4A (B : List (Int × Int)) (lo hi : Int) (s : St) : List It × St := itR lo hi (p3A B s).1.toNat [] (p3A B s).2
def pA (B : List (Int × Int)) (lo hi : Int) (s : St) : Ak := akOf (readNs B s).1 (p2A B s).1 (p4A B lo hi s).1
/-- What any bytes are as a request. -/
def unA (c : List Nat) : Option Ak := if doneT (p4A bdA 0 9223372036854775807 (c, false)).2 = 0 ∧ mayA (pA bdA 0 9223372036854775807 (c, false)) = true then some (pA bdA 0 9223372036854775807 (c, false)) else none
/-- The same, as the reference reads it. -/
def x2A (s : St) : List Nat × St := rtextT (readNs bdX s).2 16
def x3A (s : St) : Int × St := numT (x2A s).2 0 16
def x4A (s : St) : List It × St := itX (x3A s).1.toNat [] (x3A s).2
def xA (s : St) : Ak := akOf (readNs bdX s).1 (x2A s).1 (x4A s).1
def xokA (s : St) : Bool := !(x4A s).2.2 && mayI (x4A s).1 && mayA (xA s)
def unXA (c : List Nat) : Option Ak := if xokA (c, false) = true ∧ (x4A (c, false)).2.1 = [] then some (xA (c, false)) else none
theorem ns7 {ns : List Int} (h : ns.length = 7) (g : List Nat) (l : List It) : numsA (akOf ns g l) = ns := by
  match ns, h with
  | [a, b, c, d, e, f, g], _ => rfl
theorem p_back {B : List (Int × Int)} {lo hi : Int} {s : St} (hB : B.length = 7) (hb : ∀ b ∈ s.1, b < 256) (h : (p4A B lo hi s).2.2 = false) : s.2 = false ∧ s.1 = encA (pA B lo hi s) ++ (p4A B lo hi s).2.1 := by
  have hb1 := readNs_lt B s hb
  have hb2 := textT_lt hb1 16
  have hb3 := numT_lt hb2.2 0 16
  obtain ⟨h1, m, h2, h3, h4, h5⟩ := itR_back lo hi _ _ _ hb3 h
  obtain ⟨k1, k2, k3, k4⟩ := numT_back' hb2.2 h1
  obtain ⟨j1, j2, j3⟩ := textT_back' hb1 k1
  obtain ⟨i1, i2, _⟩ := readNs_back B s hb j1
  refine ⟨i1, ?_⟩
  unfold encA tailA
  have e1 : numsA (pA B lo hi s) = (readNs B s).1 := ns7 (by rw [readNs_len, hB]) _ _
  have e2 : (pA B lo hi s).good = strOf (p2A B s).1 := rfl
  have e3 : (pA B lo hi s).items = m := h2.trans (by simp)
  have e4 : ((m.length : Nat) : Int) = (p3A B s).1 := by rw [h3]; exact Int.toNat_of_nonneg k3
  rw [e1, e2, e3, e4, natsOf_strOf' (show ∀ x ∈ (p2A B s).1, x < 256 from hb2.1)]
  simp only [List.append_assoc]
  have h4' : (numT (textT (readNs B s).2 16).2 0 16).2.1 = itemsB m ++ (p4A B lo hi s).2.1 := h4
  rw [← h4']
  have k2' : (textT (readNs B s).2 16).2.1 = numB (p3A B s).1 ++ (numT (textT (readNs B s).2 16).2 0 16).2.1 := k2
  rw [← k2']
  have j2' : (readNs B s).2.1 = textB (p2A B s).1 ++ (textT (readNs B s).2 16).2.1 := j2
  rw [← j2']
  exact i2
theorem ak_eq (a : Ak) : akOf (numsA a) (natsOf a.good) a.items = a := by
  unfold akOf numsA
  rw [strOf_natsOf']
  rfl
theorem limA_i64 {a : Ak} (h : LimA a) : ∀ n ∈ numsA a, I64 n := fun n hn => by
  obtain ⟨h1, h2, h3, h4, h5, h6, h7, _, _⟩ := h
  simp only [numsA, List.mem_cons, List.not_mem_nil, or_false] at hn
  unfold I64
  rcases hn with rfl | rfl | rfl | rfl | rfl | rfl | rfl <;> omega
theorem p_put {B : List (Int × Int)} {lo hi : Int} {a : Ak} (r : List Nat) (h : LimA a) (hB : Inside B (numsA a)) (hl : lo ≤ 1) (hh : 1099511627776 ≤ hi) :
    p4A B lo hi (encA a ++ r, false) = (a.items, (r, false)) ∧ pA B lo hi (encA a ++ r, false) = a := by
  have e1 : readNs B (encA a ++ r, false) = (numsA a, (tailA a ++ r, false)) := by
    unfold encA
    rw [List.append_assoc]
    exact readNs_put B (numsA a) _ hB (limA_i64 h)
  have e2 : p2A B (encA a ++ r, false) = (natsOf a.good, (numB a.items.length ++ (itemsB a.items ++ r), false)) := by
    unfold p2A tailA at *
    rw [e1]
    simp only [List.append_assoc]
    exact textT_put _ _ (by rw [natsOf_length]; have := h.c8; omega) (by rw [natsOf_length]; have := h.c8; omega)
  have h5 := (mayI_at h.c9).1
  have e3 : p3A B (encA a ++ r, false) = ((a.items.length : Int), (itemsB a.items ++ r, false)) := by
    unfold p3A
    rw [e2]
    exact numT_put _ (by unfold I64; omega) _ (by omega) (by omega)
  have e4 : p4A B lo hi (encA a ++ r, false) = (a.items, (r, false)) := by
    unfold p4A
    rw [e3]
    simp only [Int.toNat_natCast]
    have := itR_put lo hi a.items [] r (fun x hx => by
      obtain ⟨q1, q2, q3⟩ := mayI_item h.c9 x hx
      exact ⟨q1, by omega, by unfold I64; omega⟩)
    simpa using this
  refine ⟨e4, ?_⟩
  unfold pA
  rw [e1, e2, e4]
  exact ak_eq a
theorem inside_A {a : Ak} (h : LimA a) : Inside bdA (numsA a) := by
  obtain ⟨h1, h2, h3, h4, h5, h6, h7, _, _⟩ := h
  simp only [bdA, numsA, Inside, bigP, and_true]
  omega
theorem inside_X {a : Ak} (h : LimA a) : Inside bdX (numsA a) := by
  obtain ⟨h1, h2, h3, h4, h5, h6, h7, _, _⟩ := h
  simp only [bdX, numsA, Inside, and_true]
  omega
theorem doneT_zero {s : St} : doneT s = 0 ↔ s.2 = false ∧ s.1 = [] := by
  unfold doneT
  split
  · rename_i h
    constructor
    · intro e; omega
    · rintro ⟨h1, h2⟩
      rw [h1, h2] at h
      simp at h
  · rename_i h
    constructor
    · intro _
      refine ⟨by cases hs : s.2 <;> simp_all, ?_⟩
      cases hs : s.1 <;> simp_all
    · intro _; rfl
theorem unA_iff {c : List Nat} (hb : ∀ b ∈ c, b < 256) (a : Ak) : unA c = some a ↔ mayA a = true ∧ c = encA a := by
  constructor
  · intro h
    unfold unA at h
    split at h
    · rename_i hc
      obtain ⟨h1, h2⟩ := hc
      injection h with h
      obtain ⟨h3, h4⟩ := doneT_zero.1 h1
      obtain ⟨_, h5⟩ := p_back (s := (c, false)) rfl hb h3
      rw [h4, h, List.append_nil] at h5
      rw [h] at h2
      exact ⟨h2, h5⟩
    · cases h
  · rintro ⟨h, rfl⟩
    have hl := mayA_lim h
    obtain ⟨e1, e2⟩ := p_put (B := bdA) (lo := 0) (hi := 9223372036854775807) [] hl (inside_A hl) (by omega) (by omega)
    rw [List.append_nil] at e1 e2
    unfold unA
    rw [e1, e2, if_pos ⟨rfl, h⟩]
theorem x_eq {s : St} (hb : ∀ b ∈ s.1, b < 256) (h : (x4A s).2.2 = false ∨ (p4A bdX 1 1099511627776 s).2.2 = false) : x4A s = p4A bdX 1 1099511627776 s ∧ xA s = pA bdX 1 1099511627776 s := by
  have hb1 := readNs_lt bdX s hb
  have hb2 := textT_lt hb1 16
  have hb2' := rtextT_lt hb1 16
  have hb3 := numT_lt hb2.2 0 16
  have ht : (textT (readNs bdX s).2 16).2.2 = false ∨ (rtextT (readNs bdX s).2 16).2.2 = false := by
    rcases h with h | h
    · exact .inr (numT_back' hb2'.2 (itX_start _ _ _ h)).1
    · exact .inl (numT_back' hb2.2 (itR_back _ _ _ _ _ hb3 h).1).1
  have e2 : x2A s = p2A bdX s := rtext_eq hb1 ht
  have e3 : x3A s = p3A bdX s := by unfold x3A p3A; rw [e2]
  have e4 : x4A s = p4A bdX 1 1099511627776 s := by
    unfold x4A at h ⊢
    unfold p4A at h ⊢
    rw [e3] at h ⊢
    exact itX_eq _ _ _ hb3 h.symm
  exact ⟨e4, by unfold xA pA; rw [e2, e4]⟩
theorem unXA_iff {c : List Nat} (hb : ∀ b ∈ c, b < 256) (a : Ak) : unXA c = some a ↔ mayA a = true ∧ c = encA a := by
  constructor
  · intro h
    unfold unXA at h
    split at h
    · rename_i hc
      obtain ⟨h1, h2⟩ := hc
      injection h with h
      unfold xokA at h1
      simp only [Bool.and_eq_true, Bool.not_eq_true'] at h1
      obtain ⟨⟨h3, _⟩, h6⟩ := h1
      obtain ⟨e1, e2⟩ := x_eq (s := (c, false)) hb (.inl h3)
      rw [h] at h6 e2
      rw [e1] at h2 h3
      obtain ⟨_, h5⟩ := p_back (s := (c, false)) rfl hb h3
      rw [h2, ← e2, List.append_nil] at h5
      exact ⟨h6, h5⟩
    · cases h
  · rintro ⟨h, rfl⟩
    have hl := mayA_lim h
    obtain ⟨e1, e2⟩ := p_put (B := bdX) (lo := 1) (hi := 1099511627776) [] hl (inside_X hl) (by omega) (by omega)
    rw [List.append_nil] at e1 e2
    obtain ⟨f1, f2⟩ := x_eq (s := (encA a, false)) hb (.inr (by rw [e1]))
    unfold unXA xokA
    rw [f1, f2, e1, e2, h, hl.c9]
    rfl
theorem unA_eq {c : List Nat} (hb : ∀ b ∈ c, b < 256) : unA c = unXA c := by
  cases h : unA c with
  | some a => exact ((unXA_iff hb a).2 ((unA_iff hb a).1 h)).symm
  | none =>
    cases h2 : unXA c with
    | none => rfl
    | some a => rw [(unA_iff hb a).2 ((unXA_iff hb a).1 h2)] at h; cases h
theorem encA_inj {a b : Ak} (ha : mayA a = true) (hb : mayA b = true) (h : encA a = encA b) : a = b := by
  have h1 := (unA_iff (encA_lt a) a).2 ⟨ha, rfl⟩
  have h2 := (unA_iff (encA_lt b) b).2 ⟨hb, rfl⟩
  rw [h, h2] at h1
  injection h1 with h1
  exact h1.symm
end Go.Proofs.Ytpccbobomppdbaa

namespace Go.Proofs
open Go.Shelf
def Try.lays144_ren : Go.Shelf.Ren := ⟨fun | 144 => 30 | 143 => 57 | 219 => 81 | 217 => 84 | 225 => 85 | 224 => 86 | 267 => 87 | 266 => 88 | 314 => 89 | n => n, fun | 9 => 9 | 4 => 4 | 3 => 3 | 5 => 5 | 46 => 109 | 146 => 114 | 51 => 113 | n => n, fun | 1 => 0 | n => n⟩
theorem Try.lays144 : Go.Proofs.Lays.n144 Try.prog Try.lays144_ren := {
  mixed := by kernel_rfl
  f143 := Try.func57.trans (congrArg some (by kernel_rfl))
  f144 := Try.func30.trans (congrArg some (by kernel_rfl))
  f217 := Try.func84.trans (congrArg some (by kernel_rfl))
  f219 := Try.func81.trans (congrArg some (by kernel_rfl))
  f224 := Try.func86.trans (congrArg some (by kernel_rfl))
  f225 := Try.func85.trans (congrArg some (by kernel_rfl))
  f266 := Try.func88.trans (congrArg some (by kernel_rfl))
  f267 := Try.func87.trans (congrArg some (by kernel_rfl))
  f314 := Try.func89.trans (congrArg some (by kernel_rfl))
  t3 := Try.underlying3
  a3 := Try.isAgg3
  z3 := Try.sizeOf3
  v3 := Try.zeroValue3
  t4 := Try.underlying4
  a4 := Try.isAgg4
  z4 := Try.sizeOf4
  v4 := Try.zeroValue4
  t5 := Try.underlying5
  a5 := Try.isAgg5
  z5 := Try.sizeOf5
  v5 := Try.zeroValue5
  t9 := Try.underlying9
  a9 := Try.isAgg9
  z9 := Try.sizeOf9
  v9 := Try.zeroValue9
  t46 := Try.underlying109
  a46 := Try.isAgg109
  z46 := Try.sizeOf109
  v46 := Try.zeroValue109
  t51 := Try.underlying113
  a51 := Try.isAgg113
  z51 := Try.sizeOf113
  v51 := Try.zeroValue113
  t146 := Try.underlying114
  a146 := Try.isAgg114
  z146 := Try.sizeOf114
  v146 := Try.zeroValue114
  g1 := by kernel_rfl }
open Go.RowKit Go.Lib in
theorem Try.strings_Contains_one (s : ByteArray) (c : UInt8) (w : World) :
    Calls Try.prog 30 #[.string s, .string ⟨#[c]⟩] w fun e w' => e = .returned (.bool (decide (0 ≤ Lib.indexByte s.data.toList c))) ∧ w' = w := Any.strings_Contains_one Try.lays144 s c w
end Go.Proofs
