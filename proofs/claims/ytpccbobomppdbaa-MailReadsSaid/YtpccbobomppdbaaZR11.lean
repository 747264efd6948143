/- Joined: Mail, by definition: which may be, its codes, what any bytes are as mail; the one is the other's inverse. mail.Has and mail.Answers, the reference's Has and has, and what asks for a field. -/
import Derived.Test.YtpccbobomppdbaaZR4
import Derived.Test.YtpccbobomppdbaaZR10
import Derived.Test.YtpccbobomppdbaaZR8
namespace Go.Proofs.Ytpccbobomppdbaa
open Go.RowKit

/-- A mail. -/
structure Ml where
  kind : Int
  order : Int
  items : List It
  ask : Ak
  yc : Int
  yn : Int
  yd : Int
  yN : Int
/-- The fields of a kind, as letters. -/
def fldM (k : Int) : List Nat :=
  if k = 1 ∨ k = 11 then [97] else if k = 2 ∨ k = 12 then [121] else if k = 3 ∨ k = 4 ∨ k = 8 ∨ k = 10 ∨ k = 13 then [111, 105] else if k = 5 ∨ k = 6 ∨ k = 7 ∨ k = 9 then [111] else []
def hasM (k : Int) (c : Nat) : Bool := (fldM k).contains c
def rightM (k : Int) (c : Nat) (x y : Bool) : Bool := if hasM k c = true then x else y
def zeroK : Ak := ⟨0, 0, 0, 0, 0, 0, 0, ByteArray.empty, []⟩
theorem zeroK_may : mayA zeroK = false := by decide +kernel
def mayYM (m : Ml) : Bool := inB m.yc 0 63 && inB m.yn 1 4294967296 && inB m.yd 0 1000
def zeroYM (m : Ml) : Bool := decide (m.yc = 0) && decide (m.yn = 0) && decide (m.yd = 0) && decide (m.yN = 0)
def mayM1 (m : Ml) : Bool := rightM m.kind 111 (inB m.order 1 1099511627776) (decide (m.order = 0))
def mayM2 (m : Ml) : Bool := rightM m.kind 105 (mayI m.items) m.items.isEmpty
def mayM3 (m : Ml) : Bool := rightM m.kind 97 (mayA m.ask) (eqA m.ask zeroK)
def mayM4 (m : Ml) : Bool := rightM m.kind 121 (mayYM m) (zeroYM m)
/-- May a mail be? -/
def mayM (m : Ml) : Bool := inB m.kind 1 14 && (mayM1 m && (mayM2 m && (mayM3 m && mayM4 m)))
/-- A request's code, where it has one. -/
def codeK (a : Ak) : List Nat := if mayA a = true then encA a else []
def ysM (m : Ml) : List Int := [m.yc, m.yn, m.yd, m.yN]
def encM (m : Ml) : List Nat := numsB [m.kind, m.order] ++ (numB m.items.length ++ (itemsB m.items ++ (textB (codeK m.ask) ++ (if hasM m.kind 121 = true then numsB (ysM m) else []))))
theorem codeK_lt (a : Ak) : ∀ x ∈ codeK a, x < 256 := by
  unfold codeK
  split
  · exact encA_lt a
  · simp
theorem codeK_le (a : Ak) : (codeK a).length ≤ 641 := by
  unfold codeK
  split
  · rename_i h; exact encA_le (mayA_lim h)
  · simp
theorem encM_lt (m : Ml) : ∀ x ∈ encM m, x < 256 := fun x h => by
  unfold encM at h
  simp only [List.mem_append] at h
  rcases h with h | h | h | h | h
  · exact numsB_lt _ x h
  · exact numB_lt _ x h
  · exact itemsB_lt _ x h
  · exact textB_lt' (codeK_lt _) x h
  · split at h
    · exact numsB_lt _ x h
    · simp at h
/-- How great what may be is. -/
structure LimM (m : Ml) : Prop where
  kind : 1 ≤ m.kind ∧ m.kind ≤ 14
  order : 0 ≤ m.order ∧ m.order ≤ 1099511627776
  items : mayI m.items = true
  ask : mayA m.ask = true ∨ m.ask = zeroK
  ys : hasM m.kind 121 = true → (0 ≤ m.yc ∧ m.yc ≤ 63) ∧ (1 ≤ m.yn ∧ m.yn ≤ 4294967296) ∧ 0 ≤ m.yd ∧ m.yd ≤ 1000
  yz : hasM m.kind 121 = false → m.yc = 0 ∧ m.yn = 0 ∧ m.yd = 0 ∧ m.yN = 0
theorem rightM_or {k : Int} {c : Nat} {x y : Bool} (h : rightM k c x y = true) : x = true ∨ y = true := by
  unfold rightM at h
  split at h
  · exact .inl h
  · exact .inr h
theorem mayM_lim {m : Ml} (h : mayM m = true) : LimM m := by
  unfold mayM at h
  simp only [Bool.and_eq_true] at h
  obtain ⟨h0, h1, h2, h3, h4⟩ := h
  refine ⟨inB_iff.1 h0, ?_, ?_, ?_, fun hy => ?_, fun hy => ?_⟩
  · rcases rightM_or h1 with h | h
    · have := inB_iff.1 h; omega
    · have := of_decide_eq_true h; omega
  · rcases rightM_or h2 with h | h
    · exact h
    · rw [List.isEmpty_iff] at h; rw [h]; exact mayI_nil
  · rcases rightM_or h3 with h | h
    · exact .inl h
    · exact .inr (eqA_iff.1 h)
  · unfold mayM4 rightM at h4
    rw [if_pos hy] at h4
    unfold mayYM at h4
    simp only [Bool.and_eq_true, inB_iff] at h4
    exact ⟨h4.1.1, h4.1.2, h4.2⟩
  · unfold mayM4 rightM at h4
    rw [if_neg (by rw [hy]; simp)] at h4
    unfold zeroYM at h4
    simp only [Bool.and_eq_true, decide_eq_true_eq] at h4
    exact ⟨h4.1.1.1, h4.1.1.2, h4.1.2, h4.2⟩
theorem codeK_nil {m : Ml} (h : LimM m) : codeK m.ask = [] → m.ask = zeroK := fun e => by
  rcases h.ask with h | h
  · unfold codeK at e
    rw [if_pos h, encA_body] at e
    have h1 : (numB m.ask.client).length = 0 := by
      have := congrArg List.length e
      simp only [List.length_append, List.length_nil] at this
      omega
    have := (numB_length m.ask.client).1
    omega
  · exact h
theorem encM_le {m : Ml} (h : LimM m) : (encM m).length ≤ 2048 := by
  have h1 := numsB_le [m.kind, m.order]
  have h2 := numB_le9 m.items.length
  have h3 := itemsB_le (l := m.items) (fun x hx => (mayI_item h.items x hx).1)
  have h4 := (mayI_at h.items).1
  have h5 := textB_le (codeK m.ask)
  have h6 := codeK_le m.ask
  have h7 := numsB_le (ysM m)
  have e1 : (ysM m).length = 4 := rfl
  simp only [List.length_cons, List.length_nil] at h1
  unfold encM
  simp only [List.length_append]
  split
  · omega
  · simp only [List.length_nil]; omega

/-- The bounds of the numbers ahead; of an answer's, in the program, in the reference. -/
def bdK : List (Int × Int) := [(1, 14), (0, 1099511627776)]
def bdY : List (Int × Int) := [(-9223372036854775808, 9223372036854775807), (-9223372036854775808, 9223372036854775807), (-9223372036854775808, 9223372036854775807), (-9223372036854775808, 9223372036854775807)]
def bdYX : List (Int × Int) := [(0, 63), (1, 4294967296), (0, 1000), (-9223372036854775808, 9223372036854775807)]
def m1M (s : St) : List Int × St := readNs bdK s
def kindM (s : St) : Int := (m1M s).1.getD 0 0
def m2M (s : St) : Int × St := numT (m1M s).2 0 16
def m3M (s : St) : List It × St := itR 1 1099511627776 (m2M s).1.toNat [] (m2M s).2
def m4M (s : St) : List Nat × St := textT (m3M s).2 262144
/-- An answer, where the kind has one. -/
def yT (Y : List (Int × Int)) (k : Int) (s : St) : List Int × St := if hasM k 121 = true then readNs Y s else ([0, 0, 0, 0], s)
def m5M (Y : List (Int × Int)) (s : St) : List Int × St := yT Y (kindM s) (m4M s).2
/-- A request, of its code or of nothing. -/
def askT (t : List Nat) : Option Ak := if t = [] then some zeroK else unA t
def mlOf (ns : List Int) (l : List It) (a : Ak) (ys : List Int) : Ml := ⟨ns.getD 0 0, ns.getD 1 0, l, a, ys.getD 0 0, ys.getD 1 0, ys.getD 2 0, ys.getD 3 0⟩
def mlM (Y : List (Int × Int)) (s : St) : Ml := mlOf (m1M s).1 (m3M s).1 ((askT (m4M s).1).getD zeroK) (m5M Y s).1
/-- What any bytes are as mail. -/
def unM (c : List Nat) : Option Ml := if doneT (m5M bdY (c, false)).2 = 0 ∧ (askT (m4M (c, false)).1).isSome = true ∧ mayM (mlM bdY (c, false)) = true then some (mlM bdY (c, false)) else none
theorem askT_code {t : List Nat} (hb : ∀ b ∈ t, b < 256) {a : Ak} (h : askT t = some a) : codeK a = t := by
  unfold askT at h
  split at h
  · rename_i ht
    injection h with h
    subst h
    unfold codeK
    rw [zeroK_may, ht]
    rfl
  · obtain ⟨h1, h2⟩ := (unA_iff hb a).1 h
    unfold codeK
    rw [if_pos h1, h2]
theorem askT_put {m : Ml} (h : LimM m) : askT (codeK m.ask) = some m.ask := by
  unfold askT
  by_cases e : codeK m.ask = []
  · rw [if_pos e, codeK_nil h e]
  · rw [if_neg e]
    have hm : mayA m.ask = true := by
      unfold codeK at e
      split at e
      · assumption
      · exact absurd rfl e
    unfold codeK
    rw [if_pos hm]
    exact (unA_iff (encA_lt _) _).2 ⟨hm, rfl⟩
theorem ns2 {ns : List Int} (h : ns.length = 2) : [ns.getD 0 0, ns.getD 1 0] = ns := by
  match ns, h with
  | [a, b], _ => rfl
theorem ns4 {ns : List Int} (h : ns.length = 4) : [ns.getD 0 0, ns.getD 1 0, ns.getD 2 0, ns.getD 3 0] = ns := by
  match ns, h with
  | [a, b, c, d], _ => rfl
theorem yT_back {Y : List (Int × Int)} {k : Int} {s : St} (hY : Y.length = 4) (hb : ∀ b ∈ s.1, b < 256) (h : (yT Y k s).2.2 = false) : s.2 = false ∧ s.1 = (if hasM k 121 = true then numsB [(yT Y k s).1.getD 0 0, (yT Y k s).1.getD 1 0, (yT Y k s).1.getD 2 0, (yT Y k s).1.getD 3 0] else []) ++ (yT Y k s).2.1 ∧ (hasM k 121 = true → Inside Y (yT Y k s).1) := by
  by_cases hk : hasM k 121 = true
  · have e : yT Y k s = readNs Y s := by unfold yT; rw [if_pos hk]
    rw [e] at h ⊢
    rw [if_pos hk]
    obtain ⟨h1, h2, h3⟩ := readNs_back Y s hb h
    rw [ns4 (by rw [readNs_len, hY])]
    exact ⟨h1, h2, fun _ => h3⟩
  · have e : yT Y k s = ([0, 0, 0, 0], s) := by unfold yT; rw [if_neg hk]
    rw [e] at h ⊢
    rw [if_neg hk]
    exact ⟨h, by simp, fun h => absurd h hk⟩
theorem m_back {Y : List (Int × Int)} {s : St} (hY : Y.length = 4) (hb : ∀ b ∈ s.1, b < 256) (h : (m5M Y s).2.2 = false) {a : Ak} (ha : askT (m4M s).1 = some a) :
    s.2 = false ∧ s.1 = encM (mlM Y s) ++ (m5M Y s).2.1 ∧ (hasM (mlM Y s).kind 121 = true → Inside Y (ysM (mlM Y s))) := by
  have hb1 : ∀ b ∈ (m1M s).2.1, b < 256 := readNs_lt bdK s hb
  have hb2 : ∀ b ∈ (m2M s).2.1, b < 256 := numT_lt hb1 0 16
  have hb3 : ∀ b ∈ (m3M s).2.1, b < 256 := itR_lt _ _ _ _ _ hb2
  have hb4 := textT_lt hb3 262144
  obtain ⟨y1, y2, y3⟩ := yT_back hY hb4.2 h
  obtain ⟨t1, t2, _⟩ := textT_back' hb3 y1
  obtain ⟨i1, m, i2, i3, i4, i5⟩ := itR_back _ _ _ _ _ hb2 t1
  obtain ⟨n1, n2, n3, n4⟩ := numT_back' hb1 i1
  obtain ⟨k1, k2, _⟩ := readNs_back bdK s hb n1
  have e0 : (mlM Y s).kind = kindM s := rfl
  have e1 : [(mlM Y s).kind, (mlM Y s).order] = (m1M s).1 := ns2 (readNs_len bdK s)
  have e2 : (mlM Y s).items = m := i2.trans (by simp)
  have e3 : codeK (mlM Y s).ask = (m4M s).1 := by
    show codeK ((askT (m4M s).1).getD zeroK) = _
    rw [ha]
    exact askT_code hb4.1 ha
  have e4 : ((m.length : Nat) : Int) = (m2M s).1 := by rw [i3]; exact Int.toNat_of_nonneg n3
  have e5 : ysM (mlM Y s) = [(m5M Y s).1.getD 0 0, (m5M Y s).1.getD 1 0, (m5M Y s).1.getD 2 0, (m5M Y s).1.getD 3 0] := rfl
  refine ⟨k1, ?_, fun hk => ?_⟩
  · unfold encM
    rw [e1, e2, e3, e4, e5, e0]
    simp only [List.append_assoc]
    have y2' : (m4M s).2.1 = (if hasM (kindM s) 121 = true then numsB [(m5M Y s).1.getD 0 0, (m5M Y s).1.getD 1 0, (m5M Y s).1.getD 2 0, (m5M Y s).1.getD 3 0] else []) ++ (m5M Y s).2.1 := y2
    rw [← y2']
    have t2' : (m3M s).2.1 = textB (m4M s).1 ++ (m4M s).2.1 := t2
    rw [← t2']
    have i4' : (m2M s).2.1 = itemsB m ++ (m3M s).2.1 := i4
    rw [← i4']
    have n2' : (m1M s).2.1 = numB (m2M s).1 ++ (m2M s).2.1 := n2
    rw [← n2']
    exact k2
  · rw [e0] at hk
    have h3 : Inside Y (m5M Y s).1 := y3 hk
    have hl : (m5M Y s).1.length = 4 := by
      show (yT Y (kindM s) (m4M s).2).1.length = 4
      unfold yT
      rw [if_pos hk, readNs_len, hY]
    rw [e5, ns4 hl]
    exact h3
theorem m_put {Y : List (Int × Int)} {m : Ml} (r : List Nat) (h : LimM m) (hi : I64 m.yN) (hY : hasM m.kind 121 = true → Inside Y (ysM m)) :
    m4M (encM m ++ r, false) = (codeK m.ask, ((if hasM m.kind 121 = true then numsB (ysM m) else []) ++ r, false)) ∧ m5M Y (encM m ++ r, false) = (ysM m, (r, false)) ∧ mlM Y (encM m ++ r, false) = m := by
  have e1 : m1M (encM m ++ r, false) = ([m.kind, m.order], (numB m.items.length ++ (itemsB m.items ++ (textB (codeK m.ask) ++ ((if hasM m.kind 121 = true then numsB (ysM m) else []) ++ r))), false)) := by
    unfold encM m1M
    simp only [List.append_assoc]
    exact readNs_put bdK [m.kind, m.order] _ ⟨h.kind, h.order, trivial⟩ (by
      intro n hn
      have h1 := h.kind
      have h2 := h.order
      simp only [List.mem_cons, List.not_mem_nil, or_false] at hn
      unfold I64
      rcases hn with rfl | rfl <;> omega)
  have h5 := (mayI_at h.items).1
  have e2 : m2M (encM m ++ r, false) = ((m.items.length : Int), (itemsB m.items ++ (textB (codeK m.ask) ++ ((if hasM m.kind 121 = true then numsB (ysM m) else []) ++ r)), false)) := by
    unfold m2M
    rw [e1]
    exact numT_put _ (by unfold I64; omega) _ (by omega) (by omega)
  have e3 : m3M (encM m ++ r, false) = (m.items, (textB (codeK m.ask) ++ ((if hasM m.kind 121 = true then numsB (ysM m) else []) ++ r), false)) := by
    unfold m3M
    rw [e2]
    simp only [Int.toNat_natCast]
    have := itR_put 1 1099511627776 m.items [] (textB (codeK m.ask) ++ ((if hasM m.kind 121 = true then numsB (ysM m) else []) ++ r)) (fun x hx => by
      obtain ⟨q1, q2, q3⟩ := mayI_item h.items x hx
      exact ⟨q1, ⟨q2, q3⟩, by unfold I64; omega⟩)
    simpa using this
  have e4 : m4M (encM m ++ r, false) = (codeK m.ask, ((if hasM m.kind 121 = true then numsB (ysM m) else []) ++ r, false)) := by
    unfold m4M
    rw [e3]
    have := codeK_le m.ask
    exact textT_put _ _ (by omega) (by omega)
  have e0 : kindM (encM m ++ r, false) = m.kind := by unfold kindM; rw [e1]; rfl
  have e5 : m5M Y (encM m ++ r, false) = (ysM m, (r, false)) := by
    unfold m5M
    rw [e4, e0]
    unfold yT
    by_cases hk : hasM m.kind 121 = true
    · rw [if_pos hk]
      simp only [if_pos hk]
      exact readNs_put Y (ysM m) r (hY hk) (by
        intro n hn
        obtain ⟨g1, g2, g3⟩ := h.ys hk
        simp only [ysM, List.mem_cons, List.not_mem_nil, or_false] at hn
        unfold I64 at hi ⊢
        rcases hn with rfl | rfl | rfl | rfl <;> omega)
    · rw [if_neg hk]
      simp only [if_neg hk, List.nil_append]
      obtain ⟨z1, z2, z3, z4⟩ := h.yz (by simpa using hk)
      simp only [ysM, z1, z2, z3, z4]
  refine ⟨e4, e5, ?_⟩
  unfold mlM
  rw [e1, e3, e4, e5, askT_put h]
  rfl
theorem inside_Y {m : Ml} (h : LimM m) (hi : I64 m.yN) (hk : hasM m.kind 121 = true) : Inside bdY (ysM m) := by
  obtain ⟨g1, g2, g3⟩ := h.ys hk
  unfold I64 at hi
  simp only [bdY, ysM, Inside, and_true]
  omega
theorem inside_YX {m : Ml} (h : LimM m) (hi : I64 m.yN) (hk : hasM m.kind 121 = true) : Inside bdYX (ysM m) := by
  obtain ⟨g1, g2, g3⟩ := h.ys hk
  unfold I64 at hi
  simp only [bdYX, ysM, Inside, and_true]
  omega
theorem yN_i64 {Y : List (Int × Int)} {m : Ml} (h : LimM m) (hY : hasM m.kind 121 = true → Inside Y (ysM m)) (h4 : Y = bdY ∨ Y = bdYX) : I64 m.yN := by
  unfold I64
  by_cases hk : hasM m.kind 121 = true
  · have := hY hk
    rcases h4 with rfl | rfl
    · simp only [bdY, ysM, Inside, and_true] at this; omega
    · simp only [bdYX, ysM, Inside, and_true] at this; omega
  · have := (h.yz (by simpa using hk)).2.2.2
    omega
theorem unM_iff {c : List Nat} (hb : ∀ b ∈ c, b < 256) (m : Ml) : unM c = some m ↔ mayM m = true ∧ I64 m.yN ∧ c = encM m := by
  constructor
  · intro h
    unfold unM at h
    split at h
    · rename_i hc
      obtain ⟨h1, h2, h3⟩ := hc
      injection h with h
      obtain ⟨h4, h5⟩ := doneT_zero.1 h1
      obtain ⟨a, ha⟩ := Option.isSome_iff_exists.1 h2
      obtain ⟨_, h6, h7⟩ := m_back (s := (c, false)) (Y := bdY) rfl hb h4 ha
      rw [h5, h, List.append_nil] at h6
      rw [h] at h3 h7
      exact ⟨h3, yN_i64 (mayM_lim h3) h7 (.inl rfl), h6⟩
    · cases h
  · rintro ⟨h, hi, rfl⟩
    have hl := mayM_lim h
    obtain ⟨e1, e2, e3⟩ := m_put (Y := bdY) [] hl hi (inside_Y hl hi)
    rw [List.append_nil] at e1 e2 e3
    unfold unM
    rw [e1, e2, e3, if_pos ⟨rfl, by rw [askT_put hl]; rfl, h⟩]
/-- The same, as the reference reads it. -/
def x3M (s : St) : List It × St := itX (m2M s).1.toNat [] (m2M s).2
def x4M (s : St) : List Nat × St := rtextT (x3M s).2 262144
def x5M (s : St) : List Int × St := yT bdYX (kindM s) (x4M s).2
def xaskT (k : Int) (t : List Nat) : Option Ak := if hasM k 97 = true then unXA t else if t = [] then some zeroK else none
def xM (s : St) : Ml := mlOf (m1M s).1 (x3M s).1 ((xaskT (kindM s) (x4M s).1).getD zeroK) (x5M s).1
def xokM (s : St) : Bool := !(x3M s).2.2 && mayI (x3M s).1
def unXM (c : List Nat) : Option Ml := if xokM (c, false) = true ∧ (xaskT (kindM (c, false)) (x4M (c, false)).1).isSome = true ∧ (x5M (c, false)).2 = ([], false) ∧ mayM (xM (c, false)) = true then some (xM (c, false)) else none
theorem readNs_bad : ∀ (l : List (Int × Int)) (s : St), s.2 = true → (readNs l s).2.2 = true
  | [], _, h => h
  | p :: l, s, h => by
    simp only [readNs]
    rw [numT_bad h]
    exact readNs_bad l s h
theorem yT_start {Y : List (Int × Int)} {k : Int} {s : St} (h : (yT Y k s).2.2 = false) : s.2 = false := by
  cases hs : s.2 with
  | false => rfl
  | true =>
    unfold yT at h
    split at h
    · rw [readNs_bad Y s hs] at h; cases h
    · rw [hs] at h; cases h
theorem rtextT_start {s : St} {m : Int} (h : (rtextT s m).2.2 = false) : s.2 = false := by
  cases hs : s.2 with
  | false => rfl
  | true =>
    unfold rtextT at h
    rw [numT_bad hs] at h
    simp [hs] at h
theorem xM_eq {s : St} (hb : ∀ b ∈ s.1, b < 256) (h : (x5M s).2.2 = false ∨ (m5M bdYX s).2.2 = false) : x3M s = m3M s ∧ x4M s = m4M s ∧ x5M s = m5M bdYX s := by
  have hb1 : ∀ b ∈ (m1M s).2.1, b < 256 := readNs_lt bdK s hb
  have hb2 : ∀ b ∈ (m2M s).2.1, b < 256 := numT_lt hb1 0 16
  have hb3 : ∀ b ∈ (m3M s).2.1, b < 256 := itR_lt _ _ _ _ _ hb2
  have h3 : (itR 1 1099511627776 (m2M s).1.toNat [] (m2M s).2).2.2 = false ∨ (itX (m2M s).1.toNat [] (m2M s).2).2.2 = false := by
    rcases h with h | h
    · exact .inr (rtextT_start (yT_start h))
    · exact .inl (textT_back' hb3 (yT_start h)).1
  have e3 : x3M s = m3M s := itX_eq _ _ _ hb2 h3
  have e4 : x4M s = m4M s := by
    have h4 : (textT (m3M s).2 262144).2.2 = false ∨ (rtextT (m3M s).2 262144).2.2 = false := by
      rcases h with h | h
      · right
        rw [← e3]
        exact yT_start h
      · exact .inl (yT_start h)
    unfold x4M m4M
    rw [e3]
    exact rtext_eq hb3 h4
  exact ⟨e3, e4, by unfold x5M m5M; rw [e4]⟩
theorem unXM_iff {c : List Nat} (hb : ∀ b ∈ c, b < 256) (m : Ml) : unXM c = some m ↔ mayM m = true ∧ I64 m.yN ∧ c = encM m := by
  constructor
  · intro h
    unfold unXM at h
    split at h
    · rename_i hc
      obtain ⟨_, h2, h3, h4⟩ := hc
      injection h with h
      obtain ⟨e3, e4, e5⟩ := xM_eq (s := (c, false)) hb (.inl (by rw [h3]))
      rw [e4] at h2
      obtain ⟨a, ha⟩ := Option.isSome_iff_exists.1 h2
      have hb4 : ∀ b ∈ (m4M (c, false)).1, b < 256 := (textT_lt (itR_lt _ _ _ _ _ (numT_lt (readNs_lt bdK _ hb) 0 16)) 262144).1
      have ha2 : askT (m4M (c, false)).1 = some a := by
        unfold xaskT at ha
        unfold askT
        split at ha
        · rw [← unA_eq hb4] at ha
          have := (unA_iff hb4 a).1 ha
          rw [if_neg (by rw [this.2, encA_body]; intro e; have h1 := congrArg List.length e; simp only [List.length_append, List.length_nil] at h1; have := (numB_length a.client).1; omega)]
          exact ha
        · split at ha
          · rename_i he; rw [if_pos he]; exact ha
          · cases ha
      have e6 : xM (c, false) = mlM bdYX (c, false) := by
        unfold xM mlM
        rw [e3, e4, e5, ha, ha2]
      obtain ⟨_, h6, h7⟩ := m_back (s := (c, false)) (Y := bdYX) rfl hb (by rw [← e5, h3]) ha2
      rw [← e6, h, ← e5, h3, List.append_nil] at h6
      rw [← e6, h] at h7
      rw [h] at h4
      exact ⟨h4, yN_i64 (mayM_lim h4) h7 (.inr rfl), h6⟩
    · cases h
  · rintro ⟨h, hi, rfl⟩
    have hl := mayM_lim h
    obtain ⟨e1, e2, e3⟩ := m_put (Y := bdYX) [] hl hi (inside_YX hl hi)
    rw [List.append_nil] at e1 e2 e3
    obtain ⟨f3, f4, f5⟩ := xM_eq (s := (encM m, false)) (encM_lt m) (.inr (by rw [e2]))
    have hk : kindM (encM m, false) = m.kind := by
      have h1 : (mlM bdYX (encM m, false)).kind = m.kind := by rw [e3]
      exact h1
    have hx : xaskT m.kind (codeK m.ask) = some m.ask := by
      have h3 : mayM3 m = true := by
        unfold mayM at h
        simp only [Bool.and_eq_true] at h
        exact h.2.2.2.1
      unfold mayM3 rightM at h3
      unfold xaskT
      split
      · rename_i hk
        rw [if_pos hk] at h3
        unfold codeK
        rw [if_pos h3, ← unA_eq (encA_lt _)]
        exact (unA_iff (encA_lt _) _).2 ⟨h3, rfl⟩
      · rename_i hk
        rw [if_neg hk] at h3
        have := eqA_iff.1 h3
        rw [this]
        unfold codeK
        rw [zeroK_may]
        rfl
    have e6 : xM (encM m, false) = mlM bdYX (encM m, false) := by
      unfold xM mlM
      rw [f3, f4, f5, e1, hk, hx, askT_put hl]
    have f3i : (m3M (encM m, false)).1 = m.items := by
      have : (mlM bdYX (encM m, false)).items = m.items := by rw [e3]
      exact this
    have f3b : (m3M (encM m, false)).2.2 = false := by
      have hb3 : ∀ b ∈ (m3M (encM m, false)).2.1, b < 256 := itR_lt _ _ _ _ _ (numT_lt (readNs_lt bdK _ (encM_lt m)) 0 16)
      exact (textT_back' hb3 (by show (m4M (encM m, false)).2.2 = false; rw [e1])).1
    have hok : xokM (encM m, false) = true := by
      unfold xokM
      rw [f3, f3b, f3i, hl.items]
      rfl
    unfold unXM
    rw [if_pos ⟨hok, by rw [f4, e1, hk, hx]; rfl, by rw [f5, e2], by rw [e6, e3]; exact h⟩, e6, e3]
theorem unM_eq {c : List Nat} (hb : ∀ b ∈ c, b < 256) : unM c = unXM c := by
  cases h : unM c with
  | some a => exact ((unXM_iff hb a).2 ((unM_iff hb a).1 h)).symm
  | none =>
    cases h2 : unXM c with
    | none => rfl
    | some a => rw [(unM_iff hb a).2 ((unXM_iff hb a).1 h2)] at h; cases h
theorem encM_inj {a b : Ml} (ha : mayM a = true) (hb : mayM b = true) (ia : I64 a.yN) (ib : I64 b.yN) (h : encM a = encM b) : a = b := by
  have h1 := (unM_iff (encM_lt a) a).2 ⟨ha, ia, rfl⟩
  have h2 := (unM_iff (encM_lt b) b).2 ⟨hb, ib, rfl⟩
  rw [h, h2] at h1
  injection h1 with h1
  exact h1.symm
end Go.Proofs.Ytpccbobomppdbaa

namespace Go.Proofs.Ytpccbobomppdbaa
open Go.RowKit

/-- The fields of a kind, as a text. -/
def txtM (k : Int) : ByteArray := strOf (fldM k)
theorem fldM_cases (k : Int) : fldM k ∈ [[97], [121], [111, 105], [111], []] := by
  unfold fldM
  repeat' split
  all_goals decide
theorem fldM_of {k : Int} (h : k < 1 ∨ 13 < k) : fldM k = [] := by
  unfold fldM
  repeat' split
  all_goals first | omega | rfl
theorem txtM_of {k : Int} (h : k < 1 ∨ 13 < k) : txtM k = ByteArray.empty := by
  unfold txtM
  rw [fldM_of h]
  rfl
theorem idx_txt (k : Int) (c : Nat) (hc : c ∈ [97, 121, 111, 105]) : decide (0 ≤ Lib.indexByte (txtM k).data.toList (UInt8.ofNat c)) = hasM k c := by
  unfold txtM hasM
  have key : ∀ l ∈ [[97], [121], [111, 105], [111], []], ∀ c ∈ [97, 121, 111, 105], decide (0 ≤ Lib.indexByte (strOf l).data.toList (UInt8.ofNat c)) = l.contains c := by decide +kernel
  exact key _ (fldM_cases k) c hc
theorem fldM_lt (k : Int) : ∀ x ∈ fldM k, x < 256 := by
  have key : ∀ l ∈ [[97], [121], [111, 105], [111], []], ∀ x ∈ l, x < 256 := by decide
  exact key _ (fldM_cases k)
set_option maxRecDepth 100000 in
theorem mhas_any (k : Int) (w : World) : Calls Try.prog 11 #[.int .i64 k] w fun e W => e = .returned (.string (txtM k)) ∧ w = W := by
  by_cases hr : 1 ≤ k ∧ k ≤ 13
  · have hk : k = 1 ∨ k = 2 ∨ k = 3 ∨ k = 4 ∨ k = 5 ∨ k = 6 ∨ k = 7 ∨ k = 8 ∨ k = 9 ∨ k = 10 ∨ k = 11 ∨ k = 12 ∨ k = 13 := by omega
    clear hr
    go_enter Try.func11, Try.ntmps11
    rcases hk with rfl | rfl | rfl | rfl | rfl | rfl | rfl | rfl | rfl | rfl | rfl | rfl | rfl
    all_goals
      go_wp2
      go_ret
      exact ⟨rfl, rfl⟩
  · have he : txtM k = ByteArray.empty := txtM_of (by omega)
    rw [he]
    have e1 : (k == 1) = false := by simp; omega
    have e2 : (k == 2) = false := by simp; omega
    have e3 : (k == 3) = false := by simp; omega
    have e4 : (k == 4) = false := by simp; omega
    have e5 : (k == 5) = false := by simp; omega
    have e6 : (k == 6) = false := by simp; omega
    have e7 : (k == 7) = false := by simp; omega
    have e8 : (k == 8) = false := by simp; omega
    have e9 : (k == 9) = false := by simp; omega
    have e10 : (k == 10) = false := by simp; omega
    have e11 : (k == 11) = false := by simp; omega
    have e12 : (k == 12) = false := by simp; omega
    have e13 : (k == 13) = false := by simp; omega
    clear he hr
    go_enter Try.func11, Try.ntmps11
    go_wp2
    go_ret
    exact ⟨rfl, rfl⟩
set_option maxRecDepth 100000 in
set_option maxHeartbeats 8000000 in
theorem xmhas_any (k : Int) (w : World) : Calls Try.prog 12 #[.int .i64 k] w fun e W => e = .returned (.string (txtM k)) ∧ Below w.heap.size w W := by
  by_cases hr : 0 ≤ k ∧ k ≤ 14
  · have hk : k = 0 ∨ k = 1 ∨ k = 2 ∨ k = 3 ∨ k = 4 ∨ k = 5 ∨ k = 6 ∨ k = 7 ∨ k = 8 ∨ k = 9 ∨ k = 10 ∨ k = 11 ∨ k = 12 ∨ k = 13 ∨ k = 14 := by omega
    clear hr
    go_enter Try.func12, Try.ntmps12
    rcases hk with rfl | rfl | rfl | rfl | rfl | rfl | rfl | rfl | rfl | rfl | rfl | rfl | rfl | rfl | rfl
    all_goals
      go_wp2
      go_ret
      exact ⟨rfl, (Below.refl _ w).alloc (Nat.le_refl _) _⟩
  · have he : txtM k = ByteArray.empty := txtM_of (by omega)
    rw [he]
    clear he
    by_cases h0 : k < 0
    · go_enter Try.func12, Try.ntmps12
      go_wp2
      go_ret
      exact ⟨rfl, (Below.refl _ w).alloc (Nat.le_refl _) _⟩
    · have h1 : 15 ≤ k := by omega
      clear hr
      go_enter Try.func12, Try.ntmps12
      go_wp2
      go_ret
      exact ⟨rfl, (Below.refl _ w).alloc (Nat.le_refl _) _⟩
/-- The kind by which one is answered. -/
def ansM (k : Int) : Int := if k = 1 ∨ k = 3 ∨ k = 5 ∨ k = 7 ∨ k = 9 ∨ k = 11 then k + 1 else 0
set_option maxRecDepth 100000 in
theorem answers_any (k : Int) (w : World) : Calls Try.prog 13 #[.int .i64 k] w fun e W => e = .returned (.int .i64 (ansM k)) ∧ w = W := by
  by_cases hk : k = 1 ∨ k = 3 ∨ k = 5 ∨ k = 7 ∨ k = 9 ∨ k = 11
  · go_enter Try.func13, Try.ntmps13
    rcases hk with rfl | rfl | rfl | rfl | rfl | rfl
    all_goals
      go_wp2
      go_ret
      exact ⟨rfl, rfl⟩
  · have he : ansM k = 0 := by unfold ansM; rw [if_neg hk]
    rw [he]
    have e1 : (k == 1) = false := by simp; omega
    have e3 : (k == 3) = false := by simp; omega
    have e5 : (k == 5) = false := by simp; omega
    have e7 : (k == 7) = false := by simp; omega
    have e9 : (k == 9) = false := by simp; omega
    have e11 : (k == 11) = false := by simp; omega
    clear he hk
    go_enter Try.func13, Try.ntmps13
    go_wp2
    go_ret
    exact ⟨rfl, rfl⟩
set_option maxRecDepth 100000 in
theorem xmhasf_any (k : Int) (c : Nat) (w : World) : Calls Try.prog 34 #[.int .i64 k, .int .u8 c] w fun e W => e = .returned (.bool (hasM k c)) ∧ Below w.heap.size w W := by
  have hlt := fldM_lt k
  have HC := Lib.hid (xmhas_any k w)
  obtain ⟨l, hl⟩ : ∃ l, fldM k = l := ⟨_, rfl⟩
  have HH : Hid (hasM k c = l.contains c) := Lib.hid (by unfold hasM; rw [hl])
  have hs : txtM k = strOf l := by unfold txtM; rw [hl]
  rw [hs] at HC
  rw [hl] at hlt
  have HLT := Lib.hid hlt
  have hsz := strOf_size' l
  have hl3 : l.length ≤ 3 := by
    have key : ∀ l ∈ [[97], [121], [111, 105], [111], []], l.length ≤ 3 := by decide
    rw [← hl]
    exact key _ (fldM_cases k)
  obtain ⟨s, hse⟩ : ∃ s, strOf l = s := ⟨_, rfl⟩
  have HAT : Hid (∀ (j : Nat) (hj : j < s.size), ∃ h2 : j < l.length, (s[j]'hj).toNat = l[j]) := Lib.hid (by rw [← hse]; exact fun j hj => has_at hj hlt)
  rw [hse] at HC hsz
  have hs3 : s.size ≤ 3 := by omega
  have HSZ := Lib.hid hsz
  clear hlt hs hl hse hsz hl3
  go_enter Try.func34, Try.ntmps34
  go_wp2_with fail
  refine HC.out.mono ?_
  rintro e w1 ⟨rfl, hb⟩
  have HB := Lib.hid hb
  clear hb HC
  go_wp2_with fail
  go_loop [6] (fun i => ∃ j : Nat, j ≤ s.size ∧ i = .int .i64 j ∧ ∀ i (hi : i < l.length), i < j → l[i] ≠ c) (fun i => s.size - (intOf i).toNat)
  case atStart => exact ⟨0, Nat.zero_le _, rfl, fun j _ h => absurd h (by omega)⟩
  case round =>
    obtain ⟨j, hj, rfl, hq⟩ := hrel
    have HQ := Lib.hid hq
    clear hq
    by_cases hlt : j < s.size
    · obtain ⟨hjl, hat⟩ := HAT.out j hlt
      obtain ⟨x, hx⟩ : ∃ x, s[j]'hlt = x := ⟨_, rfl⟩
      rw [hx] at hat
      have HX := Lib.hid hat
      clear hat
      by_cases hxc : x.toNat = c
      · have hxb : ((x.toNat : Int) == (c : Int)) = true := by simp; omega
        have HT : Hid (hasM k c = true) := Lib.hid (by rw [HH.out, List.contains_iff_mem, ← hxc, HX.out]; exact List.getElem_mem _)
        clear hxc
        go_wp2
        go_ret
        exact ⟨ret_bool HT.out.symm, HB.out⟩
      · have hxb : ((x.toNat : Int) == (c : Int)) = false := by simp; omega
        have HN : Hid (l[j] ≠ c) := Lib.hid (by rw [← HX.out]; exact hxc)
        clear hxc
        go_wp2
        go_round
        case rel =>
          refine ⟨j + 1, by omega, by go_num, fun i hi hij => ?_⟩
          rcases Nat.lt_or_ge i j with h | h
          · exact HQ.out i hi h
          · obtain rfl : i = j := by omega
            exact HN.out
        case measure => simp [intOf]; omega
    · have HF : Hid (hasM k c = false) := Lib.hid (by
        rw [HH.out]
        cases h : l.contains c with
        | false => rfl
        | true =>
          rw [List.contains_iff_mem] at h
          obtain ⟨i, hi, e⟩ := List.getElem_of_mem h
          exact absurd e (HQ.out i hi (by have := HSZ.out; omega)))
      go_wp2
      go_ret
      exact ⟨ret_bool HF.out.symm, HB.out⟩
/-- Asking for a field: what may be there, or what is empty. -/
theorem mright_any (k : Int) (p : Nat) (c : Nat) (hc : c ∈ [97, 121, 111, 105]) (x y : Bool) (w : World) (hp : w.cell? ⟨p, 0, none⟩ = some (.string (txtM k))) :
    Calls Try.prog 29 #[.string ⟨#[UInt8.ofNat c]⟩, .bool x, .bool y, .pointer (some ⟨p, 0, none⟩)] w fun e W => e = .returned (.bool (rightM k c x y)) ∧ w = W := by
  have H := Lib.hid (Try.strings_Contains_one (txtM k) (UInt8.ofNat c) w)
  rw [idx_txt k c hc] at H
  obtain ⟨T, hT⟩ : ∃ T, hasM k c = T := ⟨_, rfl⟩
  have HT := Lib.hid hT
  rw [hT] at H
  clear hT hc
  go_enter Try.func29, Try.ntmps29
  go_wp2_with fail
  refine H.out.mono ?_
  rintro e w1 ⟨rfl, rfl⟩
  cases T
  · go_wp2
    go_ret
    exact ⟨ret_bool (by unfold rightM; rw [HT.out]; rfl), rfl⟩
  · go_wp2
    go_ret
    exact ⟨ret_bool (by unfold rightM; rw [HT.out]; rfl), rfl⟩
end Go.Proofs.Ytpccbobomppdbaa
