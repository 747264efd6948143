/- A drawn region, its end laid down once for all the orders in which it is walked. -/
import Derived.Test.YtjgdcdojigcefaaFlow3
namespace Go.Proofs.Ytjgdcdojigcefaa

section
variable {F : Fence} {n : Nat} {P : Program} {ops : Array Oper} {Q Q' : Exit → Act → World → Prop}

theorem wpIn_monoQ {o : Oper} {a : Act} {w : World} {K : Act → World → Prop} (h : ∀ x a w, Q x a w → Q' x a w) (hh : o.wpIn F n P a w K Q) : o.wpIn F n P a w K Q' := by
  have hl : LetsOut Q → LetsOut Q' := fun hl => by
    obtain ⟨a, w, hl⟩ := hl
    exact ⟨a, w, h _ _ _ hl⟩
  unfold Oper.wpIn at *
  refine ⟨hh.1, ?_⟩
  have hh := hh.2
  generalize (o.semAt F.round a.eval).run P w = r at *
  cases r with
  | ok x w' =>
    cases x <;> simp only [Oper.uponIn] at hh ⊢ <;>
      first
        | exact hh
        | exact ⟨hh.1, CallsIn.mono hh.2 (fun e w'' he => by cases e <;> first | exact he | exact hl he | exact h _ _ _ he)⟩
        | exact ⟨hh.1, RoundIn.mono hh.2 (fun e w'' he => by cases e <;> first | exact he | exact hl he | exact h _ _ _ he)⟩
  | halt x w' => cases x <;> simp only [Oper.uponIn] at hh ⊢ <;> first | exact h _ _ _ hh | exact hh
theorem wpOpsIn_monoQ (h : ∀ x a w, Q x a w → Q' x a w) : ∀ (l : List Nat) (a : Act) (w : World), wpOpsIn F n P ops Q l a w → wpOpsIn F n P ops Q' l a w
  | [], a, w, hh => h _ a w hh
  | i :: r, a, w, hh => by
    rw [wpOpsIn_cons] at hh ⊢
    have hh := wpOpIn_mono (fun a w => wpOpsIn_monoQ h r a w) hh
    unfold wpOpIn at *
    split
    · simpa [*] using hh
    · rename_i o ho
      simp only [ho] at hh
      split
      · rename_i hw; simp only [hw, if_true] at hh; exact wpIn_monoQ h hh
      · rename_i hw; simp only [hw] at hh; exact hh
/-- Only what M says is known where the region ends. -/
theorem region_mid {id : Nat} {a : Act} {w : World} (M : Act → World → Prop) (hm : P.follows .mixedOrders = true) (h : RegOK F n P ops (fun x a w => x = .normal ∧ M a w ∨ x ≠ .normal ∧ Q x a w) a w.drew) (hk : ∀ a w, M a w → Q .normal a w) : (Code.region id ops true).wpIn F n P Q a w :=
  region_of_ok hm fun l hl => wpOpsIn_monoQ (fun x a w hx => by
    rcases hx with ⟨rfl, hx⟩ | ⟨_, hx⟩
    · exact hk a w hx
    · exact hx) l a _ (h l hl)
theorem flow_end {vis : List Nat} {S C : World → Prop} {a : Act} {R : Act → World → Prop} (h : ∀ w, S w → C w → R a w) : FlowAll P ops (fun a S => ∀ w, S w → R a w) [] vis S C a := fun w hw => h w hw.1 hw.2
/-- A store (or what else hands back nothing) that keeps S, and of which C' holds until the next one. -/
theorem flow_store {R : Act → (World → Prop) → Prop} {o : Oper} {i : Nat} {l vis : List Nat} {S C : World → Prop} {a : Act} (C' : World → Prop) (ho : ops.toList[i]? = some o) (hv : boundIn vis o = true) (hw : Region.wanted o (yielded ops a.tmps) = true) (hb : behindB ops i l = true)
    (h : ∀ w, S w → C w → ∃ w', (execOp a.eval o).run P w = .ok .skip w' ∧ S w' ∧ C' w')
    (h' : FlowAll P ops R l (i :: vis) (fun w => S w ∧ True) C' (a.put o.dst undef)) : FlowAll P ops R (i :: l) vis S C a :=
  ⟨o, by rw [← Array.getElem?_toList]; exact ho, hv, .inr ⟨hw, hb, S, .inr fun _ h => h, fun u _ => u = undef, fun _ => C', fun w hs hc => by
    obtain ⟨w', h1, h2, h3⟩ := h w hs hc
    exact .inr (.inl ⟨w', h1, h2, rfl, h3⟩), fun u ⟨_, _, hu, _⟩ => by
      subst hu
      have e : (fun w => S w ∧ undef = undef) = (fun w => S w ∧ True) := by funext w; simp
      rw [e]
      exact h'⟩⟩
/-- The same, where four values tell the state at the end. -/
theorem wp_region_mid4 {id : Nat} {a : Act} {w : World} {α β γ δ : Type} {M : α → β → γ → δ → World → Prop} {tm : α → β → γ → δ → Act} (hm : P.follows .mixedOrders = true)
    (h : RegOK Fence.wide 9 P ops (fun x a w => x = .normal ∧ (∃ p q r s, a = tm p q r s ∧ M p q r s w) ∨ x ≠ .normal ∧ Q x a w) a w.drew) (hk : ∀ p q r s w, M p q r s w → Q .normal (tm p q r s) w) : (Code.region id ops true).wp P Q a w :=
  (wpIn_wide (n := 9)).1 (region_mid (fun a w => ∃ p q r s, a = tm p q r s ∧ M p q r s w) hm h fun a w hx => by
    obtain ⟨p, q, r, s, rfl, hx⟩ := hx
    exact hk p q r s w hx)
/-- The same, where five values tell the state at the end. -/
theorem wp_region_mid5 {id : Nat} {a : Act} {w : World} {α β γ δ ε : Type} {M : α → β → γ → δ → ε → World → Prop} {tm : α → β → γ → δ → ε → Act} (hm : P.follows .mixedOrders = true)
    (h : RegOK Fence.wide 9 P ops (fun x a w => x = .normal ∧ (∃ p q r s t, a = tm p q r s t ∧ M p q r s t w) ∨ x ≠ .normal ∧ Q x a w) a w.drew) (hk : ∀ p q r s t w, M p q r s t w → Q .normal (tm p q r s t) w) : (Code.region id ops true).wp P Q a w :=
  (wpIn_wide (n := 9)).1 (region_mid (fun a w => ∃ p q r s t, a = tm p q r s t ∧ M p q r s t w) hm h fun a w hx => by
    obtain ⟨p, q, r, s, t, rfl, hx⟩ := hx
    exact hk p q r s t w hx)
/-- The same, where six values tell the state at the end. -/
theorem wp_region_mid6 {id : Nat} {a : Act} {w : World} {α β γ δ ε ζ : Type} {M : α → β → γ → δ → ε → ζ → World → Prop} {tm : α → β → γ → δ → ε → ζ → Act} (hm : P.follows .mixedOrders = true)
    (h : RegOK Fence.wide 9 P ops (fun x a w => x = .normal ∧ (∃ p q r s t u, a = tm p q r s t u ∧ M p q r s t u w) ∨ x ≠ .normal ∧ Q x a w) a w.drew) (hk : ∀ p q r s t u w, M p q r s t u w → Q .normal (tm p q r s t u) w) : (Code.region id ops true).wp P Q a w :=
  (wpIn_wide (n := 9)).1 (region_mid (fun a w => ∃ p q r s t u, a = tm p q r s t u ∧ M p q r s t u w) hm h fun a w hx => by
    obtain ⟨p, q, r, s, t, u, rfl, hx⟩ := hx
    exact hk p q r s t u w hx)
end
end Go.Proofs.Ytjgdcdojigcefaa
