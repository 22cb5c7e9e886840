/- Plain laws of loops that count up. Conditions: none; no program is named. -/
import Derived.Test.YtcckclbpajegnaaCwI
set_option linter.all false
set_option linter.unusedVariables false
namespace Go.Cw
open Go

theorem add1 {i : Nat} {n : Nat} (h : i < n) (hn : n ≤ 2 ^ 40) : arI .add .i64 (i : Int) 1 = ((i + 1 : Nat) : Int) := by
  simp only [arI, IntKind.wrap, IntKind.signed, IntKind.bits]
  simp
  omega

theorem Lfp1.up {step : Int → (Int → Prop) → Prop} (n : Nat) (Inv : Nat → Prop) {k : Nat} (hk : k ≤ n) (h0 : Inv k)
    (h : ∀ (i : Nat) (I : Int → Prop), i ≤ n → Inv i → (i < n → Inv (i + 1) → I ((i + 1 : Nat) : Int)) → step (i : Int) I) : Lfp1 step (k : Int) := by
  refine Lfp1.intro (fun (x : Int) => ∃ i : Nat, x = i ∧ i ≤ n ∧ Inv i) (fun (x : Int) => n - x.toNat) ⟨k, rfl, hk, h0⟩ ?_
  rintro x I ⟨i, rfl, hi, hv⟩ hI
  refine h i I hi hv fun hlt hv' => hI _ ⟨i + 1, rfl, hlt, hv'⟩ ?_
  show n - ((i + 1 : Nat) : Int).toNat < n - (i : Int).toNat
  simp only [Int.toNat_natCast]
  omega

theorem Lfp2.up {β : Type} {step : Int → β → (Int → β → Prop) → Prop} (n : Nat) (Inv : Nat → β → Prop) {k : Nat} {b : β} (hk : k ≤ n) (h0 : Inv k b)
    (h : ∀ (i : Nat) (b : β) (I : Int → β → Prop), i ≤ n → Inv i b → (∀ b', i < n → Inv (i + 1) b' → I ((i + 1 : Nat) : Int) b') → step (i : Int) b I) : Lfp2 step (k : Int) b := by
  refine Lfp2.intro (fun (x : Int) b => ∃ i : Nat, x = i ∧ i ≤ n ∧ Inv i b) (fun (x : Int) _ => n - x.toNat) ⟨k, rfl, hk, h0⟩ ?_
  rintro x b I ⟨i, rfl, hi, hv⟩ hI
  refine h i b I hi hv fun b' hlt hv' => hI _ _ ⟨i + 1, rfl, hlt, hv'⟩ ?_
  show n - ((i + 1 : Nat) : Int).toNat < n - (i : Int).toNat
  simp only [Int.toNat_natCast]
  omega
end Go.Cw
