/- Plain laws for DifferTells: masks bit by bit. -/
import Derived.Test.YtcckclbpajegnaaCwV
set_option linter.all false
set_option linter.unusedVariables false
set_option linter.unusedSimpArgs false
namespace Go.Cw
open Go

theorem mb_step : ∀ b : Fin 256, ∀ k : Fin 8, mb (UInt8.ofNat b.val) ((k.val : Int) + 1) = if dg b.val k.val = 1 then (UI.of (arI .add .u8 ((mb (UInt8.ofNat b.val) (k.val : Int)).toNat : Int) (((UI.of (IntKind.u8.wrap ((128 / 2 ^ k.val : Nat) : Int)) : UInt8)).toNat : Int)) : UInt8) else mb (UInt8.ofNat b.val) (k.val : Int) := by decide +kernel

theorem mb_zero : ∀ b : Fin 256, mb (UInt8.ofNat b.val) 0 = 0 := by decide +kernel
theorem mb_of_zero : ∀ k : Fin 9, mb 0 (k.val : Int) = 0 := by decide +kernel

theorem u8_ofNat (b : UInt8) : ∃ n : Fin 256, b = UInt8.ofNat n.val := ⟨⟨b.toNat, UInt8.toNat_lt b⟩, by simp⟩

theorem mb_step' (b : UInt8) (k : Nat) (hk : k < 8) : mb b ((k : Int) + 1) = if dg b.toNat k = 1 then (UI.of (arI .add .u8 ((mb b (k : Int)).toNat : Int) (((UI.of (IntKind.u8.wrap ((128 / 2 ^ k : Nat) : Int)) : UInt8)).toNat : Int)) : UInt8) else mb b (k : Int) := by
  have := mb_step ⟨b.toNat, UInt8.toNat_lt b⟩ ⟨k, hk⟩
  simpa using this

theorem mb_zero' (b : UInt8) : mb b 0 = 0 := by
  have := mb_zero ⟨b.toNat, UInt8.toNat_lt b⟩
  simpa using this

theorem dg_mod (b i : Nat) : dg b i = dg b (i % 8) := by unfold dg; rw [Nat.mod_mod]
theorem dg_lt (b i : Nat) : dg b i < 2 := Nat.mod_lt _ (by decide)

theorem width_cases (a : TAddr) (h : addrOk a = true) : (a.V = 4 ∧ width a = 32) ∨ (a.V = 6 ∧ width a = 128) := by
  unfold width
  rw [h]
  unfold addrOk at h
  by_cases h4 : a.V = 4
  · exact .inl ⟨h4, by simp [h4]⟩
  · refine .inr ⟨?_, by simp [h4]⟩
    simpa [h4] using h

theorem clampK_nat (bits : Nat) (j : Nat) : clampK (bits : Int) j = ((if bits ≤ 8 * j then 0 else if 8 * j + 8 ≤ bits then 8 else bits - 8 * j : Nat) : Int) := by
  unfold clampK
  repeat' split
  all_goals omega

theorem r10_Mask.s {a : TAddr} {bits : Int} {K : TAddr → Prop} (h0 : 0 ≤ bits) (h1 : bits ≤ width a) (h : K (mask a bits)) : r10_Mask.W a bits K := by
  unfold r10_Mask.W
  refine r10_Right.s ?_
  unfold mask at h
  cases ho : addrOk a with
  | false => rw [ho] at h; exact Wif.true h
  | true =>
    rw [ho] at h
    refine Wif.false ?_
    refine r10_Width.s ?_
    have hw : width a ≤ 128 := by rcases width_cases a ho with ⟨_, e⟩ | ⟨_, e⟩ <;> rw [e] <;> decide
    obtain ⟨n, rfl⟩ : ∃ n : Nat, bits = n := ⟨bits.toNat, by omega⟩
    have hn : n ≤ 128 := by omega
    refine Lfp2.up (k := 0) n (fun i b => b.V = a.V ∧ ∀ j : Fin 16, b.B[j] = mb a.B[j] (clampK (i : Nat) j.val)) (Nat.zero_le _) ⟨rfl, fun j => ?_⟩ ?_
    · have : clampK ((0 : Nat) : Int) j.val = 0 := by rw [clampK_nat]; simp
      rw [this, mb_zero']
      simp
    rintro i b I hi ⟨hV, hB⟩ hI
    by_cases hlt : i < n
    · rw [show (cmpI .lss (i : Int) (width a) && cmpI .lss (i : Int) (n : Int)) = true by simp [cmpI]; omega]
      have hi128 : i < 128 := by omega
      have hj : i / 8 < 16 := by omega
      refine Wif.true (r10_digit.s hi128 (WJ.mk ?_))
      rw [add1 (n := 128) hi128 (by decide)]
      have hc : clampK (i : Nat) (i / 8) = ((i % 8 : Nat) : Int) := by rw [clampK_nat]; congr 1; split <;> (try split) <;> omega
      have hc1 : clampK ((i + 1 : Nat) : Int) (i / 8) = ((i % 8 : Nat) : Int) + 1 := by rw [clampK_nat]; split <;> (try split) <;> omega
      have hoth : ∀ j : Nat, j ≠ i / 8 → clampK ((i + 1 : Nat) : Int) j = clampK (i : Nat) j := fun j hne => by
        rw [clampK_nat, clampK_nat]; congr 1; repeat' split
        all_goals omega
      have hst := mb_step' a.B[i / 8] (i % 8) (Nat.mod_lt _ (by decide))
      rw [← dg_mod] at hst
      have hbi : b.B[i / 8] = mb a.B[i / 8] ((i % 8 : Nat) : Int) := by
        have := hB ⟨i / 8, hj⟩
        rw [hc] at this
        simpa using this
      by_cases hd : dg (a.B[i / 8]).toNat i = 1
      · rw [show cmpI .eql ((dg (a.B[i / 8]).toNat i : Nat) : Int) 1 = true by rw [hd]; rfl]
        rw [if_pos hd] at hst
        refine Wif.true ?_
        refine Lfp2.intro (fun (x y : Int) => ∃ k : Nat, y = k ∧ k ≤ i % 8 ∧ x = ((128 / 2 ^ k : Nat) : Int)) (fun (x y : Int) => 8 - y.toNat) ⟨0, rfl, Nat.zero_le _, rfl⟩ ?_
        rintro x y I2 ⟨k, rfl, hk, rfl⟩ hI2
        rw [rem8]
        by_cases hlt2 : k < i % 8
        · rw [show cmpI .lss (k : Int) ((i % 8 : Nat) : Int) = true by simp [cmpI]; omega]
          refine Wif.true ?_
          have hx : 128 / 2 ^ k < 256 := Nat.lt_of_le_of_lt (Nat.div_le_self _ _) (by decide)
          rw [quo2 _ hx, add1 (n := 128) (by omega) (by decide)]
          refine hI2 _ _ ⟨k + 1, rfl, by omega, ?_⟩ (by simp; omega)
          rw [Nat.div_div_eq_div_mul, ← Nat.pow_succ]
        · rw [show cmpI .lss (k : Int) ((i % 8 : Nat) : Int) = false by simp [cmpI]; omega]
          have hk8 : k = i % 8 := by omega
          subst hk8
          rw [quo8 i hi128]
          refine Wif.false ⟨by omega, by omega, ?_⟩
          refine hI _ hlt ⟨hV, fun j => ?_⟩
          simp only [vset, Int.toNat_natCast, vat_get b.B (i / 8) hj, hbi, ← hst]
          by_cases hjj : j.val = i / 8
          · have e : j = ⟨i / 8, hj⟩ := Fin.ext hjj
            subst e
            simp only [hc1, Fin.getElem_fin, Vector.getElem_setIfInBounds_self]
          · have := hB j
            rw [hoth j.val hjj]
            simp only [Fin.getElem_fin] at this ⊢
            rw [Vector.getElem_setIfInBounds_ne (h := fun e => hjj e.symm), this]
      · have hd0 : dg (a.B[i / 8]).toNat i = 0 := by have := dg_lt (a.B[i / 8]).toNat i; omega
        rw [show cmpI .eql ((dg (a.B[i / 8]).toNat i : Nat) : Int) 1 = false by rw [hd0]; rfl]
        rw [if_neg hd] at hst
        refine Wif.false ?_
        refine hI _ hlt ⟨hV, fun j => ?_⟩
        by_cases hjj : j.val = i / 8
        · have e : j = ⟨i / 8, hj⟩ := Fin.ext hjj
          subst e
          rw [hB]
          simp only [hc, hc1]
          exact hst.symm
        · rw [hB j, hoth j.val hjj]
    · obtain rfl : i = n := by omega
      rw [show (cmpI .lss (i : Int) (width a) && cmpI .lss (i : Int) (i : Int)) = false by simp [cmpI]]
      refine Wif.false ?_
      have : b = { a with B := maskV a.B i } := by
        obtain ⟨v, B⟩ := b
        simp only at hV hB
        subst hV
        congr 1
        apply Vector.ext
        intro j hj
        have := hB ⟨j, hj⟩
        simpa [maskV] using this
      rw [this]; exact h

theorem r11_Right.s {p : TPrefix} {K : Bool → Prop} (h : K (prefOk p)) : r11_Right.W p K := by
  unfold r11_Right.W
  refine r10_Right.s ?_
  unfold prefOk at h
  refine Wopt.of (width p.A) (fun H hH => r10_Width.s hH) ?_
  cases ho : addrOk p.A with
  | false => rw [ho] at h; exact Wif.true (by simpa using h)
  | true =>
    rw [ho] at h
    by_cases hb : p.Bits < 0
    · refine Wif.mk (fun _ => ?_) (fun e => ?_)
      · simpa [show ¬ 0 ≤ p.Bits by omega] using h
      · simp [cmpI, hb] at e
    · by_cases hw : p.Bits ≤ width p.A
      · refine Wif.mk (fun e => ?_) (fun _ => ?_)
        · simp [cmpI, hb] at e; omega
        · refine r10_Mask.s (by omega) hw ?_
          simp only [show 0 ≤ p.Bits by omega, hw, and_self, decide_true, Bool.true_and] at h
          rw [decide_eq_decide.2 (eq_comm (a := p.A) (b := mask p.A p.Bits))]
          exact h
      · refine Wif.mk (fun _ => ?_) (fun e => ?_)
        · simpa [hw] using h
        · simp [cmpI, hb] at e; omega
end Go.Cw
