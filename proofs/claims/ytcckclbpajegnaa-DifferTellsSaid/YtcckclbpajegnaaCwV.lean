/- Plain laws for DifferTells: addresses and prefixes. -/
import Derived.Test.YtcckclbpajegnaaCwW
import Derived.Test.YtcckclbpajegnaaCwUa
set_option linter.all false
set_option linter.unusedVariables false
set_option linter.unusedSimpArgs false
namespace Go.Cw
open Go

/-- An address that may be. -/
def addrOk (a : TAddr) : Bool := decide (a.V = 6) || (decide (a.V = 4) && decide (∀ i : Fin 16, 4 ≤ i.val → a.B[i] = 0))

theorem vat_get {α : Type} {n : Nat} [Inhabited α] (v : Vector α n) (i : Nat) (h : i < n) : vat v (i : Int) = v[i] := by
  simp [vat, Array.getD, h]

theorem four_eq (a : TAddr) (h : a.V = 4) : (a = ({ V := 4, B := vcopy (Vector.replicate 16 (0 : UInt8)) 0 (16 - 0) (cut (vtake 4 (cut a.B.toList 0 4)).toList 0 4) } : TAddr)) ↔ ∀ i : Fin 16, 4 ≤ i.val → a.B[i] = 0 := by
  obtain ⟨v, B⟩ := a
  simp only at h; subst h
  simp only [TAddr.mk.injEq, true_and]
  have key : ∀ i (hi : i < 16), (vcopy (Vector.replicate 16 (0 : UInt8)) 0 (16 - 0) (cut (vtake 4 (cut B.toList 0 4)).toList 0 4))[i] = if i < 4 then B[i] else 0 := by
    intro i hi
    simp only [vcopy, Vector.getElem_ofFn]
    have hl : (cut (vtake 4 (cut B.toList 0 4)).toList 0 4).length = 4 := by simp [cut]
    simp only [hl]
    by_cases h4 : i < 4
    · simp [h4, cut, vtake, List.getD, Array.getD, hi]
    · simp [h4, Array.getD, hi]
  constructor
  · intro he i hi
    have := congrArg (fun v => v[i.val]) he
    simp only [key i.val i.isLt] at this
    rw [if_neg (by omega)] at this
    exact this
  · intro hz
    apply Vector.ext
    intro i hi
    rw [key i hi]
    by_cases h4 : i < 4
    · rw [if_pos h4]
    · rw [if_neg h4]; exact hz ⟨i, hi⟩ (by show 4 ≤ i; omega)

theorem addr_Right.s {a : TAddr} {K : Bool → Prop} (h : K (addrOk a)) : addr_Right.W a K := by
  unfold addr_Right.W
  refine ⟨fun _ => by simp [cut], ?_⟩
  refine Wopt.of _ (fun H hH => (hH : addr_Four.W _ H)) ?_
  have : ((cmpI .eql a.V 6) || ((cmpI .eql a.V 4) && (decide (a = (bif ((!(cmpI .eql a.V 6)) && (cmpI .eql a.V 4)) then ({ V := 4, B := vcopy (Vector.replicate 16 (0 : UInt8)) 0 (16 - 0) (cut (vtake 4 (cut a.B.toList 0 4)).toList 0 4) } : TAddr) else default))))) = addrOk a := by
    unfold addrOk
    by_cases h6 : a.V = 6
    · simp [cmpI, h6]
    · by_cases h4 : a.V = 4
      · have := four_eq a h4
        simp only [cmpI, h4, beq_self_eq_true, Bool.and_true, Bool.true_and]
        simp only [show ((4 : Int) == 6) = false from rfl, Bool.not_false, cond_true, Bool.false_or, show decide ((4 : Int) = 6) = false from rfl, decide_true, Bool.true_and]
        exact decide_eq_decide.2 this
      · simp [cmpI, h6, h4]
  rw [this]
  exact h
end Go.Cw
namespace Go.Cw
open Go
def width (a : TAddr) : Int := if addrOk a then (if a.V = 4 then 32 else 128) else 0

theorem addr_Width.s {a : TAddr} {K : Int → Prop} (h : K (width a)) : addr_Width.W a K := by
  unfold addr_Width.W
  refine addr_Right.s ?_
  unfold width at h
  cases ho : addrOk a with
  | false => rw [ho] at h; exact Wif.true (by simpa using h)
  | true =>
    rw [ho] at h
    refine Wif.false ?_
    by_cases h4 : a.V = 4
    · rw [show cmpI .eql a.V 4 = true by simp [cmpI, h4]]
      exact Wif.true (by simpa [h4] using h)
    · rw [show cmpI .eql a.V 4 = false by simp [cmpI, h4]]
      exact Wif.false (by simpa [h4] using h)

theorem r10_Right.s {a : TAddr} {K : Bool → Prop} (h : K (addrOk a)) : r10_Right.W a K := by
  unfold r10_Right.W
  by_cases h6 : a.V = 6
  · rw [show cmpI .eql a.V 6 = true by simp [cmpI, h6]]
    exact Wif.true (by simpa [addrOk, h6] using h)
  · rw [show cmpI .eql a.V 6 = false by simp [cmpI, h6]]
    refine Wif.false ?_
    refine Lfp1.up (k := 4) 16 (fun i => 4 ≤ i ∧ ∀ j : Fin 16, 4 ≤ j.val → j.val < i → a.B[j] = 0) (by decide) ⟨Nat.le_refl _, fun j h1 h2 => by omega⟩ ?_
    rintro i I hi ⟨h4i, hv⟩ hI
    by_cases hlt : i < 16
    · rw [show cmpI .lss (i : Int) 16 = true by simp [cmpI]; omega]
      refine Wif.true ⟨by omega, ?_⟩
      rw [vat_get a.B i hlt]
      by_cases hz : a.B[i] = 0
      · rw [hz, show cmpI .neq (((0 : UInt8).toNat : Nat) : Int) 0 = false from rfl]
        refine Wif.false ?_
        rw [add1 (n := 16) hlt (by decide)]
        refine hI hlt ⟨by omega, fun j h1 h2 => ?_⟩
        by_cases hj : j.val = i
        · have : a.B[j] = a.B[i] := by simp [← hj]
          rw [this]; exact hz
        · exact hv j h1 (by omega)
      · have hne : a.B[i].toNat ≠ 0 := fun e => hz (UInt8.toNat_inj.1 (by simpa using e))
        rw [show cmpI .neq ((a.B[i].toNat : Nat) : Int) 0 = true by simp [cmpI]; omega]
        refine Wif.true ?_
        have : addrOk a = false := by
          simp only [addrOk, h6, decide_false, Bool.false_or, Bool.and_eq_false_iff, decide_eq_false_iff_not]
          exact .inr fun hall => hz (hall ⟨i, hlt⟩ h4i)
        rwa [this] at h
    · obtain rfl : i = 16 := by omega
      rw [show cmpI .lss ((16 : Nat) : Int) 16 = false from rfl]
      refine Wif.false ?_
      have hall : ∀ j : Fin 16, 4 ≤ j.val → a.B[j] = 0 := fun j h1 => hv j h1 j.isLt
      have : addrOk a = cmpI .eql a.V 4 := by
        simp only [addrOk, h6, decide_false, Bool.false_or, cmpI]
        rw [decide_eq_true hall, Bool.and_true]
        rfl
      rwa [this] at h
end Go.Cw
namespace Go.Cw
open Go
theorem r10_Width.s {a : TAddr} {K : Int → Prop} (h : K (width a)) : r10_Width.W a K := by
  unfold r10_Width.W
  refine r10_Right.s ?_
  unfold width at h
  cases ho : addrOk a with
  | false => rw [ho] at h; exact Wif.true (by simpa using h)
  | true =>
    rw [ho] at h
    refine Wif.false ?_
    by_cases h4 : a.V = 4
    · rw [show cmpI .eql a.V 4 = true by simp [cmpI, h4]]
      exact Wif.true (by simpa [h4] using h)
    · rw [show cmpI .eql a.V 4 = false by simp [cmpI, h4]]
      exact Wif.false (by simpa [h4] using h)

def epOk (e : TEndpoint) : Bool := (addrOk e.A && (cmpI .geq e.Port 1)) && (cmpI .leq e.Port 65535)
theorem hostport_Right.s {e : TEndpoint} {K : Bool → Prop} (h : K (epOk e)) : hostport_Right.W e K := by
  unfold hostport_Right.W
  exact addr_Right.s h
theorem r12_Right.s {e : TEndpoint} {K : Bool → Prop} (h : K (epOk e)) : r12_Right.W e K := by
  unfold r12_Right.W
  exact r10_Right.s h
end Go.Cw
namespace Go.Cw
open Go
/-- The first k bits of a byte. -/
def mb (b : UInt8) (k : Int) : UInt8 := UI.of (arI .and .u8 (b.toNat : Int) (((UI.of (shI .shl .u8 255 (((UI.of (IntKind.u64.wrap (arI .sub .i64 8 k)) : UInt64)).toNat : Int)) : UInt8)).toNat : Int))
def clampK (bits : Int) (i : Nat) : Int := if bits < 0 then 0 else if bits ≤ 8 * i then 0 else if 8 * i + 8 ≤ bits then 8 else bits - 8 * i
def maskV (B : Vector UInt8 16) (bits : Int) : Vector UInt8 16 := Vector.ofFn fun i => mb B[i] (clampK bits i.val)
def mask (a : TAddr) (bits : Int) : TAddr := if addrOk a then { a with B := maskV a.B bits } else TAddr_zero
end Go.Cw
namespace Go.Cw
open Go
theorem clamp_eq {bits : Int} {i : Nat} (h0 : 0 ≤ bits) (h1 : bits ≤ 128) (hi : i < 16) : (if 8 < (if 0 > (arI .sub .i64 bits (arI .mul .i64 8 i)) then 0 else arI .sub .i64 bits (arI .mul .i64 8 i)) then 8 else (if 0 > (arI .sub .i64 bits (arI .mul .i64 8 i)) then 0 else arI .sub .i64 bits (arI .mul .i64 8 i))) = clampK bits i := by
  have e : arI .sub .i64 bits (arI .mul .i64 8 i) = bits - 8 * i := by
    simp [arI, IntKind.wrap, IntKind.signed, IntKind.bits]
    omega
  rw [e]
  unfold clampK
  repeat' split
  all_goals omega
end Go.Cw
namespace Go.Cw
open Go
theorem addr_Mask.s {a : TAddr} {bits : Int} {K : TAddr → Prop} (h0 : 0 ≤ bits) (h1 : bits ≤ 128) (h : K (mask a bits)) : addr_Mask.W a bits K := by
  unfold addr_Mask.W
  refine addr_Right.s ?_
  unfold mask at h
  cases ho : addrOk a with
  | false => rw [ho] at h; exact Wif.true h
  | true =>
    rw [ho] at h
    refine Wif.false ?_
    refine Lfp2.up (k := 0) 16 (fun i b => b.V = a.V ∧ ∀ j : Fin 16, b.B[j] = if j.val < i then mb a.B[j] (clampK bits j.val) else a.B[j]) (by decide) ⟨rfl, fun j => by simp⟩ ?_
    rintro i b I hi ⟨hV, hB⟩ hI
    by_cases hlt : i < 16
    · rw [show cmpI .lss (i : Int) 16 = true by simp [cmpI]; omega]
      refine Wif.true ?_
      rw [show cmpI .lss bits 0 = false by simp [cmpI]; omega, clamp_eq h0 h1 hlt]
      refine Wif.false ⟨by omega, by omega, ?_⟩
      rw [add1 (n := 16) hlt (by decide)]
      refine hI _ hlt ⟨hV, fun j => ?_⟩
      have hbi : b.B[i] = a.B[i] := by have := hB ⟨i, hlt⟩; simpa using this
      simp only [vset, Int.toNat_natCast, vat_get b.B i hlt, hbi]
      by_cases hj : j.val = i
      · have e : j = ⟨i, hlt⟩ := Fin.ext hj
        subst e
        simp [mb]
      · have := hB j
        simp only [Fin.getElem_fin] at this ⊢
        rw [Vector.getElem_setIfInBounds_ne (h := fun e => hj e.symm), this]
        by_cases hl : j.val < i
        · rw [if_pos hl, if_pos (by omega)]
        · rw [if_neg hl, if_neg (by omega)]
    · obtain rfl : i = 16 := by omega
      rw [show cmpI .lss ((16 : Nat) : Int) 16 = false from rfl]
      refine Wif.false ?_
      have : b = { a with B := maskV a.B bits } := by
        obtain ⟨v, B⟩ := b
        simp only at hV hB
        subst hV
        congr 1
        apply Vector.ext
        intro j hj
        have := hB ⟨j, hj⟩
        simpa [maskV, hj] using this
      rw [this]; exact h
end Go.Cw
namespace Go.Cw
open Go
theorem cidr_Of.s {a : TAddr} {bits : Int} {K : TPrefix × Int → Prop} (h : K (if addrOk a then if 0 ≤ bits ∧ bits ≤ width a then (⟨mask a bits, bits⟩, 0) else (⟨TAddr_zero, 0⟩, 6) else (⟨TAddr_zero, 0⟩, 1))) : cidr_Of.W a bits K := by
  unfold cidr_Of.W
  refine addr_Right.s ?_
  cases ho : addrOk a with
  | false => rw [ho] at h; exact Wif.true (by simpa using h)
  | true =>
    rw [ho] at h
    refine Wif.false ?_
    refine Wopt.of (width a) (fun H hH => addr_Width.s hH) ?_
    have hw : width a ≤ 128 := by unfold width; rw [ho]; split <;> (try split) <;> simp
    by_cases hb : bits < 0
    · rw [show cmpI .lss bits 0 = true by simp [cmpI, hb]]
      refine Wif.true ?_
      simpa [show ¬ 0 ≤ bits by omega] using h
    · rw [show cmpI .lss bits 0 = false by simp [cmpI]; omega]
      by_cases hg : bits ≤ width a
      · rw [show cmpI .gtr bits (bif !false then width a else default) = false by simp [cmpI]; omega]
        refine Wif.false (addr_Mask.s (by omega) (by omega) ?_)
        simpa [hg, show 0 ≤ bits by omega] using h
      · rw [show cmpI .gtr bits (bif !false then width a else default) = true by simp [cmpI]; omega]
        refine Wif.true ?_
        simpa [hg] using h
end Go.Cw
namespace Go.Cw
open Go
def prefOk (p : TPrefix) : Bool := addrOk p.A && decide (0 ≤ p.Bits ∧ p.Bits ≤ width p.A) && decide (mask p.A p.Bits = p.A)
end Go.Cw
namespace Go.Cw
open Go
theorem cidr_Right.s {p : TPrefix} {K : Bool → Prop} (h : K (prefOk p)) : cidr_Right.W p K := by
  unfold cidr_Right.W
  refine cidr_Of.s ?_
  have e : ∀ (x : TPrefix × Int) (v : Bool), ((cmpI .eql x.2 0) && (decide (x.1 = p))) = v → K v → K ((cmpI .eql x.2 0) && (decide (x.1 = p))) := fun x v h1 h2 => h1 ▸ h2
  refine e _ _ ?_ h
  obtain ⟨A, Bits⟩ := p
  unfold prefOk
  cases ho : addrOk A with
  | false => simp [cmpI]
  | true =>
    by_cases hb : 0 ≤ Bits ∧ Bits ≤ width A
    · simp [hb, cmpI]
    · simp [hb, cmpI]
end Go.Cw
namespace Go.Cw
open Go
/-- A bit of a byte, by halving. -/
def dg (b : Nat) (i : Nat) : Nat := b / 2 ^ (7 - i % 8) % 2
theorem mb_sum : ∀ b : Fin 256, ∀ k : Fin 9, (mb (UInt8.ofNat b.val) (k.val : Int)).toNat = ((List.range k.val).map fun j => dg b.val j * (128 / 2 ^ j)).sum := by decide +kernel

theorem quo8 (i : Nat) (h : i < 128) : arI .quo .i64 (i : Int) 8 = ((i / 8 : Nat) : Int) := by
  simp only [arI, IntKind.wrap, IntKind.signed, IntKind.bits]
  rw [Int.tdiv_eq_ediv_of_nonneg (by omega)]
  simp
  omega
theorem rem8 (i : Nat) : arI .rem .i64 (i : Int) 8 = ((i % 8 : Nat) : Int) := by
  simp only [arI]
  rw [Int.tmod_eq_emod_of_nonneg (by omega)]
  omega
theorem quo2 (x : Nat) (h : x < 256) : arI .quo .i64 (x : Int) 2 = ((x / 2 : Nat) : Int) := by
  simp only [arI, IntKind.wrap, IntKind.signed, IntKind.bits]
  rw [Int.tdiv_eq_ediv_of_nonneg (by omega)]
  simp
  omega
theorem rem2 (x : Nat) : arI .rem .i64 (x : Int) 2 = ((x % 2 : Nat) : Int) := by
  simp only [arI]
  rw [Int.tmod_eq_emod_of_nonneg (by omega)]
  omega
theorem sub1 (i : Nat) (h : 0 < i) (hi : i ≤ 2 ^ 40) : arI .sub .i64 (i : Int) 1 = ((i - 1 : Nat) : Int) := by
  simp only [arI, IntKind.wrap, IntKind.signed, IntKind.bits]
  simp
  omega

theorem r10_digit.s {a : TAddr} {i : Nat} {K : Int → Prop} (hi : i < 128) (h : K ((dg (a.B[i / 8]'(by omega)).toNat i : Nat) : Int)) : r10_digit.W a (i : Int) K := by
  unfold r10_digit.W
  rw [quo8 i hi, rem8]
  refine ⟨by omega, ?_⟩
  have hlt : i / 8 < 16 := by omega
  rw [vat_get a.B (i / 8) hlt]
  generalize hb : (a.B[i / 8]).toNat = b at h
  have hb256 : b < 256 := by rw [← hb]; exact UInt8.toNat_lt _
  refine Lfp2.intro (fun (x y : Int) => ∃ n : Nat, y = n ∧ i % 8 ≤ n ∧ n ≤ 7 ∧ x = ((b / 2 ^ (7 - n) : Nat) : Int)) (fun (x y : Int) => y.toNat) ⟨7, rfl, by omega, by omega, by simp⟩ ?_
  rintro x y I ⟨n, rfl, h1, h2, rfl⟩ hI
  have hx : b / 2 ^ (7 - n) < 256 := Nat.lt_of_le_of_lt (Nat.div_le_self _ _) hb256
  by_cases hgt : i % 8 < n
  · rw [show cmpI .gtr (n : Int) ((i % 8 : Nat) : Int) = true by simp [cmpI]; omega]
    refine Wif.true ?_
    rw [quo2 _ hx, sub1 n (by omega) (by omega)]
    refine hI _ _ ⟨n - 1, rfl, by omega, by omega, ?_⟩ (by simp; omega)
    rw [Nat.div_div_eq_div_mul, ← Nat.pow_succ]
    congr 3
    omega
  · rw [show cmpI .gtr (n : Int) ((i % 8 : Nat) : Int) = false by simp [cmpI]; omega]
    refine Wif.false ?_
    rw [rem2]
    have : n = i % 8 := by omega
    rw [this]
    exact h
end Go.Cw
