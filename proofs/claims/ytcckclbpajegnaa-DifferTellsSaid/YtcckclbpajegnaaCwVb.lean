/- Plain laws for DifferTells: orders of prefixes, and which configurations may be. -/
import Derived.Test.YtcckclbpajegnaaCwVa
import Derived.Lib.Bytealg
set_option linter.all false
set_option linter.unusedVariables false
set_option linter.unusedSimpArgs false
namespace Go.Cw
open Go

def addrLt (a b : TAddr) : Bool := if a.V = b.V then decide (Lib.compareBytes a.B.toList b.B.toList < 0) else decide (a.V < b.V)
def prefLt (p q : TPrefix) : Bool := if p.A = q.A then decide (p.Bits < q.Bits) else addrLt p.A q.A

theorem cut_all {α : Type} {n : Nat} (v : Vector α n) : cut v.toList 0 n = v.toList := by
  show (v.toList.drop 0).take ((n : Int).toNat - 0) = _
  rw [List.drop_zero, Int.toNat_natCast, Nat.sub_zero, List.take_of_length_le (by simp)]

theorem addr_Less.s {a b : TAddr} {K : Bool → Prop} (h : K (addrLt a b)) : addr_Less.W a b K := by
  unfold addr_Less.W
  unfold addrLt at h
  by_cases e : a.V = b.V
  · rw [if_pos e] at h
    refine Wif.f (by simp [cmpI, e]) ?_
    unfold bytes_Compare.W
    rw [show ((16 : Int)) = ((16 : Nat) : Int) from rfl, cut_all, cut_all]
    unfold bcmp
    rw [Lib.cmp_eq]
    exact h
  · rw [if_neg e] at h
    exact Wif.t (by simp [cmpI, e]) h

theorem cmpB_drop {x y : Vector UInt8 16} {i : Nat} (hi : i < 16) : Lib.compareBytes (x.toList.drop i) (y.toList.drop i) = if x[i] = y[i] then Lib.compareBytes (x.toList.drop (i + 1)) (y.toList.drop (i + 1)) else if x[i] < y[i] then -1 else 1 := by
  rw [List.drop_eq_getElem_cons (l := x.toList) (i := i) (by simpa using hi), List.drop_eq_getElem_cons (l := y.toList) (i := i) (by simpa using hi)]
  simp only [Lib.compareBytes, Vector.getElem_toList]
  by_cases h1 : x[i] = y[i]
  · rw [if_pos h1, h1, if_neg (UInt8.lt_irrefl _), if_neg (UInt8.lt_irrefl _)]
  · rw [if_neg h1]
    by_cases h2 : x[i] < y[i]
    · simp [h2]
    · have : y[i] < x[i] := UInt8.lt_of_le_of_ne (UInt8.not_lt.1 h2) (Ne.symm h1)
      simp [h2, this]

theorem r10_Less.s {a b : TAddr} {K : Bool → Prop} (h : K (addrLt a b)) : r10_Less.W a b K := by
  unfold r10_Less.W
  unfold addrLt at h
  by_cases e : a.V = b.V
  · rw [if_pos e] at h
    refine Wif.f (by simp [cmpI, e]) ?_
    refine Lfp1.up (k := 0) 16 (fun i => K (decide (Lib.compareBytes (a.B.toList.drop i) (b.B.toList.drop i) < 0))) (Nat.zero_le _) (by simpa using h) ?_
    intro i I hi hv hI
    by_cases hlt : i < 16
    · refine Wif.t (lss_t hlt) ⟨inb hlt, inb hlt, ?_⟩
      rw [vat_get _ _ hlt, vat_get _ _ hlt]
      rw [cmpB_drop hlt] at hv
      by_cases heq : a.B[i] = b.B[i]
      · rw [if_pos heq] at hv
        refine Wif.f (by simp [cmpI, heq]) ?_
        rw [add1 hlt (by decide)]
        exact hI hlt hv
      · rw [if_neg heq] at hv
        have hne : a.B[i].toNat ≠ b.B[i].toNat := fun e => heq (UInt8.toNat_inj.1 e)
        refine Wif.t (by simp [cmpI]; omega) ⟨inb hlt, inb hlt, ?_⟩
        have : decide ((if a.B[i] < b.B[i] then (-1 : Int) else 1) < 0) = cmpI .lss ((a.B[i].toNat : Nat) : Int) ((b.B[i].toNat : Nat) : Int) := by
          simp only [cmpI, UInt8.lt_iff_toNat_lt]
          by_cases hl : a.B[i].toNat < b.B[i].toNat
          · simp [hl]
          · simp [hl]
        rwa [this] at hv
    · obtain rfl : i = 16 := by omega
      refine Wif.f rfl ?_
      rw [List.drop_of_length_le (by simp), List.drop_of_length_le (by simp)] at hv
      exact hv
  · rw [if_neg e] at h
    exact Wif.t (by simp [cmpI, e]) h

theorem cidr_Less.s {p q : TPrefix} {K : Bool → Prop} (h : K (prefLt p q)) : cidr_Less.W p q K := by
  unfold cidr_Less.W
  unfold prefLt at h
  by_cases e : p.A = q.A
  · rw [if_pos e] at h
    exact Wif.t (by simp [e]) h
  · rw [if_neg e] at h
    exact Wif.f (by simp [e]) (addr_Less.s h)

theorem r11_Less.s {p q : TPrefix} {K : Bool → Prop} (h : K (prefLt p q)) : r11_Less.W p q K := by
  unfold r11_Less.W
  unfold prefLt at h
  by_cases e : p.A = q.A
  · rw [if_pos e] at h
    exact Wif.f (by simp [e]) h
  · rw [if_neg e] at h
    exact Wif.t (by simp [e]) (r10_Less.s h)

/-! ### Large, short -/
def large (c : TConf) : Bool := decide (20 < c.Peers.length) || c.Peers.any fun p => decide (80 < p.Allowed.length)
theorem large_false {c : TConf} (h : large c = false) : c.Peers.length ≤ 20 ∧ ∀ p ∈ c.Peers, p.Allowed.length ≤ 80 := by
  unfold large at h
  rw [Bool.or_eq_false_iff, decide_eq_false_iff_not, List.any_eq_false] at h
  exact ⟨by omega, fun p hp => by have := h.2 p hp; simpa using this⟩

theorem r34_Large.s {c : TConf} {K : Bool → Prop} (h : K (large c)) : r34_Large.W c K := by
  unfold r34_Large.W
  unfold large at h
  by_cases hl : 20 < c.Peers.length
  · refine Wif.t (by simp [cmpI]; omega) ?_
    simpa [hl] using h
  · refine Wif.f (by simp [cmpI]; omega) ?_
    simp only [hl, decide_false, Bool.false_or] at h
    refine Lfp1.over c.Peers (by omega) (fun _ l => K (l.any fun p => decide (80 < p.Allowed.length))) h ?_ ?_
    · intro I hv
      exact Wif.f (lss_f (Nat.le_refl _)) hv
    · intro i x l I hi hd hx hv hI
      refine Wif.t (lss_t hi) ⟨inb hi, ?_⟩
      rw [hx]
      rw [List.any_cons] at hv
      by_cases h8 : 80 < x.Allowed.length
      · refine Wif.t (by simp [cmpI]; omega) ?_
        simpa [h8] using hv
      · refine Wif.f (by simp [cmpI]; omega) (hI ?_)
        simpa [h8] using hv

def shortI (n : Int) : Bool := cmpI .geq n 0 && cmpI .leq n 65535
theorem view_short.s {n : Int} {K : Bool → Prop} (h : K (shortI n)) : view_short.W n K := h
theorem r34_from.s {n : Int} {K : Bool → Prop} (h : K (shortI n)) : r34_from.W n K := h
abbrev zeroK : Vector UInt8 32 := Vector.replicate 32 (0 : UInt8)
abbrev zeroE : TEndpoint := { A := TAddr_zero, Port := (0 : Int) }
def noneE (e : TEndpoint) : Bool := decide (e = zeroE)
theorem hostport_None.s {e : TEndpoint} {K : Bool → Prop} (h : K (noneE e)) : hostport_None.W e K := h

/-! ### Which configurations may be -/
def okAfter (o : Option TPrefix) (q : TPrefix) : Bool := match o with | none => true | some p => prefLt p q
/-- Each may be, and is ahead of the next one. -/
def rise : Option TPrefix → List TPrefix → Bool
  | _, [] => true
  | o, q :: l => (prefOk q && okAfter o q) && rise (some q) l
def prevOf (xs : List TPrefix) (i : Nat) : Option TPrefix := if i = 0 then none else xs[i - 1]?
theorem prevOf_succ {xs l : List TPrefix} {x : TPrefix} {i : Nat} (h : xs.drop i = x :: l) : prevOf xs (i + 1) = some x := by
  obtain ⟨hi, _⟩ := drop_lt h
  have := lat_drop h
  rw [lat_get hi] at this
  simp [prevOf, hi, this]

theorem prev_ok {xs l : List TPrefix} {x : TPrefix} {i : Nat} (h : xs.drop i = x :: l) (hn : xs.length ≤ 2 ^ 40) (y v : Bool) (hv : 0 < i → v = prefLt (lat xs (arI .sub .i64 (i : Int) 1)) x) : (!((!y) || (cmpI .gtr (i : Int) 0 && !v))) = (y && okAfter (prevOf xs i) x) := by
  rcases Nat.eq_zero_or_pos i with rfl | hi
  · simp [prevOf, okAfter, cmpI]
  · rw [hv hi]
    obtain ⟨hlt, _⟩ := drop_lt h
    have hp : prevOf xs i = some xs[i - 1] := by simp [prevOf, show i ≠ 0 by omega, show i - 1 < xs.length by omega]
    rw [hp, sub1 i hi (by omega), lat_get (by omega)]
    have hc : cmpI .gtr (i : Int) 0 = true := by simp [cmpI]; omega
    simp only [okAfter]
    cases y <;> simp [hc]

theorem prev_in {xs : List TPrefix} {i : Nat} (hlt : i < xs.length) (hn : xs.length ≤ 2 ^ 40) {g : Bool} : (g && cmpI .gtr (i : Int) 0) = true → (0 : Int) ≤ arI .sub .i64 (i : Int) 1 ∧ arI .sub .i64 (i : Int) 1 < (xs.length : Int) := by
  intro h
  have hi : 0 < i := by
    have := (Bool.and_eq_true _ _ ▸ h).2
    simp [cmpI] at this
    omega
  rw [sub1 i hi (by omega)]
  omega

theorem view_rising.s {xs : List TPrefix} {K : Bool → Prop} (hn : xs.length ≤ 2 ^ 40) (h : K (rise none xs)) : view_rising.W xs K := by
  unfold view_rising.W
  refine Lfp1.over xs hn (fun i l => K (rise (prevOf xs i) l)) h ?_ ?_
  · intro I hv
    exact Wif.f (lss_f (Nat.le_refl _)) hv
  · intro i x l I hi hd hx hv hI
    refine Wif.t (lss_t hi) ⟨inb hi, ?_⟩
    rw [hx]
    refine cidr_Right.s ⟨prev_in hi hn, ?_⟩
    refine Wopt.of (prefLt (lat xs (arI .sub .i64 (i : Int) 1)) x) (fun H hH => cidr_Less.s hH) ?_
    have key := prev_ok hd hn (prefOk x) (bif !(!prefOk x) && cmpI .gtr (i : Int) 0 then prefLt (lat xs (arI .sub .i64 (i : Int) 1)) x else default)
    simp only [rise] at hv
    rw [prevOf_succ hd] at hI
    cases hp : prefOk x with
    | false =>
      rw [hp] at hv
      exact Wif.t (by simp) hv
    | true =>
      rw [hp] at key hv
      have hk := key (fun h0 => by simp [show cmpI .gtr (i : Int) 0 = true by simp [cmpI]; omega])
      simp only [Bool.true_and] at hv hk
      refine Wif.mk (fun e => ?_) (fun e => ?_)
      · rw [e] at hk
        rw [← hk] at hv
        exact hv
      · rw [e] at hk
        rw [← hk] at hv
        exact hI hv

/-- Prefixes of a peer behind all others: none, where one may not be. -/
def addAll : List TPrefix → List TPrefix → Option (List TPrefix)
  | all, [] => some all
  | all, q :: l => if q ∈ all then none else addAll (all ++ [q]) l
/-- A peer, but its key and its prefixes. -/
def peerOk (p : TPeer) : Bool := shortI p.Keep && (noneE p.End || epOk p.End)
/-- These peers, behind some keys and prefixes. -/
def peersOk : List (Vector UInt8 32) → List TPrefix → List TPeer → Bool
  | _, all, [] => decide (all.length ≤ 64)
  | ks, all, p :: l => if p.Key ∉ ks ∧ peerOk p = true ∧ rise none p.Allowed = true then match addAll all p.Allowed with
      | none => false
      | some all' => peersOk (ks ++ [p.Key]) all' l
    else false
def confOk (c : TConf) : Bool := shortI c.Port && decide (c.Peers.length ≤ 16) && peersOk [zeroK] [] c.Peers

theorem view_Right.s {c : TConf} {K : Bool → Prop} (hn : ∀ p ∈ c.Peers, p.Allowed.length ≤ 2 ^ 30) (h : K (confOk c)) : view_Right.W c K := by
  unfold view_Right.W
  refine view_short.s ?_
  unfold confOk at h
  by_cases h1 : (!shortI c.Port || cmpI .gtr (c.Peers.length : Int) 16) = true
  · refine Wif.t h1 ?_
    have : (shortI c.Port && decide (c.Peers.length ≤ 16)) = false := by
      simp only [cmpI, Bool.or_eq_true, Bool.not_eq_true', decide_eq_true_eq] at h1
      simp only [Bool.and_eq_false_iff, decide_eq_false_iff_not]
      exact h1.imp id fun h => by omega
    rwa [this] at h
  · have h1' := Bool.eq_false_iff.2 h1
    refine Wif.f h1' ?_
    have hg : (shortI c.Port && decide (c.Peers.length ≤ 16)) = true := by
      simp only [cmpI, Bool.or_eq_false_iff, Bool.not_eq_false', decide_eq_false_iff_not] at h1'
      simp only [Bool.and_eq_true, decide_eq_true_eq]
      exact ⟨h1'.1, by omega⟩
    rw [hg, Bool.true_and] at h
    have h16 : c.Peers.length ≤ 16 := of_decide_eq_true (Bool.and_eq_true _ _ ▸ hg).2
    rw [show mput ([] : List ((Vector UInt8 32) × Bool)) (Vector.replicate 32 (0 : UInt8)) true = trues [zeroK] from rfl]
    refine Lfp3.over c.Peers (by omega) (fun i l x y => ∃ ks all, x = trues ks ∧ y = trues all ∧ K (peersOk ks all l)) ⟨_, [], rfl, rfl, h⟩ ?_ ?_
    · rintro x y I ⟨ks, all, rfl, rfl, hv⟩
      refine Wif.f (lss_f (Nat.le_refl _)) ?_
      rw [trues_length]
      have : cmpI .leq (all.length : Int) 64 = decide (all.length ≤ 64) := by simp only [cmpI]; exact decide_eq_decide.2 (by omega)
      rw [this]
      exact hv
    · rintro i p l x y I hi hd hx ⟨ks, all, rfl, rfl, hv⟩ hI
      refine Wif.t (lss_t hi) ⟨inb hi, ?_⟩
      rw [hx, trues_val]
      have hpn : p.Allowed.length ≤ 2 ^ 30 := hn p (by rw [← List.take_append_drop i c.Peers, hd]; simp)
      refine Wopt.of (shortI p.Keep) (fun H hH => view_short.s hH) ?_
      refine Wopt.of (rise none p.Allowed) (fun H hH => view_rising.s (by omega) hH) ?_
      unfold peersOk at hv
      by_cases hk : p.Key ∈ ks
      · refine Wif.t (by simp [hk]) ?_
        simpa [hk] using hv
      by_cases hs : shortI p.Keep = true
      · by_cases hr : rise none p.Allowed = true
        · refine Wif.f (by simp [hk, hs, hr]) ?_
          refine hostport_None.s ?_
          refine Wopt.of (epOk p.End) (fun H hH => hostport_Right.s hH) ?_
          by_cases he : (noneE p.End || epOk p.End) = true
          · refine Wif.f (by cases h7 : noneE p.End <;> simp [h7] at he ⊢; exact he) ?_
            rw [if_pos ⟨hk, by simp [peerOk, hs, he], hr⟩] at hv
            refine Lfp2.over p.Allowed (by omega) (fun j m z => ∃ a, z = trues a ∧ K (match addAll a m with | none => false | some all' => peersOk (ks ++ [p.Key]) all' l)) ⟨all, rfl, hv⟩ ?_ ?_
            · rintro z I2 ⟨a, rfl, hv2⟩
              refine Wif.f (lss_f (Nat.le_refl _)) ?_
              refine hI _ _ ⟨ks ++ [p.Key], a, trues_put hk, rfl, hv2⟩
            · rintro j q m z I2 hj hd2 hx2 ⟨a, rfl, hv2⟩ hI2
              refine Wif.t (lss_t hj) ⟨inb hj, ?_⟩
              rw [hx2, trues_val]
              unfold addAll at hv2
              by_cases hq : q ∈ a
              · refine Wif.t (by simp [hq]) ?_
                simpa [hq] using hv2
              · refine Wif.f (by simp [hq]) (hI2 _ ⟨a ++ [q], trues_put hq, ?_⟩)
                rwa [if_neg hq] at hv2
          · have he' := Bool.eq_false_iff.2 he
            simp only [Bool.or_eq_false_iff] at he'
            refine Wif.t (by simp [he'.1, he'.2]) ?_
            rwa [if_neg (by simp [peerOk, he'.1, he'.2])] at hv
        · refine Wif.t (by simp [hk, hs, hr]) ?_
          simpa [hr] using hv
      · have hs' := Bool.eq_false_iff.2 hs
        refine Wif.t (by simp [hs']) ?_
        simpa [peerOk, hs'] using hv
end Go.Cw
