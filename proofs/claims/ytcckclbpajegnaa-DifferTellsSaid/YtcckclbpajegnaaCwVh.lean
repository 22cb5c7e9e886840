/- Plain laws for DifferTells: equal requests, the example, the law. -/
import Derived.Test.YtcckclbpajegnaaCwVg
set_option linter.all false
set_option linter.unusedVariables false
set_option linter.unusedSimpArgs false
namespace Go.Cw
open Go

theorem r32_SamePeer.s {a b : TPeerChange} {K : Bool → Prop} (hn : a.Allowed.length ≤ 2 ^ 40) (h : K (decide (a = b))) : r32_SamePeer.W a b K := by
  unfold r32_SamePeer.W
  refine Wopt.of (decide (a.Allowed = b.Allowed)) (fun H hH => r11_Same.s hn hH) ?_
  refine Eq.mp (congrArg K ?_) h
  obtain ⟨a1, a2, a3, a4, a5, a6, a7, a8, a9, a10, a11⟩ := a
  obtain ⟨b1, b2, b3, b4, b5, b6, b7, b8, b9, b10, b11⟩ := b
  rw [Bool.eq_iff_iff]
  simp only [TPeerChange.mk.injEq, decide_eq_true_eq, Bool.and_eq_true, beq_iff_eq, cmpI]
  constructor
  · rintro ⟨rfl, rfl, rfl, rfl, rfl, rfl, rfl, rfl, rfl, rfl, rfl⟩
    simp
  · rintro ⟨⟨⟨⟨⟨⟨⟨⟨⟨⟨rfl, rfl⟩, rfl⟩, rfl⟩, rfl⟩, rfl⟩, rfl⟩, rfl⟩, rfl⟩, rfl⟩, h11⟩
    simp at h11
    simp [h11]

theorem r32_Same.s {a b : TRequest} {K : Bool → Prop} (hn : a.Peers.length ≤ 2 ^ 40) (hp : ∀ p ∈ a.Peers, p.Allowed.length ≤ 2 ^ 40) (h : K (decide (a = b))) : r32_Same.W a b K := by
  unfold r32_Same.W
  obtain ⟨a1, a2, a3, a4, a5, a6, a7, ps⟩ := a
  obtain ⟨b1, b2, b3, b4, b5, b6, b7, qs⟩ := b
  simp only at hn hp ⊢
  refine Wif.mk (fun e => ?_) (fun e => ?_)
  · rw [decide_eq_false] at h
    · exact h
    · intro e2
      cases e2
      simp [cmpI] at e
  · simp only [Bool.or_eq_false_iff, Bool.not_eq_false', beq_iff_eq, decide_eq_true_eq, cmpI, bne_eq_false_iff_eq] at e
    obtain ⟨⟨⟨⟨⟨⟨⟨rfl, rfl⟩, rfl⟩, rfl⟩, rfl⟩, h6⟩, rfl⟩, hlen⟩ := e
    obtain rfl : a6 = b6 := UInt32.toNat_inj.1 (by omega)
    have hlen : ps.length = qs.length := by omega
    refine Lfp1.over ps hn (fun i l => K (decide (l = qs.drop i))) ?_ ?_ ?_
    · simpa using h
    · intro I hv
      refine Wif.f (lss_f (Nat.le_refl _)) ?_
      rw [hlen, List.drop_length] at hv
      exact hv
    · intro i x l I hi hd hx hv hI
      have hi2 : i < qs.length := by omega
      refine Wif.t (lss_t hi) ⟨inb hi, inb hi2, ?_⟩
      rw [hx, lat_get hi2]
      refine r32_SamePeer.s (hp x (mem_drop hd)) ?_
      rw [List.drop_eq_getElem_cons hi2] at hv
      by_cases he : x = qs[i]
      · refine Wif.f (by rw [decide_eq_true he]; rfl) (hI ?_)
        have : decide (x :: l = qs[i] :: qs.drop (i + 1)) = decide (l = qs.drop (i + 1)) := decide_eq_decide.2 ⟨fun e => (List.cons.inj e).2, fun e => by rw [he, e]⟩
        rwa [this] at hv
      · refine Wif.t (by rw [decide_eq_false he]; rfl) ?_
        have : decide (x :: l = qs[i] :: qs.drop (i + 1)) = false := decide_eq_false fun e => he (List.cons.inj e).1
        rwa [this] at hv

def emptyS (r : TRequest) : Bool := ((((!r.HasPrivate) && (!r.HasPort)) && (!r.HasMark)) && (!r.Replace)) && (cmpI .eql (r.Peers.length : Int) 0)

/-! ### The patch of a configuration and itself -/
theorem shared_self (as : List TPeer) : sharedS as as = as := filter_none fun p hp => by unfold hasKey; exact decide_eq_true (List.mem_map_of_mem hp)
theorem hasKey_self {as : List TPeer} {p : TPeer} (hp : p ∈ as) : hasKey as p = true := by unfold hasKey; exact decide_eq_true (List.mem_map_of_mem hp)
theorem old_self {as : List TPeer} (hd : (as.map (·.Key)).Nodup) {p : TPeer} (hp : p ∈ as) : oldOf as p = p := by
  obtain ⟨i, hi, _, hk, hq⟩ := atI_some (ps := as) (k := p.Key) (List.mem_map_of_mem hp)
  unfold oldOf
  rw [hq]
  obtain ⟨j, hj, rfl⟩ := List.mem_iff_getElem.1 hp
  have := nodup_key hd hi hj hk
  subst this
  rfl
theorem fits_self {as : List TPeer} : ∀ {l : List TPeer} {n : Nat}, as.drop n = l → fits as l n = true
  | [], _, _ => rfl
  | p :: l, n, h => by
    obtain ⟨hn, ht⟩ := drop_lt h
    unfold fits
    rw [List.drop_eq_getElem_cons hn] at h
    have hp := (List.cons.inj h).1
    rw [List.getElem?_eq_getElem hn, fits_self (n := n + 1) (l := l) ht, hp]
    cases hh : noneE p.End <;> simp [hh]
theorem filterMap_none {α β : Type} {f : α → Option β} {xs : List α} (h : ∀ x ∈ xs, f x = none) : xs.filterMap f = [] := by
  rw [List.filterMap_eq_nil_iff]; exact h
theorem patch_self {a : TConf} (h : confOk a = true) : patchS a a = TRequest_zero := by
  have hd := confOk_nodup h
  unfold patchS
  rw [if_pos (by simp [h]), growsS, shared_self, fits_self (by simp), if_pos rfl]
  rw [show goneL a.Peers a.Peers = [] from filterMap_none fun p hp => by rw [hasKey_self hp]; rfl]
  rw [show baredL a.Peers a.Peers = [] by
    unfold baredL
    rw [shared_self]
    exact filterMap_none fun p hp => by rw [old_self hd hp]; simp]
  rw [show newL a.Peers a.Peers = [] from filterMap_none fun p hp => by
    rw [old_self hd hp, hasKey_self hp]
    simp [chgS, chg4, chg3, chg2, chg1, chg0]]
  simp [devS, TRequest_zero]

/-! ### The example -/
abbrev exA : TConf := { Private := zeroK, Port := (0 : Int), Mark := (0 : UInt32), Peers := ([({ Key := vset zeroK 0 (1 : UInt8), Psk := zeroK, End := TEndpoint_zero, Keep := (0 : Int), Sent := (0 : UInt64), Got := (0 : UInt64), Allowed := ([] : (List TPrefix)) } : TPeer)] : (List TPeer)) }
abbrev exB : TConf := { Private := zeroK, Port := (0 : Int), Mark := (0 : UInt32), Peers := ([] : (List TPeer)) }
theorem ex_patch : patchS exA exB = { TRequest_zero with Peers := [gone (vset zeroK 0 (1 : UInt8))] } := by decide +kernel

theorem l35_alive.s {K : Bool → Prop} (h : K true) : l35_alive.W K := by
  unfold l35_alive.W
  refine differ_Patch.s (a := exA) (b := exB) ⟨by decide, by simp⟩ ⟨by decide, by simp⟩ ?_
  rw [ex_patch]
  exact ⟨fun _ => by decide, fun _ => by decide, Wopt.true (Wopt.true h)⟩

theorem patch_bd {a b : TConf} (ha : Bd a) (hb : Bd b) : (patchS a b).Peers.length ≤ 2 ^ 40 ∧ ∀ p ∈ (patchS a b).Peers, p.Allowed.length ≤ 2 ^ 40 := by
  have hla := ha.peers
  have hlb := hb.peers
  unfold patchS
  split
  · split
    · have l1 : (goneL a.Peers b.Peers).length ≤ 20 := Nat.le_trans (List.length_filterMap_le _ _) hla
      have l2 : (baredL a.Peers b.Peers).length ≤ 20 := Nat.le_trans (List.length_filterMap_le _ _) (Nat.le_trans (List.length_filter_le _ _) hlb)
      have l3 : (newL a.Peers b.Peers).length ≤ 20 := Nat.le_trans (List.length_filterMap_le _ _) hlb
      refine ⟨by simp only [List.length_append, List.length_nil]; omega, fun p hp => ?_⟩
      simp only [List.nil_append, List.mem_append] at hp
      rcases hp with (hp | hp) | hp
      · obtain ⟨q, _, hq⟩ := List.mem_filterMap.1 hp
        split at hq
        · cases hq
        · cases hq; simp [gone]
      · obtain ⟨q, _, hq⟩ := List.mem_filterMap.1 hp
        split at hq
        · cases hq
        · cases hq; simp [bared]
      · obtain ⟨q, hqm, hq⟩ := List.mem_filterMap.1 hp
        have hqa := hb.allow q hqm
        have key : (chgS (oldOf a.Peers q) q (!hasKey a.Peers q)).1.Allowed.length ≤ 80 := by
          have h0 : (chg0 q (!hasKey a.Peers q)).Allowed = [] := rfl
          have h1 : (chg1 (oldOf a.Peers q) q (!hasKey a.Peers q)).Allowed = [] := by unfold chg1; split <;> exact h0
          have h2 : (chg2 (oldOf a.Peers q) q (!hasKey a.Peers q)).Allowed = [] := by unfold chg2; split <;> exact h1
          have h3 : (chg3 (oldOf a.Peers q) q (!hasKey a.Peers q)).Allowed = [] := by unfold chg3; split <;> exact h2
          unfold chgS chg4
          split
          · rw [h3]; simp
          · exact hqa
        split at hq
        · rename_i hc
          cases hq
          rw [hc] at key
          simp only at key
          omega
        · cases hq
    · refine ⟨by simp [reqOf]; omega, fun p hp => ?_⟩
      obtain ⟨q, hqm, rfl⟩ := List.mem_map.1 hp
      have hqa := hb.allow q hqm
      simp only [fullS]
      omega
  · exact ⟨by simp [TRequest_zero], fun p hp => by simp [TRequest_zero] at hp⟩

theorem DifferTells_maths (a b : TConf) : l35_DifferTells.W a b (fun y => y = true) := by
  unfold l35_DifferTells.W
  refine r34_Large.s (Wopt.of (large b) (fun H hH => r34_Large.s hH) ?_)
  cases ha : large a with
  | true => exact Wif.true (l35_alive.s rfl)
  | false =>
    cases hb : large b with
    | true => exact Wif.true (l35_alive.s rfl)
    | false =>
      have ba := Bd.of ha
      have bb := Bd.of hb
      obtain ⟨hb1, hb2⟩ := patch_bd ba bb
      refine Wif.false (differ_Patch.s ba bb (r35_Patch.s ba bb (r32_Same.s hb1 hb2 ?_)))
      refine Wopt.of (emptyS (patchS a b)) (fun H hH => hH) ?_
      refine Wopt.of (emptyS (patchS a b)) (fun H hH => hH) ?_
      refine Wif.f (by simp) ?_
      refine r34_Right.s (fun p hp => by have := ba.allow p hp; omega) ?_
      refine Wopt.of (confOk b) (fun H hH => r34_Right.s (fun p hp => by have := bb.allow p hp; omega) hH) ?_
      cases hca : confOk a with
      | false => exact Wopt.false (Wopt.false (Wopt.false (Wopt.false (Wopt.true (l35_alive.s rfl)))))
      | true =>
        cases hcb : confOk b with
        | false => exact Wopt.false (Wopt.false (Wopt.false (Wopt.false (Wopt.true (l35_alive.s rfl)))))
        | true =>
          have la := ba.peers
          have lb := bb.peers
          refine Wopt.true (differ_Grows.s (by omega) (by omega) (confOk_nodup hcb) ?_)
          refine Wopt.true (r35_Grows.s (by omega) (by omega) (confOk_nodup hcb) ?_)
          simp only [Bool.not_true, Bool.or_self, Bool.not_false, beq_self_eq_true, Bool.true_and, Bool.false_or]
          refine Wopt.true (differ_Patch.s ba ba ?_)
          rw [patch_self hca]
          refine Wopt.true ?_
          exact Wopt.true (l35_alive.s rfl)
end Go.Cw
