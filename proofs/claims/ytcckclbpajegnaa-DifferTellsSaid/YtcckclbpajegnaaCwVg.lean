/- Plain laws for DifferTells: the reference's patch, equal requests, the law. -/
import Derived.Test.YtcckclbpajegnaaCwVf
set_option linter.all false
set_option linter.unusedVariables false
set_option linter.unusedSimpArgs false
namespace Go.Cw
open Go

theorem WJ.two {A B : Type} {J : A → B → Prop} {b : Bool} {q : Prop} {x x' : A} {y y' : B} (hq : b = true → q) (h : J (bif b then x else x') (bif b then y else y')) : WJ (fun J => Wif b (q ∧ J x y) (J x' y')) J := by
  cases b with
  | true => exact Wif.true ⟨hq rfl, h⟩
  | false => exact Wif.false h

theorem at_hasKey (as : List TPeer) (y : TPeer) : cmpI .geq (atI as y.Key) 0 = hasKey as y ∧ cmpI .lss (atI as y.Key) 0 = !hasKey as y ∧ (hasKey as y = true → ∃ i : Nat, ∃ hi : i < as.length, atI as y.Key = i ∧ as[i] = oldOf as y) ∧ (hasKey as y = false → oldOf as y = TPeer_zero) := by
  by_cases hk : y.Key ∈ as.map (·.Key)
  · obtain ⟨i, hi, h1, h2, h3⟩ := atI_some hk
    have hh : hasKey as y = true := by unfold hasKey; exact decide_eq_true hk
    rw [h1, hh]
    refine ⟨by simp [cmpI], by simp [cmpI], fun _ => ⟨i, hi, rfl, ?_⟩, fun h => (by cases h)⟩
    unfold oldOf
    rw [h3]; rfl
  · have hh : hasKey as y = false := by unfold hasKey; exact decide_eq_false hk
    rw [atI_neg hk, hh]
    refine ⟨rfl, rfl, fun h => (by cases h), fun _ => ?_⟩
    unfold oldOf
    rw [← kmap_get, mget_none (by rw [kmap_keys]; exact hk)]
    rfl

theorem r35_Patch.s {a b : TConf} {K : TRequest → Prop} (ha : Bd a) (hb : Bd b) (h : K (patchS a b)) : r35_Patch.W a b K := by
  unfold r35_Patch.W
  unfold patchS at h
  refine r34_Right.s (fun p hp => by have := ha.allow p hp; omega) ?_
  refine Wopt.of (confOk b) (fun H hH => r34_Right.s (fun p hp => by have := hb.allow p hp; omega) hH) ?_
  by_cases hr : (confOk a && confOk b) = true
  · rw [if_pos hr] at h
    rw [Bool.and_eq_true] at hr
    refine Wif.f (by rw [hr.1, hr.2]; rfl) ?_
    have hdb := confOk_nodup hr.2
    have hla := ha.peers
    have hlb := hb.peers
    refine r35_Grows.s (by omega) (by omega) hdb ?_
    by_cases hg : growsS a.Peers b.Peers = true
    · rw [if_pos hg] at h
      refine Wif.f (by rw [hg]; rfl) ?_
      refine WJ.ite (a.Private = b.Private) rfl ?_
      refine WJ.ite (a.Port = b.Port) (neqI _ _) ?_
      refine WJ.ite (a.Mark = b.Mark) (neqU32 _ _) ?_
      show Lfp2 _ 0 (devS TRequest_zero a b)
      refine Lfp2.app a.Peers (fun p => if hasKey b.Peers p then none else some (gone p.Key)) _ (by rw [devS_peers]; simp [TRequest_zero]; omega) ?_ ?_
      · intro I
        refine Wif.f (lss_f (Nat.le_refl _)) ?_
        have l1 : (a.Peers.filterMap fun p => if hasKey b.Peers p = true then none else some (gone p.Key)).length ≤ 20 := Nat.le_trans (List.length_filterMap_le _ _) hla
        refine Lfp2.app b.Peers (fun y => if hasKey a.Peers y = true then (if (oldOf a.Peers y).Allowed = y.Allowed then none else some (bared y.Key)) else none) _ (by rw [List.length_append, devS_peers]; simp [TRequest_zero]; omega) ?_ ?_
        · intro I2
          refine Wif.f (lss_f (Nat.le_refl _)) ?_
          rw [← List.filterMap_filter]
          have l2 : (sharedS b.Peers a.Peers).length ≤ 20 := Nat.le_trans (List.length_filter_le _ _) hlb
          have l3 : ((sharedS b.Peers a.Peers).filterMap fun y => if (oldOf a.Peers y).Allowed = y.Allowed then none else some (bared y.Key)).length ≤ 20 := Nat.le_trans (List.length_filterMap_le _ _) l2
          refine Lfp2.app b.Peers (fun y => match chgS (oldOf a.Peers y) y (!hasKey a.Peers y) with | (p, true) => some p | (_, false) => none) _ (by
            rw [List.length_append, List.length_append, devS_peers]
            change _ + ((sharedS b.Peers a.Peers).filterMap _).length + _ ≤ _
            simp [TRequest_zero]; omega) ?_ ?_
          · intro I3
            refine Wif.f (lss_f (Nat.le_refl _)) ?_
            rw [devS_peers]
            exact h
          · intro i y r I3 hi hx hm hr hI
            refine Wif.t (lss_t hi) ⟨inb hi, ?_⟩
            rw [hx]
            have hy := hb.allow y hm
            refine r35_At.s (by omega) ?_
            obtain ⟨h1, h2, h3, h4⟩ := at_hasKey a.Peers y
            have hgo : ∀ (x : TPeer), x.Psk = (oldOf a.Peers y).Psk → x.End = (oldOf a.Peers y).End → x.Keep = (oldOf a.Peers y).Keep → x.Allowed = (oldOf a.Peers y).Allowed → chgS x y (!hasKey a.Peers y) = chgS (oldOf a.Peers y) y (!hasKey a.Peers y) := by
              intro x e1 e2 e3 e4
              simp only [chgS, chg4, chg3, chg2, chg1, e1, e2, e3, e4]
            rw [h1, h2]
            refine WJ.two (fun e => ?_) ?_
            · obtain ⟨j, hj, hat, _⟩ := h3 e
              rw [hat]; exact inb hj
            have hx0 : (bif hasKey a.Peers y then ({ Key := y.Key, Remove := false, Update := true, HasPsk := false, Psk := (Vector.replicate 32 (0 : UInt8)), HasEnd := false, End := TEndpoint_zero, HasKeep := false, Keep := (0 : Int), Replace := false, Allowed := ([] : (List TPrefix)) } : TPeerChange) else ({ Key := y.Key, Remove := false, Update := false, HasPsk := false, Psk := (Vector.replicate 32 (0 : UInt8)), HasEnd := false, End := TEndpoint_zero, HasKeep := false, Keep := (0 : Int), Replace := false, Allowed := ([] : (List TPrefix)) } : TPeerChange)) = chg0 y (!hasKey a.Peers y) := by
              cases hasKey a.Peers y <;> rfl
            rw [hx0]
            have hx1 : ∃ x : TPeer, (bif hasKey a.Peers y then lat a.Peers (atI a.Peers y.Key) else ({ Key := y.Key, Psk := (Vector.replicate 32 (0 : UInt8)), End := TEndpoint_zero, Keep := (0 : Int), Sent := (0 : UInt64), Got := (0 : UInt64), Allowed := ([] : (List TPrefix)) } : TPeer)) = x ∧ chgS x y (!hasKey a.Peers y) = chgS (oldOf a.Peers y) y (!hasKey a.Peers y) ∧ x.Allowed.length ≤ 80 := by
              refine ⟨_, rfl, ?_, ?_⟩
              · cases hk : hasKey a.Peers y with
                | true =>
                  obtain ⟨j, hj, hat, ho⟩ := h3 hk
                  rw [hat, cond_true, lat_get hj, ho]
                | false => rw [h4 hk]; rfl
              · cases hk : hasKey a.Peers y with
                | true =>
                  obtain ⟨j, hj, hat, ho⟩ := h3 hk
                  rw [hat, cond_true, lat_get hj]
                  exact ha.allow _ (List.getElem_mem hj)
                | false => simp
            obtain ⟨x, hx1, hx2, hx3⟩ := hx1
            rw [hx1]
            rw [← hx2] at hI
            generalize (!hasKey a.Peers y) = fresh at hI ⊢
            refine WJ.itf ((fresh || !decide (x.Psk = y.Psk)) = true) (by simp) ?_
            refine WJ.ite (x.End = y.End) rfl ?_
            refine WJ.itf ((fresh || !decide (x.Keep = y.Keep)) = true) (by rw [neqI]; simp) ?_
            refine r11_Same.s (by omega) ?_
            refine WJ.ite (x.Allowed = y.Allowed) rfl ?_
            show WJ (fun (J : TRequest → Prop) => Wif (chgS x y fresh).2 ((r.Peers.length + ([(chgS x y fresh).1] : List TPeerChange).length ≤ 2 ^ 30) ∧ J { r with Peers := r.Peers ++ [(chgS x y fresh).1] }) (J r)) _
            cases hc : chgS x y fresh with
            | mk p s =>
              rw [hc] at hI
              cases s with
              | true => exact WJ.mk (Wif.true ⟨by simpa using hr, hI⟩)
              | false => exact WJ.mk (Wif.false hI)
        · intro i y r I2 hi hx hm hr hI
          refine Wif.t (lss_t hi) ⟨inb hi, ?_⟩
          rw [hx]
          have hy := hb.allow y hm
          obtain ⟨h1, h2, h3, h4⟩ := at_hasKey a.Peers y
          refine r35_At.s (by omega) ⟨fun e => ?_, fun _ => inb hi, ?_⟩
          · rw [h1] at e
            obtain ⟨j, hj, hat, _⟩ := h3 e
            rw [hat]; exact inb hj
          rw [h1]
          cases hk : hasKey a.Peers y with
          | true =>
            obtain ⟨j, hj, hat, ho⟩ := h3 hk
            rw [hk, if_pos rfl] at hI
            rw [hat, lat_get hj, ho]
            refine Wopt.true (r11_Same.s (by have := old_len ha y; omega) (WJ.mk ?_))
            by_cases he : (oldOf a.Peers y).Allowed = y.Allowed
            · rw [if_pos he] at hI
              exact Wif.f (by simp [he]) hI
            · rw [if_neg he] at hI
              exact Wif.t (by simp [he]) ⟨inb hi, by simpa using hr, hI⟩
          | false =>
            rw [hk] at hI
            exact Wopt.false (WJ.mk (Wif.false hI))
      · intro i p r I hi hx hm hr hI
        refine Wif.t (lss_t hi) ⟨inb hi, ?_⟩
        rw [hx]
        obtain ⟨h1, h2, h3, h4⟩ := at_hasKey b.Peers p
        refine r35_At.s (by omega) (WJ.mk ?_)
        rw [h2]
        cases hk : hasKey b.Peers p with
        | true => rw [hk] at hI; exact Wif.false hI
        | false => rw [hk] at hI; exact Wif.true ⟨inb hi, by simpa using hr, hI⟩
    · rw [if_neg hg] at h
      refine Wif.t (by simpa using hg) ?_
      exact r34_Request.s (by omega) h
  · rw [if_neg hr] at h
    refine Wif.t ?_ h
    have := Bool.eq_false_iff.2 hr
    cases h1 : confOk a <;> simp_all
end Go.Cw
