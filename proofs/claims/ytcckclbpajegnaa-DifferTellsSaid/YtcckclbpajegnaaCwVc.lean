/- Plain laws for DifferTells: which configurations may be, list by list. -/
import Derived.Test.YtcckclbpajegnaaCwVb
set_option linter.all false
set_option linter.unusedVariables false
set_option linter.unusedSimpArgs false
namespace Go.Cw
open Go

theorem mem_drop {α : Type} {xs l : List α} {x : α} {i : Nat} (h : xs.drop i = x :: l) : x ∈ xs := by
  rw [← List.take_append_drop i xs, h]; simp
theorem take_succ' {α : Type} {xs l : List α} {x : α} {i : Nat} (h : xs.drop i = x :: l) : xs.take (i + 1) = xs.take i ++ [x] := by
  obtain ⟨hi, _⟩ := drop_lt h
  rw [List.take_succ_eq_append_getElem hi]
  rw [List.drop_eq_getElem_cons hi] at h
  rw [(List.cons.inj h).1]

def keysTo (c : TConf) (i : Nat) : List (Vector UInt8 32) := zeroK :: (c.Peers.take i).map (·.Key)

theorem r34_Right.s {c : TConf} {K : Bool → Prop} (hn : ∀ p ∈ c.Peers, p.Allowed.length ≤ 2 ^ 20) (h : K (confOk c)) : r34_Right.W c K := by
  unfold r34_Right.W
  refine r34_from.s ?_
  unfold confOk at h
  by_cases h1 : (!shortI c.Port || cmpI .gtr (c.Peers.length : Int) 16) = true
  · refine Wif.t h1 ?_
    have : (shortI c.Port && decide (c.Peers.length ≤ 16)) = false := by
      simp only [cmpI, Bool.or_eq_true, Bool.not_eq_true', decide_eq_true_eq] at h1
      simp only [Bool.and_eq_false_iff, decide_eq_false_iff_not]
      exact h1.imp id fun h => by omega
    rwa [this] at h
  · have h1' := Bool.eq_false_iff.2 h1
    refine Wif.f h1' ?_
    have hg : (shortI c.Port && decide (c.Peers.length ≤ 16)) = true := by
      simp only [cmpI, Bool.or_eq_false_iff, Bool.not_eq_false', decide_eq_false_iff_not] at h1'
      simp only [Bool.and_eq_true, decide_eq_true_eq]
      exact ⟨h1'.1, by omega⟩
    rw [hg, Bool.true_and] at h
    have h16 : c.Peers.length ≤ 16 := of_decide_eq_true (Bool.and_eq_true _ _ ▸ hg).2
    refine Lfp2.overS c.Peers (by omega) (fun i l all => all.length ≤ 2 ^ 20 * i ∧ K (peersOk (keysTo c i) all l)) ⟨by simp, h⟩ ?_ ?_
    · rintro all I ⟨ha, hv⟩
      refine Wif.f (lss_f (Nat.le_refl _)) ?_
      have : cmpI .leq (all.length : Int) 64 = decide (all.length ≤ 64) := by simp only [cmpI]; exact decide_eq_decide.2 (by omega)
      rw [this]
      exact hv
    · rintro i p l all I hi hd hx ⟨ha, hv⟩ hI
      refine Wif.t (lss_t hi) ⟨inb hi, ?_⟩
      rw [hx]
      have hpn := hn p (mem_drop hd)
      refine Wopt.of (shortI p.Keep) (fun H hH => r34_from.s hH) ?_
      refine Wopt.of (epOk p.End) (fun H hH => r12_Right.s hH) ?_
      unfold peersOk at hv
      by_cases hz : p.Key = zeroK
      · refine Wif.t (by simp [show p.Key = Vector.replicate 32 (0 : UInt8) from hz]) ?_
        rwa [if_neg (by simp [keysTo, hz])] at hv
      have hz' : ¬ p.Key = Vector.replicate 32 (0 : UInt8) := hz
      by_cases hs : shortI p.Keep = true
      · by_cases he : (noneE p.End || epOk p.End) = true
        · refine Wif.f (by
            simp only [hz', hs, decide_false, Bool.false_or, Bool.not_true, Bool.not_false, Bool.true_and, cond_true]
            unfold noneE at he
            cases h7 : decide (p.End = zeroE) <;> simp [h7] at he ⊢
            exact he) ?_
          have hpk : peerOk p = true := by simp [peerOk, hs, he]
          -- the keys of those ahead
          refine Lfp1.up (k := 0) i (fun j => p.Key ∉ (c.Peers.take j).map (·.Key)) (Nat.zero_le _) (by simp) ?_
          intro j I2 hj hnot hI2
          by_cases hjl : j < i
          · have hjc : j < c.Peers.length := by omega
            refine Wif.t (lss_t hjl) ⟨inb hjc, ?_⟩
            rw [lat_get hjc]
            by_cases hkj : c.Peers[j].Key = p.Key
            · refine Wif.t (by simp [hkj]) ?_
              rw [if_neg] at hv
              · exact hv
              · rintro ⟨hk, _⟩
                refine hk (List.mem_cons_of_mem _ (List.mem_map.2 ⟨c.Peers[j], ?_, hkj⟩))
                exact List.mem_take_iff_getElem.2 ⟨j, by omega, rfl⟩
            · refine Wif.f (by simp [hkj]) ?_
              rw [add1 hjl (by omega)]
              refine hI2 hjl ?_
              rw [List.take_succ_eq_append_getElem hjc]
              simp only [List.map_append, List.mem_append, List.map_cons, List.map_nil, List.mem_singleton, not_or]
              exact ⟨hnot, fun e => hkj e.symm⟩
          · obtain rfl : j = i := by omega
            refine Wif.f (lss_f (Nat.le_refl _)) ?_
            have hk : p.Key ∉ keysTo c j := by
              simp only [keysTo, List.mem_cons, not_or]
              exact ⟨hz, hnot⟩
            have hkn : keysTo c j ++ [p.Key] = keysTo c (j + 1) := by
              simp only [keysTo, take_succ' hd, List.map_append, List.map_cons, List.map_nil, List.cons_append]
            refine Lfp2.overS p.Allowed (by omega) (fun n m a => a.length ≤ 2 ^ 20 * j + n ∧ K (bif rise (prevOf p.Allowed n) m then (match addAll a m with | none => false | some all' => peersOk (keysTo c (j + 1)) all' l) else false)) ⟨by omega, ?_⟩ ?_ ?_
            · rw [hkn] at hv
              by_cases hr : rise none p.Allowed = true
              · rw [if_pos ⟨hk, hpk, hr⟩] at hv
                rw [show prevOf p.Allowed 0 = none from rfl, hr]; exact hv
              · rw [if_neg (by simp [hr])] at hv
                rw [show prevOf p.Allowed 0 = none from rfl, Bool.eq_false_iff.2 hr]; exact hv
            · rintro a I3 ⟨hal, hv3⟩
              refine Wif.f (lss_f (Nat.le_refl _)) ?_
              exact hI _ ⟨by omega, hv3⟩
            · rintro n q m a I3 hnl hd3 hx3 ⟨hal, hv3⟩ hI3
              refine Wif.t (lss_t hnl) ⟨inb hnl, ?_⟩
              rw [hx3]
              refine r11_Right.s ⟨prev_in hnl (by omega), ?_⟩
              refine Wopt.of (prefLt (lat p.Allowed (arI .sub .i64 (n : Int) 1)) q) (fun H hH => r11_Less.s hH) ?_
              have key := prev_ok hd3 (by omega) (prefOk q) (bif !(!prefOk q) && cmpI .gtr (n : Int) 0 then prefLt (lat p.Allowed (arI .sub .i64 (n : Int) 1)) q else default)
              simp only [rise] at hv3
              rw [prevOf_succ hd3] at hI3
              have hbad : (prefOk q && okAfter (prevOf p.Allowed n) q) = false → K false := fun e => by
                rw [e, Bool.false_and] at hv3
                simpa using hv3
              cases hp : prefOk q with
              | false => exact Wif.t (by simp) (hbad (by simp [hp]))
              | true =>
                rw [hp] at key hv3 hbad
                have hk2 := key (fun h0 => by simp [show cmpI .gtr (n : Int) 0 = true by simp [cmpI]; omega])
                simp only [Bool.true_and] at hv3 hk2 hbad
                refine Wif.mk (fun e => ?_) (fun e => ?_)
                · rw [e] at hk2
                  exact hbad hk2.symm
                · rw [e] at hk2
                  rw [← hk2] at hv3
                  simp only [Bool.not_false, Bool.true_and] at hv3
                  unfold addAll at hv3
                  refine Lfp1.over a (by omega) (fun _ t => q ∈ t ↔ q ∈ a) Iff.rfl ?_ ?_
                  · intro I4 hh
                    refine Wif.f (lss_f (Nat.le_refl _)) ?_
                    have hqa : q ∉ a := fun h => by simpa using hh.2 h
                    refine ⟨by simp; omega, hI3 _ ⟨by simp; omega, ?_⟩⟩
                    rwa [if_neg hqa] at hv3
                  · intro t y u I4 ht hd4 hx4 hh hI4
                    refine Wif.t (lss_t ht) ⟨inb ht, ?_⟩
                    rw [hx4]
                    by_cases hy : y = q
                    · refine Wif.t (by simp [hy]) ?_
                      have hqa : q ∈ a := hh.1 (by simp [hy])
                      rw [if_pos hqa] at hv3
                      simpa using hv3
                    · refine Wif.f (by simp [hy]) (hI4 ?_)
                      rw [← hh, List.mem_cons]
                      exact ⟨.inr, fun h => h.resolve_left fun e => hy e.symm⟩
        · have he' := Bool.eq_false_iff.2 he
          simp only [Bool.or_eq_false_iff] at he'
          have h8 : ¬ p.End = zeroE := by have := he'.1; simpa [noneE] using this
          refine Wif.t (by simp [hz', hs, he'.2, h8]) ?_
          rwa [if_neg (by simp [peerOk, he'.1, he'.2])] at hv
      · have hs' := Bool.eq_false_iff.2 hs
        refine Wif.t (by simp [hs', hz']) ?_
        rwa [if_neg (by simp [peerOk, hs'])] at hv
end Go.Cw
