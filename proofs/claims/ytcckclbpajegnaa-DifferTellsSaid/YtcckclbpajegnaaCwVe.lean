/- Plain laws for DifferTells: what both have, whether one can grow. -/
import Derived.Test.YtcckclbpajegnaaCwVd
set_option linter.all false
set_option linter.unusedVariables false
set_option linter.unusedSimpArgs false
namespace Go.Cw
open Go

theorem set_take {α : Type} {xs : List α} {i : Nat} {x : α} (h : i < xs.length) : (xs.set i x).take (i + 1) = xs.take i ++ [x] := by
  rw [List.take_set, List.take_succ_eq_append_getElem h, List.set_append_right _ _ (by simp [Nat.min_le_left])]
  simp [Nat.min_eq_left (Nat.le_of_lt h), Nat.min_le_left]

/-- The loop of DeleteFunc. -/
theorem DeleteFunc.s {n : Nat} {ps bs : List TPeer} {K : List TPeer → Prop} (hnn : n = ps.length) (hn : ps.length ≤ 2 ^ 30) (h : K (sharedS ps bs)) : slices_DeleteFunc_Peer_Peer_sf36c_consume.W n ps ⟨kmap bs⟩ K := by
  unfold slices_DeleteFunc_Peer_Peer_sf36c_consume.W
  refine IndexFunc.s hnn (by omega) ?_ ?_
  · intro hall
    refine Wif.t rfl ?_
    rw [sharedS, filter_none hall] at h
    exact h
  · intro i hi hf hall
    refine Wif.f (by simp [cmpI]) ?_
    show Lfp3 _ (i : Int) (arI .add .i64 (i : Int) 1) ps
    rw [add1 hi (by omega)]
    refine Lfp3.intro (fun (x y : Int) (zs : List TPeer) => ∃ j k : Nat, x = j ∧ y = k ∧ zs.length = ps.length ∧ k ≤ ps.length ∧ j < k ∧ zs.take j = sharedS (ps.take k) bs ∧ zs.drop k = ps.drop k) (fun (x y : Int) _ => ps.length - y.toNat) ?_ ?_
    · refine ⟨i, i + 1, rfl, rfl, rfl, hi, by omega, ?_, rfl⟩
      rw [sharedS, List.take_succ_eq_append_getElem hi, List.filter_append, filter_none hall]
      simp [hf]
    · rintro x y zs I ⟨j, k, rfl, rfl, hlen, hk, hjk, ht, hdr⟩ hI
      subst hnn
      by_cases hlt : k < ps.length
      · refine Wif.t (lss_t hlt) ⟨by rw [hlen]; exact inb hlt, ?_⟩
        have hzk : lat zs (k : Int) = ps[k] := by
          rw [lat_get (by omega)]
          have h1 := List.drop_eq_getElem_cons (l := zs) (i := k) (by omega)
          have h2 := List.drop_eq_getElem_cons (l := ps) hlt
          rw [h1, h2] at hdr
          exact (List.cons.inj hdr).1
        rw [hzk]
        show WJ _ _
        refine WJ.mk ?_
        show Wif (!(!((mget (kmap bs) ps[k].Key).isSome))) _ _
        rw [kmap_isSome]
        rw [add1 hlt (by omega)]
        have hdr' : zs.drop (k + 1) = ps.drop (k + 1) := by
          have := congrArg (List.drop 1) hdr
          simpa [List.drop_drop] using this
        by_cases hkk : hasKey bs ps[k] = true
        · refine Wif.t (by unfold hasKey at hkk; rw [hkk]; rfl) ⟨by omega, ?_⟩
          rw [add1 (i := j) (n := ps.length) (by omega) (by omega)]
          refine hI _ _ _ ⟨j + 1, k + 1, rfl, rfl, by simpa using hlen, by omega, by omega, ?_, ?_⟩ (by simp; omega)
          · rw [Int.toNat_natCast, set_take (by omega), ht, sharedS, sharedS, List.take_succ_eq_append_getElem hlt, List.filter_append]
            simp [hkk]
          · rw [Int.toNat_natCast, List.drop_set_of_lt (by omega)]
            exact hdr'
        · have hkf := Bool.eq_false_iff.2 hkk
          refine Wif.f (by unfold hasKey at hkf; rw [hkf]; rfl) ?_
          refine hI _ _ _ ⟨j, k + 1, rfl, rfl, hlen, by omega, by omega, ?_, hdr'⟩ (by simp; omega)
          rw [ht, sharedS, sharedS, List.take_succ_eq_append_getElem hlt, List.filter_append]
          simp [hkf]
      · obtain rfl : k = ps.length := by omega
        refine Wif.f (lss_f (Nat.le_refl _)) ⟨by omega, ⟨by omega, ?_⟩, ?_⟩
        · simp only [List.length_append, List.length_take, List.length_replicate, Int.toNat_natCast]
          omega
        · rw [List.take_length] at ht
          simp only [cut, Int.toNat_natCast, Nat.sub_zero]
          rw [show ((0 : Int).toNat) = 0 from rfl, List.drop_zero, Nat.sub_zero, List.take_append_of_le_length (by simp; omega), List.take_take, Nat.min_self, ht]
          exact h

theorem differ_shared.s {c : TConf} {bs : List TPeer} {K : List TPeer → Prop} (hn : c.Peers.length ≤ 2 ^ 30) (h : K (sharedS c.Peers bs)) : differ_shared.W c ⟨kmap bs⟩ K := by
  unfold differ_shared.W
  exact slices_ClonePsv.s hn (DeleteFunc.s rfl hn h)

/-! ### Growing -/
def fits (bs : List TPeer) : List TPeer → Nat → Bool
  | [], _ => true
  | p :: l, n => (match bs[n]? with | none => false | some q => decide (q.Key = p.Key) && !(!noneE p.End && noneE q.End)) && fits bs l (n + 1)
def growsS (as bs : List TPeer) : Bool := fits bs (sharedS as bs) 0

theorem fits_le {bs : List TPeer} : ∀ {l : List TPeer} {n : Nat}, fits bs l n = true → l = [] ∨ n + l.length ≤ bs.length
  | [], _, _ => .inl rfl
  | p :: l, n, h => by
    unfold fits at h
    rw [Bool.and_eq_true] at h
    obtain ⟨h1, h2⟩ := h
    right
    have hn : n < bs.length := by
      rcases Nat.lt_or_ge n bs.length with h | h
      · exact h
      · rw [List.getElem?_eq_none h] at h1; cases h1
    rcases fits_le h2 with rfl | h3
    · simp; omega
    · simp; omega

theorem differ_Grows.s {a b : TConf} {K : Bool → Prop} (ha : a.Peers.length ≤ 2 ^ 30) (hb : b.Peers.length ≤ 2 ^ 30) (hd : (b.Peers.map (·.Key)).Nodup) (h : K (growsS a.Peers b.Peers)) : differ_Grows.W a b K := by
  unfold differ_Grows.W
  refine differ_byKey.s (by omega) hd (differ_shared.s ha ?_)
  unfold growsS at h
  have hsl : (sharedS a.Peers b.Peers).length ≤ a.Peers.length := List.length_filter_le _ _
  generalize sharedS a.Peers b.Peers = l at h hsl
  by_cases hl : b.Peers.length < l.length
  · refine Wif.t (by simp [cmpI]; omega) ?_
    have : fits b.Peers l 0 = false := by
      rw [← Bool.not_eq_true]
      intro hf
      rcases fits_le hf with rfl | h1
      · simp at hl
      · omega
    rwa [this] at h
  · refine Wif.f (by simp [cmpI]; omega) ?_
    refine Lfp1.over l (by omega) (fun i m => K (fits b.Peers m i)) h ?_ ?_
    · intro I hv
      exact Wif.f (lss_f (Nat.le_refl _)) hv
    · intro i p m I hi hdr hx hv hI
      have hib : i < b.Peers.length := by omega
      refine Wif.t (lss_t hi) ⟨inb hi, inb hib, ?_⟩
      rw [hx, lat_get hib]
      refine Wopt.of (noneE p.End) (fun H hH => hostport_None.s hH) ⟨fun _ => inb hib, ?_⟩
      refine Wopt.of (noneE (b.Peers[i]).End) (fun H hH => hostport_None.s hH) ?_
      unfold fits at hv
      rw [List.getElem?_eq_getElem hib] at hv
      simp only at hv
      by_cases hk : b.Peers[i].Key = p.Key
      · simp only [hk, decide_true, Bool.not_true, Bool.not_false, cond_true, Bool.true_and, Bool.false_or] at hv ⊢
        by_cases he : (!noneE p.End && noneE b.Peers[i].End) = true
        · refine Wif.t ?_ ?_
          · rw [Bool.and_eq_true] at he
            rw [he.1, he.2]; rfl
          · rw [he] at hv; exact hv
        · have he' := Bool.eq_false_iff.2 he
          refine Wif.f ?_ (hI ?_)
          · cases h1 : noneE p.End with
            | true => simp
            | false => rw [h1] at he'; simpa using he'
          · rw [he'] at hv; simpa using hv
      · refine Wif.t (by simp [hk]) ?_
        rw [decide_eq_false hk] at hv
        simpa using hv

/-! ### The reference -/
def atI (ps : List TPeer) (k : Vector UInt8 32) : Int := match ps.findIdx? fun p => decide (p.Key = k) with | some i => (i : Int) | none => -1

theorem r35_At.s {c : TConf} {k : Vector UInt8 32} {K : Int → Prop} (hn : c.Peers.length ≤ 2 ^ 40) (h : K (atI c.Peers k)) : r35_At.W c k K := by
  unfold r35_At.W
  refine Lfp1.over c.Peers hn (fun i l => (∀ p ∈ c.Peers.take i, ¬ p.Key = k)) (by simp) ?_ ?_
  · intro I hv
    refine Wif.f (lss_f (Nat.le_refl _)) ?_
    rw [List.take_length] at hv
    have : atI c.Peers k = -1 := by
      unfold atI
      rw [List.findIdx?_eq_none_iff.2 (fun p hp => decide_eq_false (hv p hp))]
    rwa [this] at h
  · intro i p l I hi hd hx hv hI
    refine Wif.t (lss_t hi) ⟨inb hi, ?_⟩
    rw [hx]
    have hp : c.Peers[i] = p := by rw [← lat_get hi, hx]
    by_cases hk : p.Key = k
    · refine Wif.t (by simp [hk]) ?_
      have : atI c.Peers k = i := by
        unfold atI
        rw [List.findIdx?_eq_some_iff_getElem.2 ⟨hi, by rw [hp]; simpa using hk, fun j hj => by
          have := hv c.Peers[j] (List.mem_take_iff_getElem.2 ⟨j, by omega, rfl⟩)
          simpa using this⟩]
      rwa [this] at h
    · refine Wif.f (by simp [hk]) (hI ?_)
      rw [take_succ' hd]
      intro q hq
      rcases List.mem_append.1 hq with hq | hq
      · exact hv q hq
      · simp at hq; rw [hq]; exact hk

theorem atI_neg {ps : List TPeer} {k : Vector UInt8 32} (h : k ∉ ps.map (·.Key)) : atI ps k = -1 := by
  unfold atI
  rw [List.findIdx?_eq_none_iff.2 fun p hp => decide_eq_false fun e => h (List.mem_map.2 ⟨p, hp, e⟩)]
theorem atI_some {ps : List TPeer} {k : Vector UInt8 32} (h : k ∈ ps.map (·.Key)) : ∃ i : Nat, ∃ hi : i < ps.length, atI ps k = i ∧ ps[i].Key = k ∧ peerAt ps k = some ps[i] := by
  unfold atI peerAt
  cases hf : ps.findIdx? fun p => decide (p.Key = k) with
  | none =>
    rw [List.findIdx?_eq_none_iff] at hf
    obtain ⟨p, hp, he⟩ := List.mem_map.1 h
    have := hf p hp
    simp [he] at this
  | some i =>
    obtain ⟨h1, h2, h3⟩ := List.findIdx?_eq_some_iff_getElem.1 hf
    refine ⟨i, h1, rfl, by simpa using h2, ?_⟩
    rw [List.find?_eq_some_iff_getElem]
    exact ⟨h2, i, h1, rfl, fun j hj => by have := h3 j hj; simpa using this⟩

theorem nodup_key {ps : List TPeer} (hd : (ps.map (·.Key)).Nodup) {i j : Nat} (hi : i < ps.length) (hj : j < ps.length) (h : ps[i].Key = ps[j].Key) : i = j := by
  have := (List.nodup_iff_pairwise_ne.1 hd)
  rw [List.pairwise_iff_getElem] at this
  rcases Nat.lt_trichotomy i j with h1 | h1 | h1
  · exact absurd (by rw [List.getElem_map, List.getElem_map]; exact h) (this i j (by simpa using hi) (by simpa using hj) h1)
  · exact h1
  · exact absurd (by rw [List.getElem_map, List.getElem_map]; exact h.symm) (this j i (by simpa using hj) (by simpa using hi) h1)

theorem r35_Grows.s {a b : TConf} {K : Bool → Prop} (ha : a.Peers.length ≤ 2 ^ 30) (hb : b.Peers.length ≤ 2 ^ 30) (hd : (b.Peers.map (·.Key)).Nodup) (h : K (growsS a.Peers b.Peers)) : r35_Grows.W a b K := by
  unfold r35_Grows.W
  refine Lfp2.overS (β := Int) a.Peers (by omega) (fun i l x => ∃ n : Nat, x = n ∧ n ≤ i ∧ K (fits b.Peers (sharedS l b.Peers) n)) ⟨0, rfl, Nat.le_refl _, h⟩ ?_ ?_
  · rintro x I ⟨n, rfl, _, hv⟩
    exact Wif.f (lss_f (Nat.le_refl _)) hv
  · rintro i p l x I hi hdr hx ⟨n, rfl, hni, hv⟩ hI
    refine Wif.t (lss_t hi) (WJ.mk ⟨inb hi, ?_⟩)
    rw [hx]
    refine r35_At.s (by omega) ?_
    by_cases hk : p.Key ∈ b.Peers.map (·.Key)
    · obtain ⟨j, hj, hat, hjk, _⟩ := atI_some hk
      rw [hat]
      refine Wif.f (by simp [cmpI]) ⟨fun _ => inb hi, fun _ => inb hj, ?_⟩
      rw [lat_get hj]
      have hs : sharedS (p :: l) b.Peers = p :: sharedS l b.Peers := by simp [sharedS, hasKey, hk]
      rw [hs] at hv
      unfold fits at hv
      by_cases hjn : j = n
      · subst hjn
        rw [List.getElem?_eq_getElem hj] at hv
        simp only [hjk, decide_true, Bool.true_and] at hv
        rw [show cmpI .neq (j : Int) (j : Int) = false by simp [cmpI], Bool.false_or]
        show Wif (!noneE p.End && noneE b.Peers[j].End) _ _
        cases he : (!noneE p.End && noneE b.Peers[j].End) with
        | true => rw [he] at hv; exact Wif.true (by simpa using hv)
        | false =>
          rw [he] at hv
          rw [add1 (i := j) (n := 2 ^ 30) (by omega) (by decide)]
          exact Wif.false (hI _ ⟨j + 1, rfl, by omega, by simpa using hv⟩)
      · refine Wif.t (by simp [cmpI]; left; omega) ?_
        cases hbn : b.Peers[n]? with
        | none => rw [hbn] at hv; simpa using hv
        | some q =>
          rw [hbn] at hv
          obtain ⟨hn1, hn2⟩ := List.getElem?_eq_some_iff.1 hbn
          have : ¬ q.Key = p.Key := fun e => hjn (nodup_key hd hj hn1 (by rw [hjk, hn2, e]))
          simpa [this] using hv
    · rw [atI_neg hk]
      refine Wif.t rfl ?_
      have hs : sharedS (p :: l) b.Peers = sharedS l b.Peers := by simp [sharedS, hasKey, hk]
      rw [hs] at hv
      exact hI _ ⟨n, rfl, by omega, hv⟩
end Go.Cw
