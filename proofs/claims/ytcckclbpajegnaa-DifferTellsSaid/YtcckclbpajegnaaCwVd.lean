/- Plain laws for DifferTells: peers by their keys, what both have. -/
import Derived.Test.YtcckclbpajegnaaCwVc
set_option linter.all false
set_option linter.unusedVariables false
set_option linter.unusedSimpArgs false
namespace Go.Cw
open Go

theorem eq_loop {xs ys : List TPrefix} {K : Bool → Prop} (hn : xs.length ≤ 2 ^ 40) (h : K (decide (xs = ys))) :
    Wif (cmpI .neq (xs.length : Int) (ys.length : Int)) (K false) (Lfp1 (fun (x1 : Int) (I1 : Int → Prop) => Wif (cmpI .lss x1 (xs.length : Int)) (((0 : Int) ≤ x1 ∧ x1 < (xs.length : Int)) ∧ (((0 : Int) ≤ x1 ∧ x1 < (ys.length : Int)) ∧ (Wif (!decide (lat xs x1 = lat ys x1)) (K false) (I1 (arI .add .i64 x1 1))))) (K true)) 0) := by
  by_cases hl : xs.length = ys.length
  · refine Wif.f (by simp [cmpI, hl]) ?_
    refine Lfp1.over xs hn (fun i l => K (decide (l = ys.drop i))) (by simpa using h) ?_ ?_
    · intro I hv
      refine Wif.f (lss_f (Nat.le_refl _)) ?_
      rw [hl, List.drop_length] at hv
      exact hv
    · intro i x l I hi hd hx hv hI
      have hi2 : i < ys.length := by omega
      refine Wif.t (lss_t hi) ⟨inb hi, inb hi2, ?_⟩
      rw [hx, lat_get hi2]
      rw [List.drop_eq_getElem_cons hi2] at hv
      by_cases he : x = ys[i]
      · refine Wif.f (by simp [he]) (hI ?_)
        have : decide (x :: l = ys[i] :: ys.drop (i + 1)) = decide (l = ys.drop (i + 1)) := decide_eq_decide.2 ⟨fun e => (List.cons.inj e).2, fun e => by rw [he, e]⟩
        rwa [this] at hv
      · refine Wif.t (by simp [he]) ?_
        have : decide (x :: l = ys[i] :: ys.drop (i + 1)) = false := decide_eq_false fun e => he (List.cons.inj e).1
        rwa [this] at hv
  · refine Wif.t (by simp [cmpI]; omega) ?_
    have : decide (xs = ys) = false := by simp; rintro rfl; exact hl rfl
    rwa [this] at h

theorem slices_Equal.s {xs ys : List TPrefix} {K : Bool → Prop} (hn : xs.length ≤ 2 ^ 40) (h : K (decide (xs = ys))) : slices_Equal_Prefix_Prefix.W xs ys K := eq_loop hn h
theorem r11_Same.s {xs ys : List TPrefix} {K : Bool → Prop} (hn : xs.length ≤ 2 ^ 40) (h : K (decide (xs = ys))) : r11_Same.W xs ys K := eq_loop hn h

theorem slices_Clone.s {xs : List TPrefix} {K : List TPrefix → Prop} (hn : xs.length ≤ 2 ^ 30) (h : K xs) : slices_Clone_Prefix_Prefix.W xs K := by
  intro n hn1
  refine Wif.mk (fun e => ?_) (fun _ => ⟨by simpa using hn, by simpa using h⟩)
  rw [hn1 rfl e] at h
  exact h
theorem slices_ClonePsv.s {xs : List TPeer} {K : List TPeer → Prop} (hn : xs.length ≤ 2 ^ 30) (h : K xs) : slices_Clone_Peer_Peer_sv.W xs K := by
  intro n hn1
  refine Wif.mk (fun e => ?_) (fun _ => ⟨hn, h⟩)
  rw [hn1 rfl e] at h
  exact h

/-! ### Keys are apart -/
theorem peersOk_keys : ∀ {l : List TPeer} {ks : List (Vector UInt8 32)} {all : List TPrefix}, peersOk ks all l = true → (∀ p ∈ l, p.Key ∉ ks) ∧ (l.map (·.Key)).Nodup
  | [], _, _, _ => ⟨by simp, by simp⟩
  | p :: l, ks, all, h => by
    unfold peersOk at h
    split at h
    · rename_i hc
      split at h
      · cases h
      · obtain ⟨h1, h2⟩ := peersOk_keys h
        refine ⟨?_, ?_⟩
        · intro q hq
          rcases List.mem_cons.1 hq with rfl | hq
          · exact hc.1
          · exact fun hk => h1 q hq (List.mem_append_left _ hk)
        · rw [List.map_cons, List.nodup_cons]
          refine ⟨fun hm => ?_, h2⟩
          obtain ⟨q, hq, he⟩ := List.mem_map.1 hm
          exact h1 q hq (by rw [he]; simp)
    · cases h

theorem confOk_nodup {c : TConf} (h : confOk c = true) : (c.Peers.map (·.Key)).Nodup := by
  unfold confOk at h
  exact (peersOk_keys (Bool.and_eq_true _ _ ▸ h).2).2

/-- The peer of a key. -/
def peerAt (ps : List TPeer) (k : Vector UInt8 32) : Option TPeer := ps.find? fun p => decide (p.Key = k)
def kmap (ps : List TPeer) : List (Vector UInt8 32 × TPeer) := ps.map fun p => (p.Key, p)
theorem kmap_keys (ps : List TPeer) : (kmap ps).map (·.1) = ps.map (·.Key) := by simp [kmap]
theorem kmap_get (ps : List TPeer) (k : Vector UInt8 32) : mget (kmap ps) k = peerAt ps k := by
  unfold mget mfind kmap peerAt
  rw [List.findIdx?_map]
  induction ps with
  | nil => rfl
  | cons p l ih =>
    rw [List.findIdx?_cons, List.find?_cons]
    by_cases h : p.Key = k
    · simp [h]
    · have h' : ¬ k = p.Key := fun e => h e.symm
      simp only [Function.comp, h', decide_false, Bool.false_eq_true, if_false, h]
      rw [← ih]
      cases hf : l.findIdx? ((fun e : Vector UInt8 32 × TPeer => decide (k = e.1)) ∘ fun p => (p.Key, p)) with
      | none => rfl
      | some i => simp

theorem kmap_isSome (ps : List TPeer) (k : Vector UInt8 32) : (mget (kmap ps) k).isSome = decide (k ∈ ps.map (·.Key)) := by
  rw [kmap_get]
  unfold peerAt
  rw [Bool.eq_iff_iff]
  simp [List.find?_isSome]

theorem differ_byKey.s {c : TConf} {K : Mp (Vector UInt8 32) TPeer → Prop} (hn : c.Peers.length ≤ 2 ^ 40) (hd : (c.Peers.map (·.Key)).Nodup) (h : K ⟨kmap c.Peers⟩) : differ_byKey.W c K := by
  unfold differ_byKey.W
  refine Lfp2.over c.Peers hn (fun i l x => x = kmap (c.Peers.take i)) rfl ?_ ?_
  · rintro x I rfl
    refine Wif.f (lss_f (Nat.le_refl _)) ?_
    rwa [List.take_length]
  · rintro i p l x I hi hdr hx rfl hI
    refine Wif.t (lss_t hi) ⟨inb hi, ?_⟩
    rw [hx]
    refine hI _ ?_
    rw [mput_new, take_succ' hdr]
    · simp [kmap]
    · rw [kmap_keys]
      rw [← List.take_append_drop i c.Peers, hdr, List.map_append, List.nodup_append] at hd
      intro hm
      exact hd.2.2 _ hm _ (by simp) rfl

/-! ### What both have -/
def hasKey (ps : List TPeer) (p : TPeer) : Bool := decide (p.Key ∈ ps.map (·.Key))
def sharedS (as bs : List TPeer) : List TPeer := as.filter (hasKey bs)

theorem filter_none {α : Type} {f : α → Bool} {xs : List α} (h : ∀ x ∈ xs, f x = true) : xs.filter f = xs := List.filter_eq_self.2 h

theorem IndexFunc.s {n : Nat} {ps bs : List TPeer} {K : Int × List TPeer → Prop} (hnn : n = ps.length) (hn : ps.length ≤ 2 ^ 40)
    (h1 : (∀ p ∈ ps, hasKey bs p = true) → K (-1, ps)) (h2 : ∀ i : Nat, ∀ hi : i < ps.length, hasKey bs ps[i] = false → (∀ p ∈ ps.take i, hasKey bs p = true) → K ((i : Int), ps)) : slices_IndexFunc_Peer_Peer_sf36c.W n ps ⟨kmap bs⟩ K := by
  subst hnn
  unfold slices_IndexFunc_Peer_Peer_sf36c.W
  refine Lfp1.over ps hn (fun i l => ∀ p ∈ ps.take i, hasKey bs p = true) (by simp) ?_ ?_
  · intro I hv
    refine Wif.f (lss_f (Nat.le_refl _)) (h1 ?_)
    rwa [List.take_length] at hv
  · intro i p l I hi hd hx hv hI
    refine Wif.t (lss_t hi) ⟨inb hi, ?_⟩
    rw [hx]
    show Wif (!((mget (kmap bs) p.Key).isSome)) _ _
    rw [kmap_isSome]
    have hp : ps[i] = p := by rw [← lat_get hi, hx]
    by_cases hk : hasKey bs p = true
    · refine Wif.f (by unfold hasKey at hk; rw [hk]; rfl) (hI ?_)
      rw [take_succ' hd]
      intro q hq
      rcases List.mem_append.1 hq with hq | hq
      · exact hv q hq
      · simp at hq; rw [hq]; exact hk
    · have hk' := Bool.eq_false_iff.2 hk
      exact Wif.t (by unfold hasKey at hk'; rw [hk']; rfl) (h2 i hi (by rw [hp]; exact hk') hv)
end Go.Cw
