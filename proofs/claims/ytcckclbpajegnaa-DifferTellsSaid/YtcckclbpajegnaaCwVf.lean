/- Plain laws for DifferTells: the patch. -/
import Derived.Test.YtcckclbpajegnaaCwVe
set_option linter.all false
set_option linter.unusedVariables false
set_option linter.unusedSimpArgs false
namespace Go.Cw
open Go

theorem Lfp2.app {α : Type} [Inhabited α] (xs : List α) (f : α → Option TPeerChange) (r : TRequest) (hn : r.Peers.length + xs.length ≤ 2 ^ 30) {step : Int → TRequest → (Int → TRequest → Prop) → Prop}
    (hend : ∀ I, step (xs.length : Int) { r with Peers := r.Peers ++ xs.filterMap f } I)
    (h : ∀ (i : Nat) (x : α) (y : TRequest) (I : Int → TRequest → Prop), i < xs.length → lat xs (i : Int) = x → x ∈ xs → y.Peers.length + 1 ≤ 2 ^ 30 → I (arI .add .i64 (i : Int) 1) (match f x with | none => y | some c => { y with Peers := y.Peers ++ [c] }) → step (i : Int) y I) : Lfp2 step 0 r := by
  refine Lfp2.over xs (by omega) (fun i l y => y = { r with Peers := r.Peers ++ (xs.take i).filterMap f }) (by simp) ?_ ?_
  · rintro y I rfl
    rw [List.take_length]
    exact hend I
  · rintro i x l y I hi hd hx rfl hI
    have hle : ((xs.take i).filterMap f).length ≤ i := Nat.le_trans (List.length_filterMap_le _ _) (by simp; omega)
    refine h i x _ I hi hx (mem_drop hd) (by simp; omega) (hI _ ?_)
    rw [take_succ' hd, List.filterMap_append]
    cases hf : f x with
    | none => simp [hf]
    | some c => simp [hf]

def fullS (p : TPeer) : TPeerChange := { Key := p.Key, Remove := false, Update := false, HasPsk := true, Psk := p.Psk, HasEnd := !noneE p.End, End := p.End, HasKeep := true, Keep := p.Keep, Replace := true, Allowed := p.Allowed }
def reqOf (c : TConf) : TRequest := { HasPrivate := true, Private := c.Private, HasPort := true, Port := c.Port, HasMark := true, Mark := c.Mark, Replace := true, Peers := c.Peers.map fullS }

theorem map_some {α β : Type} (f : α → β) (xs : List α) : xs.filterMap (fun x => some (f x)) = xs.map f := by
  induction xs with
  | nil => rfl
  | cons x l ih => simp [ih]

theorem view_Request.s {c : TConf} {K : TRequest → Prop} (hn : c.Peers.length ≤ 2 ^ 30) (hp : ∀ p ∈ c.Peers, p.Allowed.length ≤ 2 ^ 30) (h : K (reqOf c)) : view_Request.W c K := by
  unfold view_Request.W
  refine Lfp2.app c.Peers (fun p => some (fullS p)) _ (by simpa using hn) ?_ ?_
  · intro I
    refine Wif.f (lss_f (Nat.le_refl _)) ?_
    rw [map_some]
    exact h
  · intro i p y I hi hx hm hy hI
    refine Wif.t (lss_t hi) ⟨inb hi, ?_⟩
    rw [hx]
    exact hostport_None.s (slices_Clone.s (hp p hm) ⟨by simpa using hy, hI⟩)

theorem r34_Request.s {c : TConf} {K : TRequest → Prop} (hn : c.Peers.length ≤ 2 ^ 30) (h : K (reqOf c)) : r34_Request.W c K := by
  unfold r34_Request.W
  refine Lfp2.app c.Peers (fun p => some (fullS p)) _ (by simpa using hn) ?_ ?_
  · intro I
    refine Wif.f (lss_f (Nat.le_refl _)) ?_
    rw [map_some]
    exact h
  · intro i p y I hi hx hm hy hI
    refine Wif.t (lss_t hi) ⟨inb hi, ?_⟩
    rw [hx]
    exact ⟨by simpa using hy, hI⟩

def devS (r : TRequest) (a b : TConf) : TRequest :=
  let r1 := if a.Private = b.Private then r else { r with HasPrivate := true, Private := b.Private }
  let r2 := if a.Port = b.Port then r1 else { r1 with HasPort := true, Port := b.Port }
  if a.Mark = b.Mark then r2 else { r2 with HasMark := true, Mark := b.Mark }

theorem Wif.ite {c : Prop} [Decidable c] {A : Type} {b : Bool} {J : A → Prop} {x y : A} (hb : b = !decide c) (h : J (if c then y else x)) : Wif b (J x) (J y) := by
  subst hb
  by_cases hc : c
  · rw [if_pos hc] at h
    exact Wif.f (by simp [hc]) h
  · rw [if_neg hc] at h
    exact Wif.t (by simp [hc]) h
theorem Wif.itf {c : Prop} [Decidable c] {A : Type} {b : Bool} {J : A → Prop} {x y : A} (hb : b = decide c) (h : J (if c then x else y)) : Wif b (J x) (J y) := by
  subst hb
  by_cases hc : c
  · rw [if_pos hc] at h
    exact Wif.t (by simp [hc]) h
  · rw [if_neg hc] at h
    exact Wif.f (by simp [hc]) h
theorem WJ.ite {A : Type} {J : A → Prop} {b : Bool} {x y : A} (c : Prop) [Decidable c] (hb : b = !decide c) (h : J (if c then y else x)) : WJ (fun J => Wif b (J x) (J y)) J := Wif.ite hb h
theorem WJ.itf {A : Type} {J : A → Prop} {b : Bool} {x y : A} (c : Prop) [Decidable c] (hb : b = decide c) (h : J (if c then x else y)) : WJ (fun J => Wif b (J x) (J y)) J := Wif.itf hb h
theorem neqI (a b : Int) : cmpI .neq a b = !decide (a = b) := by
  simp only [cmpI]; by_cases h : a = b <;> simp [h]
theorem neqN (a b : Nat) : cmpI .neq (a : Int) (b : Int) = !decide (a = b) := by
  rw [neqI]; congr 1; exact decide_eq_decide.2 (by omega)
theorem neqU32 (a b : UInt32) : cmpI .neq (a.toNat : Int) (b.toNat : Int) = !decide (a = b) := by
  rw [neqN]; congr 1; exact decide_eq_decide.2 ⟨fun h => UInt32.toNat_inj.1 h, fun h => by rw [h]⟩

theorem differ_device.s {r : TRequest} {a b : TConf} {K : TRequest → Prop} (h : K (devS r a b)) : differ_device_o.W r a b K := by
  unfold differ_device_o.W
  refine WJ.ite (a.Private = b.Private) rfl ?_
  refine WJ.ite (a.Port = b.Port) (neqI _ _) ?_
  exact Wif.ite (c := a.Mark = b.Mark) (neqU32 _ _) h

/-- What is unlike of a peer, but its prefixes. -/
def chg0 (y : TPeer) (fresh : Bool) : TPeerChange := { Key := y.Key, Remove := false, Update := !fresh, HasPsk := false, Psk := zeroK, HasEnd := false, End := TEndpoint_zero, HasKeep := false, Keep := (0 : Int), Replace := false, Allowed := ([] : (List TPrefix)) }
def chg1 (x y : TPeer) (fresh : Bool) : TPeerChange := if (fresh || !decide (x.Psk = y.Psk)) = true then { chg0 y fresh with HasPsk := true, Psk := y.Psk } else chg0 y fresh
def chg2 (x y : TPeer) (fresh : Bool) : TPeerChange := if x.End = y.End then chg1 x y fresh else { chg1 x y fresh with HasEnd := true, End := y.End }
def chg3 (x y : TPeer) (fresh : Bool) : TPeerChange := if (fresh || !decide (x.Keep = y.Keep)) = true then { chg2 x y fresh with HasKeep := true, Keep := y.Keep } else chg2 x y fresh
def chg4 (x y : TPeer) (fresh : Bool) : TPeerChange := if x.Allowed = y.Allowed then chg3 x y fresh else { chg3 x y fresh with Allowed := y.Allowed }
/-- What is unlike of a peer. -/
def chgS (x y : TPeer) (fresh : Bool) : TPeerChange × Bool := (chg4 x y fresh, (((fresh || (chg4 x y fresh).HasPsk) || (chg4 x y fresh).HasEnd) || (chg4 x y fresh).HasKeep) || !decide (x.Allowed = y.Allowed))

theorem differ_change.s {x y : TPeer} {fresh : Bool} {K : TPeerChange × Bool → Prop} (hx : x.Allowed.length ≤ 2 ^ 30) (hy : y.Allowed.length ≤ 2 ^ 30) (h : K (chgS x y fresh)) : differ_change.W x y fresh K := by
  unfold differ_change.W
  refine WJ.itf ((fresh || !decide (x.Psk = y.Psk)) = true) (by simp) ?_
  refine WJ.ite (x.End = y.End) rfl ?_
  refine WJ.itf ((fresh || !decide (x.Keep = y.Keep)) = true) (by rw [neqI]; simp) ?_
  refine slices_Equal.s (by omega) (WJ.mk ?_)
  refine Wif.mk (fun e => ?_) (fun e => ?_)
  · have hne : ¬ x.Allowed = y.Allowed := by simpa using e
    refine slices_Clone.s hy ?_
    unfold chgS chg4 at h
    rw [if_neg hne] at h
    exact h
  · have heq : x.Allowed = y.Allowed := by simpa using e
    unfold chgS chg4 at h
    rw [if_pos heq] at h
    exact h

def gone (k : Vector UInt8 32) : TPeerChange := { Key := k, Remove := true, Update := false, HasPsk := false, Psk := zeroK, HasEnd := false, End := TEndpoint_zero, HasKeep := false, Keep := (0 : Int), Replace := false, Allowed := ([] : (List TPrefix)) }
def bared (k : Vector UInt8 32) : TPeerChange := { Key := k, Remove := false, Update := true, HasPsk := false, Psk := zeroK, HasEnd := false, End := TEndpoint_zero, HasKeep := false, Keep := (0 : Int), Replace := true, Allowed := ([] : (List TPrefix)) }
def oldOf (as : List TPeer) (y : TPeer) : TPeer := (peerAt as y.Key).getD TPeer_zero
def goneL (as bs : List TPeer) : List TPeerChange := as.filterMap fun p => if hasKey bs p then none else some (gone p.Key)
def baredL (as bs : List TPeer) : List TPeerChange := (sharedS bs as).filterMap fun y => if (oldOf as y).Allowed = y.Allowed then none else some (bared y.Key)
def newL (as bs : List TPeer) : List TPeerChange := bs.filterMap fun y => match chgS (oldOf as y) y (!hasKey as y) with | (p, true) => some p | (_, false) => none
def patchS (a b : TConf) : TRequest :=
  if (confOk a && confOk b) = true then
    if growsS a.Peers b.Peers = true then { devS TRequest_zero a b with Peers := ((([] ++ goneL a.Peers b.Peers) ++ baredL a.Peers b.Peers) ++ newL a.Peers b.Peers) }
    else reqOf b
  else TRequest_zero

theorem devS_peers (r : TRequest) (a b : TConf) : (devS r a b).Peers = r.Peers := by
  unfold devS; simp only; split <;> split <;> split <;> rfl
theorem hasKey_get (as : List TPeer) (y : TPeer) : hasKey as y = (mget (kmap as) y.Key).isSome := (kmap_isSome as y.Key).symm

/-- The bounds of what is looked at. -/
structure Bd (c : TConf) : Prop where
  peers : c.Peers.length ≤ 20
  allow : ∀ p ∈ c.Peers, p.Allowed.length ≤ 80
theorem Bd.of {c : TConf} (h : large c = false) : Bd c := ⟨(large_false h).1, (large_false h).2⟩
theorem old_len {a : TConf} (ha : Bd a) (y : TPeer) : (oldOf a.Peers y).Allowed.length ≤ 80 := by
  unfold oldOf peerAt
  cases h : a.Peers.find? fun p => decide (p.Key = y.Key) with
  | none => simp [TPeer_zero]
  | some p => exact ha.allow p (List.mem_of_find?_eq_some h)

theorem differ_Patch.s {a b : TConf} {K : TRequest → Prop} (ha : Bd a) (hb : Bd b) (h : K (patchS a b)) : differ_Patch.W a b K := by
  unfold differ_Patch.W
  unfold patchS at h
  refine view_Right.s (fun p hp => by have := ha.allow p hp; omega) ?_
  refine Wopt.of (confOk b) (fun H hH => view_Right.s (fun p hp => by have := hb.allow p hp; omega) hH) ?_
  by_cases hr : (confOk a && confOk b) = true
  · rw [if_pos hr] at h
    rw [Bool.and_eq_true] at hr
    refine Wif.f (by rw [hr.1, hr.2]; rfl) ?_
    have hda := confOk_nodup hr.1
    have hdb := confOk_nodup hr.2
    have hla := ha.peers
    have hlb := hb.peers
    refine differ_Grows.s (by omega) (by omega) hdb ?_
    by_cases hg : growsS a.Peers b.Peers = true
    · rw [if_pos hg] at h
      refine Wif.f (by rw [hg]; rfl) (differ_device.s ?_)
      refine differ_byKey.s (by omega) hda (differ_byKey.s (by omega) hdb ?_)
      refine Lfp2.app a.Peers (fun p => if hasKey b.Peers p then none else some (gone p.Key)) _ (by rw [devS_peers]; simp [TRequest_zero]; omega) ?_ ?_
      · intro I
        refine Wif.f (lss_f (Nat.le_refl _)) (differ_shared.s (by omega) ?_)
        have l1 : (a.Peers.filterMap fun p => if hasKey b.Peers p = true then none else some (gone p.Key)).length ≤ 20 := Nat.le_trans (List.length_filterMap_le _ _) hla
        have l2 : (sharedS b.Peers a.Peers).length ≤ 20 := Nat.le_trans (List.length_filter_le _ _) hlb
        refine Lfp2.app (sharedS b.Peers a.Peers) (fun y => if (oldOf a.Peers y).Allowed = y.Allowed then none else some (bared y.Key)) _ (by rw [List.length_append, devS_peers]; simp [TRequest_zero]; omega) ?_ ?_
        · intro I2
          refine Wif.f (lss_f (Nat.le_refl _)) ?_
          have l3 : ((sharedS b.Peers a.Peers).filterMap fun y => if (oldOf a.Peers y).Allowed = y.Allowed then none else some (bared y.Key)).length ≤ 20 := Nat.le_trans (List.length_filterMap_le _ _) l2
          refine Lfp2.app b.Peers (fun y => match chgS (oldOf a.Peers y) y (!hasKey a.Peers y) with | (p, true) => some p | (_, false) => none) _ (by rw [List.length_append, List.length_append, devS_peers]; simp [TRequest_zero]; omega) ?_ ?_
          · intro I3
            refine Wif.f (lss_f (Nat.le_refl _)) ?_
            rw [devS_peers]
            exact h
          · intro i y r I3 hi hx hm hr hI
            refine Wif.t (lss_t hi) ⟨inb hi, ?_⟩
            rw [hx]
            have hy := hb.allow y hm
            have ho := old_len ha y
            show differ_change.W (mval (kmap a.Peers) y.Key TPeer_zero) y (!((mget (kmap a.Peers) y.Key).isSome)) _
            rw [← hasKey_get, show mval (kmap a.Peers) y.Key TPeer_zero = oldOf a.Peers y by unfold mval oldOf; rw [kmap_get]]
            refine differ_change.s (by omega) (by omega) (WJ.mk ?_)
            cases hc : chgS (oldOf a.Peers y) y (!hasKey a.Peers y) with
            | mk p s =>
              rw [hc] at hI
              cases s with
              | true => exact Wif.true ⟨by simpa using hr, hI⟩
              | false => exact Wif.false hI
        · intro i y r I2 hi hx hm hr hI
          refine Wif.t (lss_t hi) ⟨inb hi, ?_⟩
          rw [hx]
          have ho := old_len ha y
          show slices_Equal_Prefix_Prefix.W ((mval (kmap a.Peers) y.Key TPeer_zero).Allowed) _ _
          rw [show mval (kmap a.Peers) y.Key TPeer_zero = oldOf a.Peers y by unfold mval oldOf; rw [kmap_get]]
          refine slices_Equal.s (by omega) (WJ.mk ?_)
          by_cases he : (oldOf a.Peers y).Allowed = y.Allowed
          · rw [if_pos he] at hI
            exact Wif.f (by simp [he]) hI
          · rw [if_neg he] at hI
            exact Wif.t (by simp [he]) ⟨by simpa using hr, hI⟩
      · intro i p r I hi hx hm hr hI
        refine Wif.t (lss_t hi) ⟨inb hi, WJ.mk ?_⟩
        rw [hx]
        show Wif (!((mget (kmap b.Peers) p.Key).isSome)) _ _
        rw [← hasKey_get]
        cases hk : hasKey b.Peers p with
        | true => rw [hk] at hI; exact Wif.false hI
        | false => rw [hk] at hI; exact Wif.true ⟨by simpa using hr, hI⟩
    · rw [if_neg hg] at h
      refine Wif.t (by simpa using hg) ?_
      exact view_Request.s (by omega) (fun p hp => by have := hb.allow p hp; omega) h
  · rw [if_neg hr] at h
    refine Wif.t ?_ h
    have := Bool.eq_false_iff.2 hr
    cases h1 : confOk a <;> simp_all
end Go.Cw
