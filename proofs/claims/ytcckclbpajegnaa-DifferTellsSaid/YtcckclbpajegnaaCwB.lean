/- The state of a walk as lists: temporaries with guards, facts on memory that does not turn, blocks of the call's own. Conditions: none; no program is named. -/
import Derived.Test.YtcckclbpajegnaaCwA
set_option linter.all false
set_option linter.unusedVariables false
set_option linter.unusedSimpArgs false
namespace Go.Cw
open Go Go.RowKit

/-- How many cells of a block do not turn any more. -/
abbrev WM := Nat → Nat

structure Ext (m : WM) (w : World) (m' : WM) (w' : World) : Prop where
  cell : ∀ b i, i < m b → w'.cell? ⟨b, i, none⟩ = w.cell? ⟨b, i, none⟩
  mono : ∀ b, m b ≤ m' b
  obj : ∀ b es c, 0 < m b → w.heap[b]? = some (.map es c) → w'.heap[b]? = some (.map es c)

theorem Ext.refl (m : WM) (w : World) : Ext m w m w := ⟨fun _ _ _ => rfl, fun _ => Nat.le_refl _, fun _ _ _ _ h => h⟩
theorem Ext.trans {m : WM} {w : World} {m' : WM} {w' : World} {m'' : WM} {w'' : World} (h : Ext m w m' w') (k : Ext m' w' m'' w'') : Ext m w m'' w'' :=
  ⟨fun b i hi => (k.cell b i (Nat.lt_of_lt_of_le hi (h.mono b))).trans (h.cell b i hi), fun b => Nat.le_trans (h.mono b) (k.mono b), fun b es c hb he => k.obj b es c (Nat.lt_of_lt_of_le hb (h.mono b)) (h.obj b es c hb he)⟩

/-- How a type's values stand in cells. -/
class R (α : Type) where
  Raw : Type
  dflt : Raw
  agg : Bool
  size : Nat
  cells : α → Raw → List Value
  ok : WM → World → α → Raw → Prop
  len : ∀ x r, (cells x r).length = size
  one : agg = false → size = 1
  ones : ∀ x r, ∀ v ∈ cells x r, v.oneCell' = true
  stable : ∀ {m w m' w'} {x : α} {r : Raw}, Ext m w m' w' → ok m w x r → ok m' w' x r

/-- The value. -/
def V {α : Type} [R α] (x : α) (r : R.Raw α) : Value := bif R.agg α then .agg (R.cells x r).toArray else (R.cells x r).headD undef

theorem V_cells {α : Type} [R α] (x : α) (r : R.Raw α) : (V x r).cells = (R.cells x r).toArray := by
  unfold V
  cases h : R.agg α with
  | true => rfl
  | false =>
    have h1 := R.one (α := α) h
    have h2 := R.len x r
    rw [h1] at h2
    obtain ⟨v, hv⟩ := List.length_eq_one_iff.1 h2
    have h3 := R.ones x r v (by simp [hv])
    rw [hv]
    cases v <;> first | rfl | (simp [Value.oneCell'] at h3)

structure Fact where
  p : WM → World → Prop
  st : ∀ {m w m' w'}, Ext m w m' w' → p m w → p m' w'

/-- This value stands for this datum (where the guard holds). -/
def Fk {α : Type} [R α] (g : Bool) (x : α) (r : R.Raw α) : Fact := ⟨fun m w => g = true → R.ok m w x r, fun he h hg => R.stable he (h hg)⟩

def cellsAt (m : WM) (w : World) (b off : Nat) (cs : List Value) : Prop := off + cs.length ≤ m b ∧ ∀ j, j < cs.length → w.cell? ⟨b, off + j, none⟩ = cs[j]?

theorem cellsAt.stable {m w m' w' b off} {cs : List Value} (he : Ext m w m' w') (h : cellsAt m w b off cs) : cellsAt m' w' b off cs :=
  ⟨Nat.le_trans h.1 (he.mono b), fun j hj => (he.cell b _ (Nat.lt_of_lt_of_le (Nat.add_lt_add_left hj off) h.1)).trans (h.2 j hj)⟩

/-- At this pointer this datum stands, and does not turn. -/
def Pl {α : Type} [R α] (g : Bool) (x : α) (p : Value) : Fact :=
  ⟨fun m w => g = true → ∃ b off r, p = .pointer (some ⟨b, off, none⟩) ∧ cellsAt m w b off (R.cells x r) ∧ R.ok m w x r,
   fun he h hg => let ⟨b, off, r, hp, hc, hk⟩ := h hg; ⟨b, off, r, hp, hc.stable he, R.stable he hk⟩⟩

/-- A block of the call's own. -/
structure Own where
  id : Nat → Prop
  q : WM → World → Prop
  loc : ∀ {m w m' w'}, (∀ b, id b → w'.heap[b]? = w.heap[b]? ∧ m' b = m b) → q m w → q m' w'

def bx {α : Type} [R α] (x : α) (r : R.Raw α) (b : Nat) (T : TypeId) : Own :=
  ⟨(· = b), fun m w => w.heap[b]? = some (.cells (R.cells x r).toArray T (0, 0)) ∧ m b = 0, fun h ⟨h1, h2⟩ => ⟨(h _ rfl).1.trans h1, (h _ rfl).2.trans h2⟩⟩

/-- A slice that the call has been making: nothing that is in sight lies behind its end. -/
def tp (T : TypeId) (size n : Nat) (a : Option Addr) (cap : Nat) : Own :=
  ⟨fun b => a.map (·.block) = some b, fun m w => (a = none ∧ n = 0 ∧ cap = 0) ∨ ∃ b arr, a = some ⟨b, 0, none⟩ ∧ w.heap[b]? = some (.cells arr T (0, 0)) ∧ arr.size = cap * size ∧ m b = n * size,
   fun h hq => hq.imp id fun ⟨b, arr, ha, hb, hs, hm⟩ => ⟨b, arr, ha, ((h b (by rw [ha]; rfl)).1).trans hb, hs, ((h b (by rw [ha]; rfl)).2).trans hm⟩⟩

abbrev Env := List (Nat × Bool × Value)

def look : Env → Nat → Option (Bool × Value)
  | [], _ => none
  | (d, gv) :: l, t => bif Nat.beq d t then some gv else look l t

structure Cx where
  P : Program
  n : Nat
  w0 : World
  m0 : WM
  X : Nat → Prop

structure St (cx : Cx) (env : Env) (fs : List Fact) (os : List Own) (a : Act) (w : World) (m : WM) : Prop where
  size : a.tmps.size = cx.n
  defers : a.defers = []
  sees : ∀ t g v, look env t = some (g, v) → a.tmps.getD t undef = bif g then v else undef
  below : BelowX cx.X cx.w0.heap.size cx.w0 w
  old : ∀ b, b < cx.w0.heap.size → ¬ cx.X b → m b = cx.m0 b
  fresh : ∀ b, w.heap.size ≤ b → m b = 0
  facts : ∀ f ∈ fs, f.p m w
  owns : ∀ o ∈ os, o.q m w
  ids : ∀ o ∈ os, ∀ b, o.id b → (cx.w0.heap.size ≤ b ∨ cx.X b) ∧ b < w.heap.size
  apart : (os.map (·.id)).Pairwise (fun x y => ∀ b, x b → ¬ y b)

section st
variable {cx : Cx} {env : Env} {fs : List Fact} {os : List Own} {a : Act} {w : World} {m : WM}

theorem St.fact (h : St cx env fs os a w m) {i : Nat} {f : Fact} (hi : fs[i]? = some f) : f.p m w := h.facts f (List.mem_of_getElem? hi)
theorem St.own (h : St cx env fs os a w m) {i : Nat} {o : Own} (hi : os[i]? = some o) : o.q m w := h.owns o (List.mem_of_getElem? hi)

theorem St.put (h : St cx env fs os a w m) {d : Nat} {g : Bool} {v v' : Value} (hd : Nat.blt d cx.n = true) (hv : v' = bif g then v else undef) :
    St cx ((d, g, v) :: env) fs os (a.put (some d) v') w m := by
  have hd' : d < cx.n := by simpa [Nat.blt_eq] using hd
  refine ⟨by simp [Act.put, h.size], h.defers, ?_, h.below, h.old, h.fresh, h.facts, h.owns, h.ids, h.apart⟩
  intro t g' u hl
  simp only [look] at hl
  by_cases e : d = t
  · subst e
    have : Nat.beq d d = true := by simp
    rw [this] at hl
    simp only [cond_true, Option.some.injEq, Prod.mk.injEq] at hl
    obtain ⟨rfl, rfl⟩ := hl
    simp [Act.put, h.size, hd', hv, Array.getD]
  · have : Nat.beq d t = false := by
      cases hb : Nat.beq d t with
      | false => rfl
      | true => exact absurd (Nat.eq_of_beq_eq_true hb) e
    rw [this] at hl
    simp only [cond_false] at hl
    have := h.sees t g' u hl
    rw [← this]
    have h2 : (a.tmps.setIfInBounds d v')[t]? = a.tmps[t]? := by rw [Array.getElem?_setIfInBounds, if_neg e]
    simp only [Act.put, Array.getD_eq_getD_getElem?, h2]

/-- Nothing is put. -/
theorem St.put_none (h : St cx env fs os a w m) (v : Value) : St cx env fs os (a.put none v) w m := h

theorem mem_two {β : Type} {p : β → Prop} {x : β} {l : List β} (hx : p x) (hl : ∀ y ∈ l, p y) : ∀ y ∈ x :: l, p y := by
  intro y hy
  rcases List.mem_cons.1 hy with rfl | hy
  · exact hx
  · exact hl y hy

theorem St.addFact (h : St cx env fs os a w m) {f : Fact} (hf : f.p m w) : St cx env (f :: fs) os a w m :=
  { h with facts := mem_two hf h.facts }

/-- A world in which a new block may stand and nothing else has turned. -/
theorem St.grow (h : St cx env fs os a w m) {w' : World} {m' : WM} (hb : Below w.heap.size w w') (hm : ∀ b, b < w.heap.size → m' b = m b)
    (hf : ∀ b, w'.heap.size ≤ b → m' b = 0) : St cx env fs os a w' m' := by
  have hlt : ∀ b i, i < m b → b < w.heap.size := fun b i hi => by
    rcases Nat.lt_or_ge b w.heap.size with h1 | h1
    · exact h1
    · rw [h.fresh b h1] at hi; exact absurd hi (Nat.not_lt_zero _)
  have he : Ext m w m' w' := by
    refine ⟨fun b i hi => hb.cell (p := ⟨b, i, none⟩) (hlt b i hi), fun b => ?_, fun b es c hp hq => (hb.block b (hlt b 0 hp)).trans hq⟩
    rcases Nat.lt_or_ge b w.heap.size with h1 | h1
    · rw [hm b h1]; exact Nat.le_refl _
    · rw [h.fresh b h1]; exact Nat.zero_le _
  refine ⟨h.size, h.defers, h.sees, h.below.step (hb.mono h.below.size), fun b hb' hx => (hm b (Nat.lt_of_lt_of_le hb' h.below.size)).trans (h.old b hb' hx), hf, fun f hx => f.st he (h.facts f hx), ?_, ?_, h.apart⟩
  · intro o ho
    refine o.loc (fun b hid => ?_) (h.owns o ho)
    have := (h.ids o ho b hid).2
    exact ⟨hb.block b this, hm b this⟩
  · intro o ho b hid
    have := h.ids o ho b hid
    exact ⟨this.1, Nat.lt_of_lt_of_le this.2 hb.size⟩

theorem pairwise_set {os : List Own} (h : (os.map (·.id)).Pairwise (fun x y => ∀ b, x b → ¬ y b)) {i : Nat} {o' : Own} (hd : ∀ (j : Nat) (x : Own), os[j]? = some x → j ≠ i → ∀ b, x.id b → ¬ o'.id b) :
    ((os.set i o').map (·.id)).Pairwise (fun x y => ∀ b, x b → ¬ y b) := by
  rw [List.pairwise_iff_getElem] at h ⊢
  intro p q hp hq hpq
  simp only [List.length_map, List.length_set] at hp hq
  simp only [List.getElem_map, List.getElem_set]
  intro b h1 h2
  split at h1
  · split at h2
    · omega
    · rename_i e1 e2
      exact hd q _ (List.getElem?_eq_getElem hq) (Ne.symm e2) b h2 h1
  · split at h2
    · rename_i e1 e2
      exact hd p _ (List.getElem?_eq_getElem hp) (Ne.symm e1) b h1 h2
    · exact h p q (by simpa using hp) (by simpa using hq) hpq b (by simpa using h1) (by simpa using h2)

/-- One own thing has turned: the i-th. -/
theorem St.turnX (h : St cx env fs os a w m) {w' : World} {m' : WM} {i : Nat} {o o' : Own} (hi : os[i]? = some o) (hid : ∀ b, o'.id b → (o.id b ∨ w.heap.size ≤ b) ∧ b < w'.heap.size)
    (hbl : ∀ b, b < w.heap.size → ¬ o.id b → w'.heap[b]? = w.heap[b]? ∧ m' b = m b) (hsz : w.heap.size ≤ w'.heap.size) (hos : w'.os = w.os) (htp : w'.tape = w.tape) (hou : w'.output = w.output)
    (hf : ∀ b, w'.heap.size ≤ b → m' b = 0) (he : Ext m w m' w') (ho : o'.q m' w') : St cx env fs (os.set i o') a w' m' := by
  have hmem := List.mem_of_getElem? hi
  have hge : ∀ b, b < cx.w0.heap.size → ¬ cx.X b → ¬ o.id b := fun b hb hx e => by
    rcases (h.ids o hmem b e).1 with h1 | h1
    · omega
    · exact hx h1
  have hlt0 := h.below.size
  have hp := List.pairwise_iff_getElem.1 h.apart
  have hdis : ∀ (j : Nat) (x : Own), os[j]? = some x → j ≠ i → ∀ b, x.id b → ¬ o.id b := fun j x hj hne b hx e => by
    obtain ⟨l1, g1⟩ := List.getElem?_eq_some_iff.1 hi
    obtain ⟨l2, g2⟩ := List.getElem?_eq_some_iff.1 hj
    rcases Nat.lt_or_gt_of_ne hne with h1 | h1
    · exact hp j i (by simpa using l2) (by simpa using l1) h1 b (by simpa [g2] using hx) (by simpa [g1] using e)
    · exact hp i j (by simpa using l1) (by simpa using l2) h1 b (by simpa [g1] using e) (by simpa [g2] using hx)
  refine ⟨h.size, h.defers, h.sees, ⟨hos.trans h.below.os, htp.trans h.below.tape, hou.trans h.below.output, Nat.le_trans hlt0 hsz, fun k hk hx => ((hbl k (by omega) (hge k hk hx)).1).trans (h.below.block k hk hx)⟩, fun b hb hx => (hbl b (by omega) (hge b hb hx)).2.trans (h.old b hb hx), hf, fun f hf => f.st he (h.facts f hf), ?_, ?_, ?_⟩
  · intro x hx
    rcases List.mem_iff_getElem?.1 hx with ⟨j, hj⟩
    rw [List.getElem?_set] at hj
    split at hj
    · rename_i e; subst e
      split at hj
      · obtain rfl := Option.some.inj hj
        exact ho
      · cases hj
    · rename_i hne
      have hxm := List.mem_of_getElem? hj
      exact x.loc (fun b hb => hbl b (h.ids x hxm b hb).2 (hdis j x hj (Ne.symm hne) b hb)) (h.owns x hxm)
  · intro x hx b hb
    rcases List.mem_or_eq_of_mem_set hx with h1 | rfl
    · have := h.ids x h1 b hb
      exact ⟨this.1, by omega⟩
    · obtain ⟨h1, h2⟩ := hid b hb
      refine ⟨?_, h2⟩
      rcases h1 with h1 | h1
      · exact (h.ids o hmem b h1).1
      · exact .inl (by omega)
  · refine pairwise_set h.apart fun j x hj hne b hx e => ?_
    rcases (hid b e).1 with h1 | h1
    · exact hdis j x hj hne b hx h1
    · have := (h.ids x (List.mem_of_getElem? hj) b hx).2
      omega

/-- The same, no block being new. -/
theorem St.turn (h : St cx env fs os a w m) {w' : World} {m' : WM} {i : Nat} {o o' : Own} (hi : os[i]? = some o) (hid : o'.id = o.id)
    (hbl : ∀ b, ¬ o.id b → w'.heap[b]? = w.heap[b]? ∧ m' b = m b) (hsz : w'.heap.size = w.heap.size) (hos : w'.os = w.os) (htp : w'.tape = w.tape) (hou : w'.output = w.output)
    (he : Ext m w m' w') (ho : o'.q m' w') : St cx env fs (os.set i o') a w' m' := by
  refine h.turnX hi (fun b hb => ?_) (fun b _ hn => hbl b hn) (Nat.le_of_eq hsz.symm) hos htp hou (fun b hb => ?_) he ho
  · rw [hid] at hb
    exact ⟨.inl hb, by rw [hsz]; exact (h.ids o (List.mem_of_getElem? hi) b hb).2⟩
  · rw [hsz] at hb
    have : ¬ o.id b := fun e => by have := (h.ids o (List.mem_of_getElem? hi) b e).2; omega
    rw [(hbl b this).2]; exact h.fresh b hb

/-- A new block of the call's own. -/
theorem St.addOwn (h : St cx env fs os a w m) {w' : World} {m' : WM} {o : Own} (hb : Below w.heap.size w w') (hm : ∀ b, b < w.heap.size → m' b = m b)
    (hf : ∀ b, w'.heap.size ≤ b → m' b = 0) (hid : ∀ b, o.id b → w.heap.size ≤ b ∧ b < w'.heap.size) (ho : o.q m' w') : St cx env fs (o :: os) a w' m' := by
  have h' := h.grow hb hm hf
  refine { h' with owns := ?_, ids := ?_, apart := ?_ }
  · intro x hx
    rcases List.mem_cons.1 hx with rfl | hx
    · exact ho
    · exact h'.owns x hx
  · intro x hx b hxb
    rcases List.mem_cons.1 hx with rfl | hx
    · exact ⟨.inl (Nat.le_trans h.below.size (hid b hxb).1), (hid b hxb).2⟩
    · exact h'.ids x hx b hxb
  · rw [List.map_cons, List.pairwise_cons]
    refine ⟨fun y hy b hob hyb => ?_, h.apart⟩
    obtain ⟨x, hx, rfl⟩ := List.mem_map.1 hy
    have h1 := (h.ids x hx b hyb).2
    have h2 := (hid b hob).1
    omega
end st

/-! ### What is handed on where ways meet -/

def SubE : Env → Env → Prop
  | [], _ => True
  | (t, gv) :: r, e => look e t = some gv ∧ SubE r e

theorem SubE.look {e' e : Env} (h : SubE e' e) {t : Nat} {gv : Bool × Value} (hl : look e' t = some gv) : Cw.look e t = some gv := by
  induction e' with
  | nil => cases hl
  | cons p r ih =>
    obtain ⟨d, gv'⟩ := p
    simp only [Cw.look] at hl
    cases hb : Nat.beq d t with
    | true =>
      rw [hb] at hl
      obtain rfl := Nat.eq_of_beq_eq_true hb
      obtain rfl := Option.some.inj hl
      exact h.1
    | false => rw [hb] at hl; exact ih h.2 hl

def SubF : List Fact → List Fact → Prop
  | [], _ => True
  | f :: r, l => (∃ i : Nat, l[i]? = some f) ∧ SubF r l

theorem SubF.mem {fs' fs : List Fact} (h : SubF fs' fs) : ∀ f ∈ fs', f ∈ fs := by
  induction fs' with
  | nil => intro f hf; cases hf
  | cons g r ih =>
    intro f hf
    rcases List.mem_cons.1 hf with rfl | hf
    · exact List.mem_of_getElem? h.1.choose_spec
    · exact ih h.2 f hf

/-- These own blocks, by their places. -/
def SubO : List Nat → List Own → List Own → Prop
  | [], [], _ => True
  | i :: is, o :: os', os => os[i]? = some o ∧ SubO is os' os
  | _, _, _ => False

theorem SubO.spec : ∀ {is : List Nat} {os' os : List Own}, SubO is os' os → is.length = os'.length ∧ ∀ (p : Nat) (h : p < is.length) (h' : p < os'.length), os[is[p]]? = some os'[p]
  | [], [], _, _ => ⟨rfl, fun p h => absurd h (by simp)⟩
  | i :: is, o :: os', os, ⟨h1, h2⟩ => by
    obtain ⟨h3, h4⟩ := SubO.spec h2
    refine ⟨by simp [h3], fun p h h' => ?_⟩
    cases p with
    | zero => exact h1
    | succ p => exact h4 p (by simpa using h) (by simpa using h')
  | [], _ :: _, _, h => h.elim
  | _ :: _, [], _, h => h.elim

theorem St.weaken {cx : Cx} {env env' : Env} {fs fs' : List Fact} {os os' : List Own} {a : Act} {w : World} {m : WM} (h : St cx env fs os a w m)
    (he : SubE env' env) (hf : SubF fs' fs) (is : List Nat) (hn : is.Nodup) (ho : SubO is os' os) : St cx env' fs' os' a w m := by
  obtain ⟨hlen, hat⟩ := ho.spec
  have hmem : ∀ o ∈ os', o ∈ os := fun o hx => by
    obtain ⟨p, hp, rfl⟩ := List.mem_iff_getElem.1 hx
    exact List.mem_of_getElem? (hat p (by omega) hp)
  refine ⟨h.size, h.defers, fun t g v hl => h.sees t g v (he.look hl), h.below, h.old, h.fresh, fun f hx => h.facts f (hf.mem f hx), fun o hx => h.owns o (hmem o hx), fun o hx => h.ids o (hmem o hx), ?_⟩
  rw [List.pairwise_iff_getElem]
  intro p q hp hq hpq b h1 h2
  simp only [List.length_map] at hp hq
  have e1 := hat p (by omega) hp
  have e2 := hat q (by omega) hq
  have hne : is[p]'(by omega) ≠ is[q]'(by omega) := fun e => by
    have := (List.nodup_iff_pairwise_ne.1 hn)
    rw [List.pairwise_iff_getElem] at this
    exact this p q (by omega) (by omega) hpq e
  obtain ⟨l1, g1⟩ := List.getElem?_eq_some_iff.1 e1
  obtain ⟨l2, g2⟩ := List.getElem?_eq_some_iff.1 e2
  have hpw := List.pairwise_iff_getElem.1 h.apart
  simp only [List.getElem_map] at h1 h2
  rcases Nat.lt_or_gt_of_ne hne with hlt | hlt
  · exact hpw _ _ (by simpa using l1) (by simpa using l2) hlt b (by simp [g1, h1]) (by simp [g2, h2])
  · exact hpw _ _ (by simpa using l2) (by simpa using l1) hlt b (by simp [g2, h2]) (by simp [g1, h1])
end Go.Cw
