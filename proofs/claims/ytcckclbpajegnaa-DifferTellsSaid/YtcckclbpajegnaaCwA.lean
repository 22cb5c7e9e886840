/- The frame of all proofs of this part: states of a walk as lists (temporaries, facts, own blocks), and what carries them through code, regions and loops. Conditions: none; no program is named. -/
import Derived.Tactics
import Derived.Below
import Derived.OrdersHeld
import Derived.Laws.Rows
import Derived.Laws.CopyRow
set_option linter.all false
set_option linter.unusedVariables false
set_option linter.unusedSimpArgs false
namespace Go.Cw
open Go Go.RowKit

/-- Of what was there nothing has turned but these blocks. -/
structure BelowX (X : Nat → Prop) (B : Nat) (w w' : World) : Prop where
  os : w'.os = w.os
  tape : w'.tape = w.tape
  output : w'.output = w.output
  size : w.heap.size ≤ w'.heap.size
  block : ∀ k, k < B → ¬ X k → w'.heap[k]? = w.heap[k]?
theorem BelowX.refl (X : Nat → Prop) (B : Nat) (w : World) : BelowX X B w w := ⟨rfl, rfl, rfl, Nat.le_refl _, fun _ _ _ => rfl⟩
theorem BelowX.step {X : Nat → Prop} {B : Nat} {a b c : World} (h : BelowX X B a b) (k : Below B b c) : BelowX X B a c :=
  ⟨k.os.trans h.os, k.tape.trans h.tape, k.output.trans h.output, Nat.le_trans h.size k.size, fun i hi hx => (k.block i hi).trans (h.block i hi hx)⟩
theorem BelowX.none {X : Nat → Prop} {B : Nat} {a b : World} (h : BelowX X B a b) (hx : ∀ k, ¬ X k) : Below B a b := ⟨h.os, h.tape, h.output, h.size, fun k hk => h.block k hk (hx k)⟩
theorem BelowX.of {X : Nat → Prop} {B : Nat} {a b : World} (h : Below B a b) : BelowX X B a b := ⟨h.os, h.tape, h.output, h.size, fun k hk _ => h.block k hk⟩
theorem BelowX.trans {X : Nat → Prop} {a b c : World} (h : BelowX X a.heap.size a b) (k : BelowX X b.heap.size b c) : BelowX X a.heap.size a c :=
  ⟨k.os.trans h.os, k.tape.trans h.tape, k.output.trans h.output, Nat.le_trans h.size k.size, fun i hi hx => (k.block i (Nat.lt_of_lt_of_le hi h.size) hx).trans (h.block i hi hx)⟩
theorem BelowX.weak {X Y : Nat → Prop} {B : Nat} {a b : World} (h : BelowX X B a b) (hx : ∀ k, X k → Y k) : BelowX Y B a b := ⟨h.os, h.tape, h.output, h.size, fun i hi hy => h.block i hi fun e => hy (hx i e)⟩

/-! ### Orders: a region that draws, by a plan -/
section plan
variable {P : Program} {ops : Array Oper} {Q : Exit → Act → World → Prop} {md : Region.Mode}

/-- Every order; behind an operation of the head what was there is as it was. -/
def wpAnyT (P : Program) (md : Region.Mode) (ops : Array Oper) (Q : Exit → Act → World → Prop) (X : Nat → Prop) (hd : Nat → Bool) : Nat → Array Bool → Act → World → Prop
  | 0, listed, a, w => Region.ready md ops listed = [] ∧ Q .normal a w
  | fuel + 1, listed, a, w =>
    (Region.ready md ops listed = [] → Q .normal a w) ∧
    ∀ i ∈ Region.ready md ops listed, wpOp P ops Q i (fun a' w' => (hd i = true → Below w.heap.size w w') ∧ BelowX X w.heap.size w w' ∧ wpAnyT P md ops Q X hd fuel (listed.setIfInBounds i true) a' w') a w

theorem wpAny_of_T {X : Nat → Prop} {hd : Nat → Bool} : ∀ (fuel : Nat) (listed : Array Bool) (a : Act) (w : World), wpAnyT P md ops Q X hd fuel listed a w → wpAny P md ops Q fuel listed a w
  | 0, _, _, _, h => h
  | fuel + 1, _, _, _, h => ⟨h.1, fun i hi => wpOp_mono (fun a' w' h' => wpAny_of_T fuel _ a' w' h'.2.2) (h.2 i hi)⟩

/-- Nothing is listed ahead of what it waits for. -/
def Closed (md : Region.Mode) (ops : Array Oper) (listed : Array Bool) : Prop :=
  ∀ k ok, ops[k]? = some ok → listed.getD k false = true → ∀ e ∈ ok.after, Region.binds md e = true → listed.getD e.on false = true

theorem closed_none (n : Nat) : Closed md ops (Array.replicate n false) := fun k ok _ h => by
  simp [Array.getD] at h

theorem Closed.set {listed : Array Bool} {i : Nat} (h : Closed md ops listed) (hi : i ∈ Region.ready md ops listed) : Closed md ops (listed.setIfInBounds i true) := by
  intro k ok hk hl e he hb
  obtain ⟨_, oi, hoi, hall⟩ := mem_ready.1 hi
  by_cases hki : k = i
  · subst hki
    rw [hoi] at hk
    obtain rfl := Option.some.inj hk
    exact getD_set_true (hall e he hb)
  · rw [getD_set_ne false (Ne.symm hki)] at hl
    exact getD_set_true (h k ok hk hl e he hb)

/-- Number j waits for number i, by some way. -/
def reach (md : Region.Mode) (ops : Array Oper) (i : Nat) : Nat → Nat → Bool
  | 0, _ => false
  | n + 1, j => match ops[j]? with
    | some oj => oj.after.any fun e => Region.binds md e && (e.on == i || reach md ops i n e.on)
    | none => false

theorem reach_listed {listed : Array Bool} {i : Nat} (hc : Closed md ops listed) : ∀ (n j : Nat) (oj : Oper), ops[j]? = some oj → (∀ e ∈ oj.after, Region.binds md e = true → listed.getD e.on false = true) → reach md ops i n j = true → listed.getD i false = true
  | 0, _, _, _, _, h => by simp [reach] at h
  | n + 1, j, oj, hoj, hall, h => by
    simp only [reach, hoj] at h
    obtain ⟨e, he, hb⟩ := Array.any_eq_true'.1 h
    simp only [Bool.and_eq_true, Bool.or_eq_true, beq_iff_eq] at hb
    have hl := hall e he hb.1
    rcases hb.2 with h1 | h1
    · rw [← h1]; exact hl
    · cases n with
      | zero => simp [reach] at h1
      | succ n =>
        have h2 := h1
        unfold reach at h2
        cases ho : ops[e.on]? with
        | none => rw [ho] at h2; cases h2
        | some ok => exact reach_listed hc (n + 1) e.on ok ho (hc e.on ok ho hl) h1

theorem wpAnyT_first {X : Nat → Prop} {hd : Nat → Bool} {i : Nat} {oi : Oper} {v : Value} (hi : ops[i]? = some oi) (hsel : ∀ (j : Nat) (o : Oper) cs b, ops[j]? = some o → o.op ≠ .select cs b)
    (hQ : ∀ c a w, Q (.panic c) (a.put oi.dst v) w → Q (.panic c) a w) (htail : ∀ j, j < ops.size → hd j = false → j ≠ i → ∃ n, reach md ops i n j = true) :
    ∀ (fuel : Nat) (listed : Array Bool) (a : Act) (w : World), Closed md ops listed →
      (∀ j oj, ops[j]? = some oj → j ≠ i → listed.getD j true = false → (∀ e ∈ oj.after, Region.binds md e = true → e.on ≠ i) → oi.apart ops oj = true) →
      i ∈ Region.ready md ops listed → YieldsIf P ops (Below w.heap.size w) oi v a →
      wpAnyT P md ops Q X hd fuel (listed.setIfInBounds i true) (a.put oi.dst v) w → wpAnyT P md ops Q X hd (fuel + 1) listed a w := by
  intro fuel
  induction fuel with
  | zero =>
    intro listed a w _ _ hr hy H
    refine ⟨fun h => (by rw [h] at hr; cases hr), fun j hj => ?_⟩
    by_cases hji : j = i
    · subst hji; exact hy.wpOp hi (Below.refl _ _) ⟨fun _ => Below.refl _ _, BelowX.refl _ _ _, H⟩
    · have := ready_mono hj hji
      rw [H.1] at this
      cases this
  | succ fuel ih =>
    intro listed a w hcl hfree hr hy H
    refine ⟨fun h => (by rw [h] at hr; cases hr), fun j hj => ?_⟩
    by_cases hji : j = i
    · subst hji; exact hy.wpOp hi (Below.refl _ _) ⟨fun _ => Below.refl _ _, BelowX.refl _ _ _, H⟩
    · have h1 := H.2 j (ready_mono hj hji)
      obtain ⟨hjun, oj, hoj, hall⟩ := mem_ready.1 hj
      have hiun : listed.getD i false = false := by
        have h0 := (mem_ready.1 hr).1
        rcases Nat.lt_or_ge i listed.size with h' | h'
        · simp [h'] at h0 ⊢; exact h0
        · simp [Array.getElem?_eq_none h'] at h0
      have hnot : ∀ e ∈ oj.after, Region.binds md e = true → e.on ≠ i := fun e he hb heq => by
        have h1 := hall e he hb
        rw [heq, hiun] at h1
        cases h1
      have hhd : hd j = true := by
        cases hh : hd j with
        | true => rfl
        | false =>
          obtain ⟨n, hn⟩ := htail j (Array.getElem?_eq_some_iff.1 hoj).1 hh hji
          have := reach_listed hcl n j oj hoj hall hn
          rw [hiun] at this; cases this
      have h2 := wpOp_putIf hoj (hfree j oj hoj hji hjun hnot) (fun cs b => hsel i oi cs b hi) (fun cs b => hsel j oj cs b hoj) hQ hy h1
      have hfree' : ∀ k ok, ops[k]? = some ok → k ≠ i → (listed.setIfInBounds j true).getD k true = false →
          (∀ e ∈ ok.after, Region.binds md e = true → e.on ≠ i) → oi.apart ops ok = true := fun k ok hk hki hun hno => by
        refine hfree k ok hk hki ?_ hno
        by_cases hjk : j = k
        · subst hjk; exact hjun
        · rw [getD_set_ne true hjk] at hun; exact hun
      refine wpOp_mono (fun a' w' h3 => ?_) h2
      have hb := h3.2.1 hhd
      refine ⟨fun _ => hb, h3.2.2.1, ih (listed.setIfInBounds j true) a' w' (hcl.set hj) hfree' (ready_mono hr (Ne.symm hji)) ?_ ?_⟩
      · exact h3.1.imp (fun ⟨x, y⟩ => ⟨x, fun w'' hw'' => y w'' (hb.trans (hw''.mono hb.size))⟩) id
      · rw [Array.setIfInBounds_comm _ _ hji]
        exact h3.2.2.2

/-- An operation that looks at no memory may be taken first, whatever else writes. -/
theorem wpAnyT_pure {X : Nat → Prop} {hd : Nat → Bool} {i : Nat} {oi : Oper} {v : Value} (hi : ops[i]? = some oi) (hsel : ∀ (j : Nat) (o : Oper) cs b, ops[j]? = some o → o.op ≠ .select cs b)
    (hQ : ∀ c a w, Q (.panic c) (a.put oi.dst v) w → Q (.panic c) a w) :
    ∀ (fuel : Nat) (listed : Array Bool) (a : Act) (w : World),
      (∀ j oj, ops[j]? = some oj → j ≠ i → listed.getD j true = false → (∀ e ∈ oj.after, Region.binds md e = true → e.on ≠ i) → oi.apart ops oj = true) →
      i ∈ Region.ready md ops listed → Yields P ops oi v a →
      wpAnyT P md ops Q X hd fuel (listed.setIfInBounds i true) (a.put oi.dst v) w → wpAnyT P md ops Q X hd (fuel + 1) listed a w := by
  intro fuel
  induction fuel with
  | zero =>
    intro listed a w _ hr hy H
    refine ⟨fun h => (by rw [h] at hr; cases hr), fun j hj => ?_⟩
    by_cases hji : j = i
    · subst hji; exact hy.wpOp hi ⟨fun _ => Below.refl _ _, BelowX.refl _ _ _, H⟩
    · have := ready_mono hj hji
      rw [H.1] at this
      cases this
  | succ fuel ih =>
    intro listed a w hfree hr hy H
    refine ⟨fun h => (by rw [h] at hr; cases hr), fun j hj => ?_⟩
    by_cases hji : j = i
    · subst hji; exact hy.wpOp hi ⟨fun _ => Below.refl _ _, BelowX.refl _ _ _, H⟩
    · have h1 := H.2 j (ready_mono hj hji)
      obtain ⟨hjun, oj, hoj, hall⟩ := mem_ready.1 hj
      have hiun : listed.getD i false = false := by
        have h0 := (mem_ready.1 hr).1
        rcases Nat.lt_or_ge i listed.size with h' | h'
        · simp [h'] at h0 ⊢; exact h0
        · simp [Array.getElem?_eq_none h'] at h0
      have hnot : ∀ e ∈ oj.after, Region.binds md e = true → e.on ≠ i := fun e he hb heq => by
        have h1 := hall e he hb
        rw [heq, hiun] at h1
        cases h1
      have h2 := wpOp_put hoj (hfree j oj hoj hji hjun hnot) (fun cs b => hsel i oi cs b hi) (fun cs b => hsel j oj cs b hoj) hQ hy h1
      have hfree' : ∀ k ok, ops[k]? = some ok → k ≠ i → (listed.setIfInBounds j true).getD k true = false →
          (∀ e ∈ ok.after, Region.binds md e = true → e.on ≠ i) → oi.apart ops ok = true := fun k ok hk hki hun hno => by
        refine hfree k ok hk hki ?_ hno
        by_cases hjk : j = k
        · subst hjk; exact hjun
        · rw [getD_set_ne true hjk] at hun; exact hun
      refine wpOp_mono (fun a' w' h3 => ⟨h3.2.1, h3.2.2.1, ih (listed.setIfInBounds j true) a' w' hfree' (ready_mono hr (Ne.symm hji)) h3.1 ?_⟩) h2
      rw [Array.setIfInBounds_comm _ _ hji]
      exact h3.2.2.2

/-- An operation that looks at none of the blocks that the tail turns may be taken first. -/
theorem wpAnyT_beside {X : Nat → Prop} {hd : Nat → Bool} {i : Nat} {oi : Oper} {v : Value} (hi : ops[i]? = some oi) (hsel : ∀ (j : Nat) (o : Oper) cs b, ops[j]? = some o → o.op ≠ .select cs b)
    (hQ : ∀ c a w, Q (.panic c) (a.put oi.dst v) w → Q (.panic c) a w) :
    ∀ (fuel : Nat) (listed : Array Bool) (a : Act) (w : World),
      (∀ j oj, ops[j]? = some oj → j ≠ i → listed.getD j true = false → (∀ e ∈ oj.after, Region.binds md e = true → e.on ≠ i) → oi.apart ops oj = true) →
      i ∈ Region.ready md ops listed → YieldsIf P ops (BelowX X w.heap.size w) oi v a →
      wpAnyT P md ops Q X hd fuel (listed.setIfInBounds i true) (a.put oi.dst v) w → wpAnyT P md ops Q X hd (fuel + 1) listed a w := by
  intro fuel
  induction fuel with
  | zero =>
    intro listed a w _ hr hy H
    refine ⟨fun h => (by rw [h] at hr; cases hr), fun j hj => ?_⟩
    by_cases hji : j = i
    · subst hji; exact hy.wpOp hi (BelowX.refl _ _ _) ⟨fun _ => Below.refl _ _, BelowX.refl _ _ _, H⟩
    · have := ready_mono hj hji
      rw [H.1] at this
      cases this
  | succ fuel ih =>
    intro listed a w hfree hr hy H
    refine ⟨fun h => (by rw [h] at hr; cases hr), fun j hj => ?_⟩
    by_cases hji : j = i
    · subst hji; exact hy.wpOp hi (BelowX.refl _ _ _) ⟨fun _ => Below.refl _ _, BelowX.refl _ _ _, H⟩
    · have h1 := H.2 j (ready_mono hj hji)
      obtain ⟨hjun, oj, hoj, hall⟩ := mem_ready.1 hj
      have hiun : listed.getD i false = false := by
        have h0 := (mem_ready.1 hr).1
        rcases Nat.lt_or_ge i listed.size with h' | h'
        · simp [h'] at h0 ⊢; exact h0
        · simp [Array.getElem?_eq_none h'] at h0
      have hnot : ∀ e ∈ oj.after, Region.binds md e = true → e.on ≠ i := fun e he hb heq => by
        have h1 := hall e he hb
        rw [heq, hiun] at h1
        cases h1
      have h2 := wpOp_putIf hoj (hfree j oj hoj hji hjun hnot) (fun cs b => hsel i oi cs b hi) (fun cs b => hsel j oj cs b hoj) hQ hy h1
      have hfree' : ∀ k ok, ops[k]? = some ok → k ≠ i → (listed.setIfInBounds j true).getD k true = false →
          (∀ e ∈ ok.after, Region.binds md e = true → e.on ≠ i) → oi.apart ops ok = true := fun k ok hk hki hun hno => by
        refine hfree k ok hk hki ?_ hno
        by_cases hjk : j = k
        · subst hjk; exact hjun
        · rw [getD_set_ne true hjk] at hun; exact hun
      refine wpOp_mono (fun a' w' h3 => ?_) h2
      have hb := h3.2.2.1
      refine ⟨h3.2.1, hb, ih (listed.setIfInBounds j true) a' w' hfree' (ready_mono hr (Ne.symm hji)) ?_ ?_⟩
      · exact h3.1.imp (fun ⟨x, y⟩ => ⟨x, fun w'' hw'' => y w'' (hb.trans hw'')⟩) id
      · rw [Array.setIfInBounds_comm _ _ hji]
        exact h3.2.2.2

/-- A plan: quiet operations in an order of ours; a loud one where it is the only one that may come; two loud ones, each first; in the end the tail, in the one order there is. -/
inductive Plan where
  | tail (tl : List Nat)
  | q (i : Nat) (p : Plan)
  | u (i : Nat) (p : Plan)
  | x (i : Nat) (p : Plan)
  | l (i : Nat) (p : Plan)
  | s (i : Nat) (p : Plan) (j : Nat) (p2 : Plan)

def Plan.size : Plan → Nat
  | .tail tl => tl.length
  | .q _ p | .u _ p | .x _ p | .l _ p => p.size + 1
  | .s _ p _ p2 => max p.size p2.size + 1

def planTail (md : Region.Mode) (ops : Array Oper) (hd : Nat → Bool) : List Nat → Array Bool → Bool
  | [], listed => Region.ready md ops listed == []
  | i :: l, listed => !hd i && Region.ready md ops listed == [i] && planTail md ops hd l (listed.setIfInBounds i true)

def Plan.ok (md : Region.Mode) (ops : Array Oper) (tl : List Nat) (hd : Nat → Bool) : Plan → Array Bool → Bool
  | .tail t, listed => planTail md ops hd t listed
  | .q i p, listed => Region.free md ops listed i && (Region.ready md ops listed).contains i && (tl.all fun j => j == i || reach md ops i ops.size j) && p.ok md ops tl hd (listed.setIfInBounds i true)
  | .u i p, listed => Region.free md ops listed i && (Region.ready md ops listed).contains i && p.ok md ops tl hd (listed.setIfInBounds i true)
  | .x i p, listed => Region.free md ops listed i && (Region.ready md ops listed).contains i && p.ok md ops tl hd (listed.setIfInBounds i true)
  | .l i p, listed => Region.ready md ops listed == [i] && p.ok md ops tl hd (listed.setIfInBounds i true)
  | .s i p j p2, listed => Region.ready md ops listed == [i, j] && p.ok md ops tl hd (listed.setIfInBounds i true) && p2.ok md ops tl hd (listed.setIfInBounds j true)

def wpTail (P : Program) (ops : Array Oper) (X : Nat → Prop) (Q : Exit → Act → World → Prop) : List Nat → Act → World → Prop
  | [], a, w => Q .normal a w
  | i :: l, a, w => wpOp P ops Q i (fun a' w' => BelowX X w.heap.size w w' ∧ wpTail P ops X Q l a' w') a w

def wpPlan (P : Program) (ops : Array Oper) (X : Nat → Prop) (Q : Exit → Act → World → Prop) : Plan → Act → World → Prop
  | .tail t, a, w => wpTail P ops X Q t a w
  | .q i p, a, w => ∃ o v, ops[i]? = some o ∧ YieldsIf P ops (Below w.heap.size w) o v a ∧ wpPlan P ops X Q p (a.put o.dst v) w
  | .u i p, a, w => ∃ o v, ops[i]? = some o ∧ Yields P ops o v a ∧ wpPlan P ops X Q p (a.put o.dst v) w
  | .x i p, a, w => ∃ o v, ops[i]? = some o ∧ YieldsIf P ops (BelowX X w.heap.size w) o v a ∧ wpPlan P ops X Q p (a.put o.dst v) w
  | .l i p, a, w => wpOp P ops Q i (fun a' w' => Below w.heap.size w w' ∧ wpPlan P ops X Q p a' w') a w
  | .s i p j p2, a, w => wpOp P ops Q i (fun a' w' => Below w.heap.size w w' ∧ wpPlan P ops X Q p a' w') a w ∧ wpOp P ops Q j (fun a' w' => Below w.heap.size w w' ∧ wpPlan P ops X Q p2 a' w') a w

theorem wpTail_sound {X : Nat → Prop} {hd : Nat → Bool} : ∀ (tl : List Nat) (listed : Array Bool) (fuel : Nat), tl.length ≤ fuel → planTail md ops hd tl listed = true →
    ∀ a w, wpTail P ops X Q tl a w → wpAnyT P md ops Q X hd fuel listed a w
  | [], listed, fuel, _, hp, a, w, h => by
    simp only [planTail, beq_iff_eq] at hp
    cases fuel with
    | zero => exact ⟨hp, h⟩
    | succ n => exact ⟨fun _ => h, by rw [hp]; simp⟩
  | i :: l, listed, 0, hf, _, _, _, _ => by simp at hf
  | i :: l, listed, fuel + 1, hf, hp, a, w, h => by
    simp only [planTail, Bool.and_eq_true, beq_iff_eq, Bool.not_eq_true'] at hp
    obtain ⟨⟨hi, hr⟩, hp⟩ := hp
    refine ⟨fun h0 => ?_, fun j hj => ?_⟩
    · rw [hr] at h0; cases h0
    · rw [hr] at hj
      obtain rfl : j = i := by simpa using hj
      refine wpOp_mono (fun a' w' h' => ⟨fun hh => (by rw [hi] at hh; cases hh), h'.1, ?_⟩) h
      exact wpTail_sound l _ fuel (by simpa using hf) hp a' w' h'.2

theorem wpPlan_sound {X : Nat → Prop} {hd : Nat → Bool} {tl : List Nat} (hs : Region.noSelect ops = true) (hQ : ∀ (o : Oper) (v : Value) c a w, Q (.panic c) (a.put o.dst v) w → Q (.panic c) a w)
    (htl : ∀ j, j < ops.size → hd j = false → j ∈ tl) :
    ∀ (p : Plan) (listed : Array Bool) (fuel : Nat), p.size ≤ fuel → Closed md ops listed → p.ok md ops tl hd listed = true → ∀ a w, wpPlan P ops X Q p a w → wpAnyT P md ops Q X hd fuel listed a w
  | .tail t, listed, fuel, hf, _, hp, a, w, h => wpTail_sound t listed fuel hf hp a w h
  | .q i p, listed, 0, hf, _, _, _, _, _ => by simp [Plan.size] at hf
  | .q i p, listed, fuel + 1, hf, hc, hp, a, w, h => by
    obtain ⟨o, v, ho, hy, h⟩ := h
    simp only [Plan.ok, Bool.and_eq_true] at hp
    obtain ⟨⟨⟨hfree, hready⟩, hreach⟩, hp⟩ := hp
    have hready : i ∈ Region.ready md ops listed := by simpa using hready
    refine wpAnyT_first ho (Region.noSelect_spec hs) (hQ o v) ?_ _ listed a w hc (Region.free_spec ho hfree) hready hy ?_
    · intro j hj hjf hji
      have := List.all_eq_true.1 hreach j (htl j hj hjf)
      simp only [Bool.or_eq_true, beq_iff_eq, hji, false_or] at this
      exact ⟨_, this⟩
    · exact wpPlan_sound hs hQ htl p _ fuel (by simpa [Plan.size] using hf) (hc.set hready) hp _ _ h
  | .u i p, listed, 0, hf, _, _, _, _, _ => by simp [Plan.size] at hf
  | .u i p, listed, fuel + 1, hf, hc, hp, a, w, h => by
    obtain ⟨o, v, ho, hy, h⟩ := h
    simp only [Plan.ok, Bool.and_eq_true] at hp
    obtain ⟨⟨hfree, hready⟩, hp⟩ := hp
    have hready : i ∈ Region.ready md ops listed := by simpa using hready
    refine wpAnyT_pure ho (Region.noSelect_spec hs) (hQ o v) _ listed a w (Region.free_spec ho hfree) hready hy ?_
    exact wpPlan_sound hs hQ htl p _ fuel (by simpa [Plan.size] using hf) (hc.set hready) hp _ _ h
  | .x i p, listed, 0, hf, _, _, _, _, _ => by simp [Plan.size] at hf
  | .x i p, listed, fuel + 1, hf, hc, hp, a, w, h => by
    obtain ⟨o, v, ho, hy, h⟩ := h
    simp only [Plan.ok, Bool.and_eq_true] at hp
    obtain ⟨⟨hfree, hready⟩, hp⟩ := hp
    have hready : i ∈ Region.ready md ops listed := by simpa using hready
    refine wpAnyT_beside ho (Region.noSelect_spec hs) (hQ o v) _ listed a w (Region.free_spec ho hfree) hready hy ?_
    exact wpPlan_sound hs hQ htl p _ fuel (by simpa [Plan.size] using hf) (hc.set hready) hp _ _ h
  | .l i p, listed, 0, hf, _, _, _, _, _ => by simp [Plan.size] at hf
  | .l i p, listed, fuel + 1, hf, hc, hp, a, w, h => by
    simp only [Plan.ok, Bool.and_eq_true, beq_iff_eq] at hp
    refine ⟨fun h0 => (by rw [hp.1] at h0; cases h0), fun j hj => ?_⟩
    have hc' := hc.set hj
    rw [hp.1] at hj
    obtain rfl : j = i := by simpa using hj
    refine wpOp_mono (fun a' w' h' => ⟨fun _ => h'.1, .of h'.1, ?_⟩) h
    exact wpPlan_sound hs hQ htl p _ fuel (by simpa [Plan.size] using hf) hc' hp.2 _ _ h'.2
  | .s i p j p2, listed, 0, hf, _, _, _, _, _ => by simp [Plan.size] at hf
  | .s i p j p2, listed, fuel + 1, hf, hc, hp, a, w, h => by
    simp only [Plan.ok, Bool.and_eq_true, beq_iff_eq] at hp
    obtain ⟨⟨hr, hpi⟩, hpj⟩ := hp
    have hfi : p.size ≤ fuel := by simp [Plan.size] at hf; omega
    have hfj : p2.size ≤ fuel := by simp [Plan.size] at hf; omega
    refine ⟨fun h0 => (by rw [hr] at h0; cases h0), fun k hk => ?_⟩
    have hc' := hc.set hk
    rw [hr] at hk
    simp only [List.mem_cons, List.not_mem_nil, or_false] at hk
    rcases hk with rfl | rfl
    · exact wpOp_mono (fun a' w' h' => ⟨fun _ => h'.1, .of h'.1, wpPlan_sound hs hQ htl p _ fuel hfi hc' hpi _ _ h'.2⟩) h.1
    · exact wpOp_mono (fun a' w' h' => ⟨fun _ => h'.1, .of h'.1, wpPlan_sound hs hQ htl p2 _ fuel hfj hc' hpj _ _ h'.2⟩) h.2

def planOk (md : Region.Mode) (ops : Array Oper) (tl : List Nat) (p : Plan) : Bool :=
  Region.noSelect ops && Nat.ble p.size ops.size && p.ok md ops tl (fun j => !tl.contains j) (Array.replicate ops.size false)

/-- A region that draws, by a plan. -/
theorem wp_region_plan {X : Nat → Prop} {id : Nat} {a : Act} {w : World} (tl : List Nat) (p : Plan) (hm : P.follows .mixedOrders = true)
    (hp : planOk .any ops tl p = true) (hQ : ∀ (o : Oper) (v : Value) c a w, Q (.panic c) (a.put o.dst v) w → Q (.panic c) a w)
    (h : wpPlan P ops X Q p a { w with drawn := w.drawn + 1 }) : (Code.region id ops true).wp P Q a w := by
  unfold planOk at hp
  simp only [Bool.and_eq_true] at hp
  obtain ⟨⟨hs, hsz⟩, hpl⟩ := hp
  refine wp_region_any hm (wpAny_of_T (X := X) (hd := fun j => !tl.contains j) _ _ _ _ ?_)
  exact wpPlan_sound (tl := tl) hs hQ (fun j _ hj => by simpa using hj) p _ _ (Nat.le_of_ble_eq_true hsz) (closed_none _) hpl _ _ h
end plan
end Go.Cw
