/- The rules: code, regions, loops; operations that leave the world alone. Conditions: none; no program is named. -/
import Derived.Test.YtcckclbpajegnaaCwB
import Derived.Deep.RegionHeld3
import Derived.Laws.Small
set_option linter.all false
set_option linter.unusedVariables false
set_option linter.unusedSimpArgs false
namespace Go.Cw
open Go Go.RowKit

abbrev Post0 := Exit → Act → World → Prop

def GC (cx : Cx) (Q : Post0) (env : Env) (fs : List Fact) (os : List Own) (c : Code) : Prop := ∀ a w m, St cx env fs os a w m → c.wp cx.P Q a w
def GL (cx : Cx) (ops : Array Oper) (Q : Post0) (env : Env) (fs : List Fact) (os : List Own) (l : List Oper) : Prop := ∀ a w m, St cx env fs os a w m → wpList cx.P ops Q l a w
def GH (cx : Cx) (X : Nat → Prop) (ops : Array Oper) (Q : Post0) (env : Env) (fs : List Fact) (os : List Own) (p : Plan) : Prop :=
  ∀ a w m, St cx env fs os a w m → wpPlan cx.P ops X Q p a w
/-- A loop's head, met again. -/
def LoopW (P : Program) (c : Code) (Q : Post0) (a : Act) (w : World) : Prop :=
  ∀ (b : Frame) (k : List Item) (cs : List Frame), ∃ e a' w', Q e a' w' ∧ Arrives P (lone (b.at a (.code c :: .inLoop c :: k)) cs w) b k cs e a' w'

theorem LoopW.round {P : Program} {c : Code} {Q : Post0} {a : Act} {w : World} (h : c.wp P (Exit.then (LoopW P c Q) Q) a w) : LoopW P c Q a w := by
  intro b k cs
  obtain ⟨e, a₁, w₁, hq, harr⟩ := h b (.inLoop c :: k) cs
  cases e with
  | normal =>
    obtain ⟨e₂, a₂, w₂, hq₂, harr₂⟩ := hq b k cs
    exact ⟨e₂, a₂, w₂, hq₂, .of_steps (Steps.trans harr (.one step_inLoop)) harr₂⟩
  | exit id => exact ⟨_, a₁, w₁, hq, .pass (x := .inLoop c) rfl (fun _ _ => .inl (by simp)) harr⟩
  | goto l => exact ⟨_, a₁, w₁, hq, .pass (x := .inLoop c) rfl (fun _ _ => .inl (by simp)) harr⟩
  | ret => exact ⟨_, a₁, w₁, hq, .pass (x := .inLoop c) rfl (fun _ _ => .inl (by simp)) harr⟩
  | panic ch => exact ⟨_, a₁, w₁, hq, .pass (x := .inLoop c) rfl (fun _ _ => .inl (by simp)) harr⟩
  | outgrown => exact ⟨_, a₁, w₁, hq, .pass (x := .inLoop c) rfl (fun _ _ => .inl (by simp)) harr⟩

theorem LoopW.loop {P : Program} {c : Code} {Q : Post0} {a : Act} {w : World} (h : LoopW P c Q a w) : (Code.loop c).wp P Q a w := by
  intro b k cs
  obtain ⟨e, a', w', hq, harr⟩ := h b k cs
  exact ⟨e, a', w', hq, .of_steps (.one step_loop) harr⟩

/-- A loop's head. -/
def GLoop (cx : Cx) (Q : Post0) (env : Env) (fs : List Fact) (os : List Own) (c : Code) : Prop := ∀ a w m, St cx env fs os a w m → LoopW cx.P c Q a w

section code
variable {cx : Cx} {Q : Post0} {env : Env} {fs : List Fact} {os : List Own}

theorem GC.weaken {env' : Env} {fs' : List Fact} {os' : List Own} {c : Code} (h : GC cx Q env' fs' os' c) (he : SubE env' env) (hf : SubF fs' fs) (is : List Nat) (hn : is.Nodup) (ho : SubO is os' os) : GC cx Q env fs os c :=
  fun a w m hs => h a w m (hs.weaken he hf is hn ho)
theorem GLoop.weaken {env' : Env} {fs' : List Fact} {os' : List Own} {c : Code} (h : GLoop cx Q env' fs' os' c) (he : SubE env' env) (hf : SubF fs' fs) (is : List Nat) (hn : is.Nodup) (ho : SubO is os' os) : GLoop cx Q env fs os c :=
  fun a w m hs => h a w m (hs.weaken he hf is hn ho)

theorem GC.seq {x y : Code} (h : GC cx (Exit.then (y.wp cx.P Q) Q) env fs os x) : GC cx Q env fs os (.seq x y) := fun a w m hs => wp_seq (h a w m hs)
theorem GC.block {id : Nat} {c : Code} (h : GC cx (Exit.inBlock id Q) env fs os c) : GC cx Q env fs os (.block id c) := fun a w m hs => wp_block (h a w m hs)
theorem GC.loop {c : Code} (h : GLoop cx Q env fs os c) : GC cx Q env fs os (.loop c) := fun a w m hs => (h a w m hs).loop
theorem GLoop.round {c : Code} (h : GC cx (Exit.then (LoopW cx.P c Q) Q) env fs os c) : GLoop cx Q env fs os c := fun a w m hs => LoopW.round (h a w m hs)
theorem GC.skip (h : ∀ a w m, St cx env fs os a w m → Q .normal a w) : GC cx Q env fs os .skip := fun a w m hs => wp_skip (h a w m hs)
theorem GC.ret (h : ∀ a w m, St cx env fs os a w m → Q .ret a w) : GC cx Q env fs os .ret := fun a w m hs => wp_ret (h a w m hs)
theorem GC.exit {id : Nat} (h : ∀ a w m, St cx env fs os a w m → Q (.exit id) a w) : GC cx Q env fs os (.exit id) := fun a w m hs => wp_exit (h a w m hs)
theorem GC.region {id : Nat} {l : List Oper} (h : GL cx l.toArray Q env fs os l) : GC cx Q env fs os (.region id l.toArray false) := fun a w m hs => wp_region_lit (h a w m hs)

theorem St.drewn {a : Act} {w : World} {m : WM} (h : St cx env fs os a w m) : St cx env fs os a { w with drawn := w.drawn + 1 } m :=
  h.grow ⟨rfl, rfl, rfl, Nat.le_refl _, fun _ _ => rfl⟩ (fun _ _ => rfl) h.fresh

theorem GC.draw {id : Nat} {ops : Array Oper} (X : Nat → Prop) (tl : List Nat) (p : Plan) (hm : cx.P.follows .mixedOrders = true) (hp : planOk .any ops tl p = true)
    (h : GH cx X ops (NoPanic Q) env fs os p) : GC cx Q env fs os (.region id ops true) :=
  fun a w m hs => wp_region_noPanic (wp_region_plan tl p hm hp (fun _ _ _ _ _ h => h.elim) (h a _ m hs.drewn))

theorem GL.nil {ops : Array Oper} (h : ∀ a w m, St cx env fs os a w m → Q .normal a w) : GL cx ops Q env fs os [] := fun a w m hs => h a w m hs

theorem GL.nilS {ops : Array Oper} {y : Code} (h : GC cx Q env fs os y) : GL cx ops (Exit.then (y.wp cx.P Q) Q) env fs os [] := fun a w m hs => h a w m hs
theorem GL.nilN {ops : Array Oper} {y : Code} (h : GC cx Q env fs os y) : GL cx ops (NoPanic (Exit.then (y.wp cx.P Q) Q)) env fs os [] := fun a w m hs => h a w m hs
theorem GC.skipS {y : Code} (h : GC cx Q env fs os y) : GC cx (Exit.then (y.wp cx.P Q) Q) env fs os .skip := fun a w m hs => wp_skip (h a w m hs)
/-- What comes next, whatever stands between. -/
theorem GL.nilK {ops : Array Oper} {c : Code} {Q2 : Post0} (hQ : ∀ a w, Q .normal a w = c.wp cx.P Q2 a w) (h : GC cx Q2 env fs os c) : GL cx ops Q env fs os [] := fun a w m hs => by
  show Q .normal a w
  rw [hQ]
  exact h a w m hs
theorem GC.skipK {c : Code} {Q2 : Post0} (hQ : ∀ a w, Q .normal a w = c.wp cx.P Q2 a w) (h : GC cx Q2 env fs os c) : GC cx Q env fs os .skip := fun a w m hs => wp_skip (by rw [hQ]; exact h a w m hs)
theorem GC.exitK {id : Nat} {c : Code} {Q2 : Post0} (hQ : ∀ a w, Q (.exit id) a w = c.wp cx.P Q2 a w) (h : GC cx Q2 env fs os c) : GC cx Q env fs os (.exit id) := fun a w m hs => wp_exit (by rw [hQ]; exact h a w m hs)
theorem GL.nilL {ops : Array Oper} {c : Code} (h : GLoop cx Q env fs os c) : GL cx ops (Exit.then (LoopW cx.P c Q) Q) env fs os [] := fun a w m hs => h a w m hs

def ev (env : Env) : Operand → Option (Bool × Value)
  | .tmp t => look env t
  | .const v => some (true, v)
  | .func f => some (true, .func (.func f) #[] #[])
  | .global g => some (true, .pointer (some ⟨g, 0, none⟩))

theorem St.ev {a : Act} {w : World} {m : WM} (h : St cx env fs os a w m) {x : Operand} {g : Bool} {v : Value} (he : Cw.ev env x = some (g, v)) (hg : g = true) : a.eval x = v := by
  cases x with
  | tmp t =>
    have := h.sees t g v he
    rw [hg] at this
    exact this
  | const u => simp only [Cw.ev, Option.some.injEq, Prod.mk.injEq] at he; exact he.2
  | func f => simp only [Cw.ev, Option.some.injEq, Prod.mk.injEq] at he; exact he.2
  | global f => simp only [Cw.ev, Option.some.injEq, Prod.mk.injEq] at he; exact he.2

/-- A test. -/
theorem GC.cond {c : Operand} {x y : Code} {b : Bool} (hc : Cw.ev env c = some (true, .bool b)) (ht : b = true → GC cx Q env fs os x) (hf : b = false → GC cx Q env fs os y) : GC cx Q env fs os (.cond c x y) :=
  fun a w m hs => wp_cond_split (hs.ev hc rfl) (fun h => ht h a w m hs) (fun h => hf h a w m hs)

/-! ### Operations that leave the world alone -/

/-- It gives this value, in every world in which all that stands stands as it does. -/
def QE (cx : Cx) (X : Nat → Prop) (env : Env) (fs : List Fact) (os : List Own) (g : Bool) (op : Op) (T : TypeId) (v : Value) : Prop :=
  ∀ a w m, St cx env fs os a w m → g = true → ∀ w', BelowX X w.heap.size w w' → ∀ d pos af gd, (execOp a.eval ⟨d, op, T, pos, af, gd⟩).run cx.P w' = .ok (.value v) w'

/-- It gives one of these values, of which a fact holds. -/
def QX (cx : Cx) (X : Nat → Prop) (env : Env) (fs : List Fact) (os : List Own) (g : Bool) (op : Op) (T : TypeId) {ι : Type} (v : ι → Value) (f : ι → Fact) : Prop :=
  ∀ a w m, St cx env fs os a w m → ∃ i, (g = true → ∀ w', BelowX X w.heap.size w w' → ∀ d pos af gd, (execOp a.eval ⟨d, op, T, pos, af, gd⟩).run cx.P w' = .ok (.value (v i)) w') ∧ (f i).p m w

def wnt (c want : Bool) : Bool := bif want then c else !c

/-- Whether a guard lets an operation run. -/
def Gd (env : Env) (ops : Array Oper) : Option (Nat × Bool) → Bool → Prop
  | none, g => g = true
  | some (j, want), g => ∃ t gj c, (ops[j]?).bind (·.dst) = some t ∧ look env t = some (gj, .bool c) ∧ g = (gj && wnt c want)

theorem Gd.is {ops : Array Oper} {o : Oper} {g : Bool} (h : Gd env ops o.guard g) {a : Act} {w : World} {m : WM} (hs : St cx env fs os a w m) : Region.wanted o (yielded ops a.tmps) = g := by
  unfold Gd at h
  unfold Region.wanted
  cases hg : o.guard with
  | none => rw [hg] at h; exact h.symm
  | some p =>
    obtain ⟨j, want⟩ := p
    rw [hg] at h
    obtain ⟨t, gj, c, ht, hl, rfl⟩ := h
    have h1 := hs.sees t gj _ hl
    simp only [yielded, ht, Option.bind_some]
    cases gj with
    | false =>
      simp only [cond_false] at h1
      rw [Array.getD_eq_getD_getElem?] at h1
      cases h2 : a.tmps[t]? with
      | none => cases want <;> simp
      | some u =>
        rw [h2] at h1
        simp only [Option.getD_some] at h1
        subst h1
        cases want <;> simp [undef]
    | true =>
      simp only [cond_true] at h1
      rw [Array.getD_eq_getD_getElem?] at h1
      cases h2 : a.tmps[t]? with
      | none => rw [h2] at h1; simp [undef] at h1
      | some u =>
        rw [h2] at h1
        simp only [Option.getD_some] at h1
        subst h1
        cases want <;> cases c <;> rfl

theorem execOp_value {P : Program} {o : Oper} {a : Act} {w : World} {K : Act → World → Prop} {v : Value} (h : (execOp a.eval o).run P w = .ok (.value v) w) (hK : K (a.put o.dst v) w) : o.wp P a w K Q := by
  unfold Oper.wp
  rw [h]
  exact hK

/-- In a list: an operation without a guard. -/
theorem GL.u {ops : Array Oper} {d : Tmp} {op : Op} {T : TypeId} {pos : String} {af : Array Edge} {l : List Oper} {v : Value} (hq : QE cx (fun _ => False) env fs os true op T v)
    (hd : Nat.blt d cx.n = true) (h : GL cx ops Q ((d, true, v) :: env) fs os l) : GL cx ops Q env fs os (⟨some d, op, T, pos, af, none⟩ :: l) := by
  intro a w m hs
  refine wpList_plain rfl fun K hK => ?_
  exact execOp_value (hq a w m hs rfl w (BelowX.refl _ _ _) _ _ _ _) (hK _ _ (h _ _ _ (hs.put hd rfl)))

theorem GL.g {ops : Array Oper} {d : Tmp} {op : Op} {T : TypeId} {pos : String} {af : Array Edge} {gd : Option (Nat × Bool)} {l : List Oper} {g : Bool} {v : Value} (hgd : Gd env ops gd g) (hq : QE cx (fun _ => False) env fs os g op T v)
    (hd : Nat.blt d cx.n = true) (h : GL cx ops Q ((d, g, v) :: env) fs os l) : GL cx ops Q env fs os (⟨some d, op, T, pos, af, gd⟩ :: l) := by
  intro a w m hs
  have hw := Gd.is (o := ⟨some d, op, T, pos, af, gd⟩) hgd hs
  refine wpList_step fun K hK => ?_
  rw [hw]
  split
  · rename_i hg
    exact execOp_value (hq a w m hs hg w (BelowX.refl _ _ _) _ _ _ _) (hK _ _ (h _ _ _ (hs.put hd (by rw [hg]; rfl))))
  · rename_i hg
    exact hK _ _ (h _ _ _ (hs.put hd (by simp [hg])))

theorem GL.ux {ops : Array Oper} {d : Tmp} {op : Op} {T : TypeId} {pos : String} {af : Array Edge} {l : List Oper} {ι : Type} {v : ι → Value} {f : ι → Fact} (hq : QX cx (fun _ => False) env fs os true op T v f)
    (hd : Nat.blt d cx.n = true) (h : ∀ i, GL cx ops Q ((d, true, v i) :: env) (f i :: fs) os l) : GL cx ops Q env fs os (⟨some d, op, T, pos, af, none⟩ :: l) := by
  intro a w m hs
  obtain ⟨i, hr, hf⟩ := hq a w m hs
  refine wpList_plain rfl fun K hK => ?_
  exact execOp_value (hr rfl w (BelowX.refl _ _ _) _ _ _ _) (hK _ _ (h i _ _ _ ((hs.put hd rfl).addFact hf)))

theorem GL.gx {ops : Array Oper} {d : Tmp} {op : Op} {T : TypeId} {pos : String} {af : Array Edge} {gd : Option (Nat × Bool)} {l : List Oper} {g : Bool} {ι : Type} {v : ι → Value} {f : ι → Fact} (hgd : Gd env ops gd g) (hq : QX cx (fun _ => False) env fs os g op T v f)
    (hd : Nat.blt d cx.n = true) (h : ∀ i, GL cx ops Q ((d, g, v i) :: env) (f i :: fs) os l) : GL cx ops Q env fs os (⟨some d, op, T, pos, af, gd⟩ :: l) := by
  intro a w m hs
  have hw := Gd.is (o := ⟨some d, op, T, pos, af, gd⟩) hgd hs
  obtain ⟨i, hr, hf⟩ := hq a w m hs
  refine wpList_step fun K hK => ?_
  rw [hw]
  split
  · rename_i hg
    exact execOp_value (hr hg w (BelowX.refl _ _ _) _ _ _ _) (hK _ _ (h i _ _ _ ((hs.put hd (by rw [hg]; rfl)).addFact hf)))
  · rename_i hg
    exact hK _ _ (h i _ _ _ ((hs.put hd (by simp [hg])).addFact hf))

/-- In a plan's head. -/
theorem GH.g {X : Nat → Prop} {ops : Array Oper} {i : Nat} {d : Tmp} {op : Op} {T : TypeId} {pos : String} {af : Array Edge} {gd : Option (Nat × Bool)} {p : Plan} {g : Bool} {v : Value}
    (ho : ops[i]? = some ⟨some d, op, T, pos, af, gd⟩) (hgd : Gd env ops gd g) (hq : QE cx (fun _ => False) env fs os g op T v)
    (hd : Nat.blt d cx.n = true) (h : GH cx X ops Q ((d, g, v) :: env) fs os p) : GH cx X ops Q env fs os (.q i p) := by
  intro a w m hs
  have hw := Gd.is (o := ⟨some d, op, T, pos, af, gd⟩) hgd hs
  refine ⟨_, bif g then v else undef, ho, ?_, h _ _ _ (hs.put hd rfl)⟩
  cases hg : g with
  | true => exact .inl ⟨by rw [hw, hg], fun w' hw' => hq a w m hs hg w' (.of hw') _ _ _ _⟩
  | false => exact .inr ⟨by rw [hw, hg], rfl⟩

theorem GH.gx {X : Nat → Prop} {ops : Array Oper} {i : Nat} {d : Tmp} {op : Op} {T : TypeId} {pos : String} {af : Array Edge} {gd : Option (Nat × Bool)} {p : Plan} {g : Bool} {ι : Type} {v : ι → Value} {f : ι → Fact}
    (ho : ops[i]? = some ⟨some d, op, T, pos, af, gd⟩) (hgd : Gd env ops gd g) (hq : QX cx (fun _ => False) env fs os g op T v f)
    (hd : Nat.blt d cx.n = true) (h : ∀ j, GH cx X ops Q ((d, g, v j) :: env) (f j :: fs) os p) : GH cx X ops Q env fs os (.q i p) := by
  intro a w m hs
  have hw := Gd.is (o := ⟨some d, op, T, pos, af, gd⟩) hgd hs
  obtain ⟨j, hr, hf⟩ := hq a w m hs
  refine ⟨_, bif g then v j else undef, ho, ?_, h j _ _ _ ((hs.put hd rfl).addFact hf)⟩
  cases hg : g with
  | true => exact .inl ⟨by rw [hw, hg], fun w' hw' => hr hg w' (.of hw') _ _ _ _⟩
  | false => exact .inr ⟨by rw [hw, hg], rfl⟩

/-! ### Operations that change the world -/

/-- Behind it one of these states; with 'B' all that stood stands. -/
def LX (cx : Cx) (env : Env) (fs : List Fact) (os : List Own) (g : Bool) (Xs : Nat → Prop) (dst : Option Tmp) (op : Op) (T : TypeId) {ι : Type} (env' : ι → Env) (fs' : ι → List Fact) (os' : ι → List Own) : Prop :=
  ∀ a w m, St cx env fs os a w m → ∀ (Q : Post0) (K : Act → World → Prop), (∀ i a' w' m', St cx (env' i) (fs' i) (os' i) a' w' m' → BelowX Xs w.heap.size w w' → K a' w') →
    ∀ pos af gd, if g = true then Oper.wp cx.P ⟨dst, op, T, pos, af, gd⟩ a w K Q else K (a.put dst undef) w

theorem GL.l {ops : Array Oper} {dst : Option Tmp} {op : Op} {T : TypeId} {pos : String} {af : Array Edge} {gd : Option (Nat × Bool)} {l : List Oper} {g : Bool} {Xs : Nat → Prop} {ι : Type} {env' : ι → Env} {fs' : ι → List Fact} {os' : ι → List Own}
    (hgd : Gd env ops gd g) (hq : LX cx env fs os g Xs dst op T env' fs' os') (h : ∀ i, GL cx ops Q (env' i) (fs' i) (os' i) l) : GL cx ops Q env fs os (⟨dst, op, T, pos, af, gd⟩ :: l) := by
  intro a w m hs
  have hw := Gd.is (o := ⟨dst, op, T, pos, af, gd⟩) hgd hs
  refine wpList_step fun K hK => ?_
  rw [hw]
  exact hq a w m hs Q K (fun i a' w' m' hs' _ => hK _ _ (h i a' w' m' hs')) pos af gd

theorem lx_op {X : Nat → Prop} {ops : Array Oper} {i : Nat} {dst : Option Tmp} {op : Op} {T : TypeId} {pos : String} {af : Array Edge} {gd : Option (Nat × Bool)} {p : Plan} {g : Bool} {Xs : Nat → Prop} {ι : Type} {env' : ι → Env} {fs' : ι → List Fact} {os' : ι → List Own}
    (ho : ops[i]? = some ⟨dst, op, T, pos, af, gd⟩) (hgd : Gd env ops gd g) (hq : LX cx env fs os g Xs dst op T env' fs' os') (h : ∀ j, GH cx X ops Q (env' j) (fs' j) (os' j) p) (hX : ∀ b, ¬ Xs b) {a : Act} {w : World} {m : WM} (hs : St cx env fs os a w m) :
    wpOp cx.P ops Q i (fun a' w' => Below w.heap.size w w' ∧ wpPlan cx.P ops X Q p a' w') a w := by
  have hw := Gd.is (o := ⟨dst, op, T, pos, af, gd⟩) hgd hs
  have := hq a w m hs Q (fun a' w' => Below w.heap.size w w' ∧ wpPlan cx.P ops X Q p a' w') (fun j a' w' m' hs' hb => ⟨hb.none hX, h j a' w' m' hs'⟩) pos af gd
  unfold wpOp
  simp only [ho, hw]
  split
  · rename_i hg; rw [if_pos hg] at this; exact .inl this
  · rename_i hg; rw [if_neg hg] at this; exact this

theorem GH.l {X : Nat → Prop} {ops : Array Oper} {i : Nat} {dst : Option Tmp} {op : Op} {T : TypeId} {pos : String} {af : Array Edge} {gd : Option (Nat × Bool)} {p : Plan} {g : Bool} {Xs : Nat → Prop} {ι : Type} {env' : ι → Env} {fs' : ι → List Fact} {os' : ι → List Own}
    (ho : ops[i]? = some ⟨dst, op, T, pos, af, gd⟩) (hgd : Gd env ops gd g) (hq : LX cx env fs os g Xs dst op T env' fs' os') (h : ∀ j, GH cx X ops Q (env' j) (fs' j) (os' j) p) (hX : ∀ b, ¬ Xs b := by first | exact fun _ h => h | exact fun _ h => (by cases h.1)) : GH cx X ops Q env fs os (.l i p) :=
  fun a w m hs => lx_op ho hgd hq h hX hs

/-- What an operation that looks at no memory gives. -/
def PE (cx : Cx) (env : Env) (fs : List Fact) (os : List Own) (g : Bool) (op : Op) (T : TypeId) (v : Value) : Prop :=
  ∀ a w m, St cx env fs os a w m → g = true → ∀ w' d pos af gd, (execOp a.eval ⟨d, op, T, pos, af, gd⟩).run cx.P w' = .ok (.value v) w'

theorem GH.u {X : Nat → Prop} {ops : Array Oper} {i : Nat} {d : Tmp} {op : Op} {T : TypeId} {pos : String} {af : Array Edge} {gd : Option (Nat × Bool)} {p : Plan} {g : Bool} {v : Value}
    (ho : ops[i]? = some ⟨some d, op, T, pos, af, gd⟩) (hgd : Gd env ops gd g) (hq : PE cx env fs os g op T v)
    (hd : Nat.blt d cx.n = true) (h : GH cx X ops Q ((d, g, v) :: env) fs os p) : GH cx X ops Q env fs os (.u i p) := by
  intro a w m hs
  have hw := Gd.is (o := ⟨some d, op, T, pos, af, gd⟩) hgd hs
  refine ⟨_, bif g then v else undef, ho, ?_, h _ _ _ (hs.put hd rfl)⟩
  cases hg : g with
  | true => exact .inl ⟨by rw [hw, hg], fun w' => hq a w m hs hg w' _ _ _ _⟩
  | false => exact .inr ⟨by rw [hw, hg], rfl⟩

theorem PE.move {T : TypeId} {g : Bool} {x : Operand} {g' : Bool} {v : Value} (h : Cw.ev env x = some (g', v)) (hi : g = true → g' = true := by first | exact fun _ => rfl | exact fun h => h) : PE cx env fs os g (.move x) T v :=
  fun a w m hs hg w' _ _ _ _ => by simp only [execOp, hs.ev h (hi hg)]; rfl
theorem PE.extract {T : TypeId} {g : Bool} {x : Operand} {gx : Bool} {k : Nat} {vs : Array Value} {v : Value} (hx : Cw.ev env x = some (gx, .tuple vs)) (hv : vs[k]? = some v)
    (hi : g = true → gx = true := by first | exact fun _ => rfl | exact fun h => h) : PE cx env fs os g (.extract x k) T v :=
  fun A w m hs hg w' _ _ _ _ => by
    simp only [execOp, hs.ev hx (hi hg), Instr.extract, hv]
    rfl

theorem GH.x {X : Nat → Prop} {ops : Array Oper} {i : Nat} {d : Tmp} {op : Op} {T : TypeId} {pos : String} {af : Array Edge} {gd : Option (Nat × Bool)} {p : Plan} {g : Bool} {v : Value}
    (ho : ops[i]? = some ⟨some d, op, T, pos, af, gd⟩) (hgd : Gd env ops gd g) (hq : QE cx X env fs os g op T v)
    (hd : Nat.blt d cx.n = true) (h : GH cx X ops Q ((d, g, v) :: env) fs os p) : GH cx X ops Q env fs os (.x i p) := by
  intro a w m hs
  have hw := Gd.is (o := ⟨some d, op, T, pos, af, gd⟩) hgd hs
  refine ⟨_, bif g then v else undef, ho, ?_, h _ _ _ (hs.put hd rfl)⟩
  cases hg : g with
  | true => exact .inl ⟨by rw [hw, hg], fun w' hw' => hq a w m hs hg w' hw' _ _ _ _⟩
  | false => exact .inr ⟨by rw [hw, hg], rfl⟩

theorem GH.xx {X : Nat → Prop} {ops : Array Oper} {i : Nat} {d : Tmp} {op : Op} {T : TypeId} {pos : String} {af : Array Edge} {gd : Option (Nat × Bool)} {p : Plan} {g : Bool} {ι : Type} {v : ι → Value} {f : ι → Fact}
    (ho : ops[i]? = some ⟨some d, op, T, pos, af, gd⟩) (hgd : Gd env ops gd g) (hq : QX cx X env fs os g op T v f)
    (hd : Nat.blt d cx.n = true) (h : ∀ j, GH cx X ops Q ((d, g, v j) :: env) (f j :: fs) os p) : GH cx X ops Q env fs os (.x i p) := by
  intro a w m hs
  have hw := Gd.is (o := ⟨some d, op, T, pos, af, gd⟩) hgd hs
  obtain ⟨j, hr, hf⟩ := hq a w m hs
  refine ⟨_, bif g then v j else undef, ho, ?_, h j _ _ _ ((hs.put hd rfl).addFact hf)⟩
  cases hg : g with
  | true => exact .inl ⟨by rw [hw, hg], fun w' hw' => hr hg w' hw' _ _ _ _⟩
  | false => exact .inr ⟨by rw [hw, hg], rfl⟩

/-- The tail. -/
def GT (cx : Cx) (X : Nat → Prop) (ops : Array Oper) (Q : Post0) (env : Env) (fs : List Fact) (os : List Own) (tl : List Nat) : Prop :=
  ∀ a w m, St cx env fs os a w m → wpTail cx.P ops X Q tl a w

theorem GH.tail {X : Nat → Prop} {ops : Array Oper} {tl : List Nat} (h : GT cx X ops Q env fs os tl) : GH cx X ops Q env fs os (.tail tl) := fun a w m hs => h a w m hs
theorem GT.nil {X : Nat → Prop} {ops : Array Oper} (h : ∀ a w m, St cx env fs os a w m → Q .normal a w) : GT cx X ops Q env fs os [] := fun a w m hs => h a w m hs
theorem GT.nilK {X : Nat → Prop} {ops : Array Oper} {c : Code} {Q2 : Post0} (hQ : ∀ a w, Q .normal a w = c.wp cx.P Q2 a w) (h : GC cx Q2 env fs os c) : GT cx X ops Q env fs os [] := fun a w m hs => by
  show Q .normal a w
  rw [hQ]
  exact h a w m hs

theorem GT.g {X : Nat → Prop} {ops : Array Oper} {i : Nat} {d : Tmp} {op : Op} {T : TypeId} {pos : String} {af : Array Edge} {gd : Option (Nat × Bool)} {l : List Nat} {g : Bool} {v : Value}
    (ho : ops[i]? = some ⟨some d, op, T, pos, af, gd⟩) (hgd : Gd env ops gd g) (hq : QE cx (fun _ => False) env fs os g op T v)
    (hd : Nat.blt d cx.n = true) (h : GT cx X ops Q ((d, g, v) :: env) fs os l) : GT cx X ops Q env fs os (i :: l) := by
  intro a w m hs
  have hw := Gd.is (o := ⟨some d, op, T, pos, af, gd⟩) hgd hs
  show wpOp _ _ _ _ _ _ _
  unfold wpOp
  simp only [ho, hw]
  split
  · rename_i hg
    exact .inl (execOp_value (hq a w m hs hg w (BelowX.refl _ _ _) _ _ _ _) ⟨BelowX.refl _ _ _, h _ _ _ (hs.put hd (by rw [hg]; rfl))⟩)
  · rename_i hg
    exact ⟨BelowX.refl _ _ _, h _ _ _ (hs.put hd (by simp [hg]))⟩

theorem GT.gx {X : Nat → Prop} {ops : Array Oper} {i : Nat} {d : Tmp} {op : Op} {T : TypeId} {pos : String} {af : Array Edge} {gd : Option (Nat × Bool)} {l : List Nat} {g : Bool} {ι : Type} {v : ι → Value} {f : ι → Fact}
    (ho : ops[i]? = some ⟨some d, op, T, pos, af, gd⟩) (hgd : Gd env ops gd g) (hq : QX cx (fun _ => False) env fs os g op T v f)
    (hd : Nat.blt d cx.n = true) (h : ∀ j, GT cx X ops Q ((d, g, v j) :: env) (f j :: fs) os l) : GT cx X ops Q env fs os (i :: l) := by
  intro a w m hs
  have hw := Gd.is (o := ⟨some d, op, T, pos, af, gd⟩) hgd hs
  obtain ⟨j, hr, hf⟩ := hq a w m hs
  show wpOp _ _ _ _ _ _ _
  unfold wpOp
  simp only [ho, hw]
  split
  · rename_i hg
    exact .inl (execOp_value (hr hg w (BelowX.refl _ _ _) _ _ _ _) ⟨BelowX.refl _ _ _, h j _ _ _ ((hs.put hd (by rw [hg]; rfl)).addFact hf)⟩)
  · rename_i hg
    exact ⟨BelowX.refl _ _ _, h j _ _ _ ((hs.put hd (by simp [hg])).addFact hf)⟩

theorem GT.l {X : Nat → Prop} {ops : Array Oper} {i : Nat} {dst : Option Tmp} {op : Op} {T : TypeId} {pos : String} {af : Array Edge} {gd : Option (Nat × Bool)} {l : List Nat} {g : Bool} {Xs : Nat → Prop} {ι : Type} {env' : ι → Env} {fs' : ι → List Fact} {os' : ι → List Own}
    (ho : ops[i]? = some ⟨dst, op, T, pos, af, gd⟩) (hgd : Gd env ops gd g) (hq : LX cx env fs os g Xs dst op T env' fs' os') (h : ∀ j, GT cx X ops Q (env' j) (fs' j) (os' j) l) (hX : ∀ b, Xs b → X b := by exact fun _ _ => trivial) : GT cx X ops Q env fs os (i :: l) := by
  intro a w m hs
  have hw := Gd.is (o := ⟨dst, op, T, pos, af, gd⟩) hgd hs
  have := hq a w m hs Q (fun a' w' => BelowX X w.heap.size w w' ∧ wpTail cx.P ops X Q l a' w') (fun j a' w' m' hs' hb => ⟨hb.weak hX, h j a' w' m' hs'⟩) pos af gd
  show wpOp _ _ _ _ _ _ _
  unfold wpOp
  simp only [ho, hw]
  split
  · rename_i hg; rw [if_pos hg] at this; exact .inl this
  · rename_i hg; rw [if_neg hg] at this; exact this

/-- Two loud ones, each first. -/
theorem GH.s {X : Nat → Prop} {ops : Array Oper} {i j : Nat} {p q : Plan} (h1 : GH cx X ops Q env fs os (.l i p)) (h2 : GH cx X ops Q env fs os (.l j q)) : GH cx X ops Q env fs os (.s i p j q) :=
  fun a w m hs => ⟨h1 a w m hs, h2 a w m hs⟩
end code
end Go.Cw
