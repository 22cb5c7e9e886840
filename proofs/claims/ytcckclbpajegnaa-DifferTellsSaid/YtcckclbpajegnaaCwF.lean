/- Contracts, calls, returns; lists that are made; equality; loops as least fixed points. Conditions: none; no program is named. -/
import Derived.Test.YtcckclbpajegnaaCwE
set_option linter.all false
set_option linter.unusedVariables false
set_option linter.unusedSimpArgs false
namespace Go.Cw
open Go Go.RowKit

/-- What a function gives back. -/
class Res (ρ : Type) where
  Raw : Type
  dflt : Raw
  val : ρ → Raw → Value
  ok : WM → World → ρ → Raw → Prop

instance resR {α : Type} [R α] : Res α := ⟨R.Raw α, R.dflt, V, R.ok⟩
instance res2 {α β : Type} [R α] [R β] : Res (α × β) := ⟨R.Raw α × R.Raw β, (R.dflt, R.dflt), fun x r => .tuple #[V x.1 r.1, V x.2 r.2], fun m w x r => R.ok m w x.1 r.1 ∧ R.ok m w x.2 r.2⟩
instance res3 {α β γ : Type} [R α] [R β] [R γ] : Res (α × β × γ) :=
  ⟨R.Raw α × R.Raw β × R.Raw γ, (R.dflt, R.dflt, R.dflt), fun x r => .tuple #[V x.1 r.1, V x.2.1 r.2.1, V x.2.2 r.2.2], fun m w x r => R.ok m w x.1 r.1 ∧ R.ok m w x.2.1 r.2.1 ∧ R.ok m w x.2.2 r.2.2⟩
instance res0 : Res Unit := ⟨Unit, (), fun _ _ => .tuple #[], fun _ _ _ _ => True⟩

/-- How a call ends. -/
def Post {ρ : Type} [Res ρ] (w0 : World) (m0 : WM) (K : ρ → Prop) (e : Ending) (w : World) : Prop :=
  ∃ (y : ρ) (s : Res.Raw ρ) (m : WM), K y ∧ e = .returned (Res.val y s) ∧ Below w0.heap.size w0 w ∧ (∀ b, b < w0.heap.size → m b = m0 b) ∧ (∀ b, w.heap.size ≤ b → m b = 0) ∧ Res.ok m w y s

/-- A contract: from these facts on the arguments. -/
def Ct {ρ : Type} [Res ρ] (P : Program) (N : FuncId) (args : List Value) (fs : List Fact) (K : ρ → Prop) : Prop :=
  ∀ w m, (∀ b, w.heap.size ≤ b → m b = 0) → (∀ f ∈ fs, f.p m w) → Calls P N args.toArray w (Post w m K)

theorem Ct.mono {ρ : Type} [Res ρ] {P : Program} {N : FuncId} {args : List Value} {fs : List Fact} {K K' : ρ → Prop} (h : Ct P N args fs K) (hk : ∀ y, K y → K' y) : Ct P N args fs K' :=
  fun w m hm hf => (h w m hm hf).mono fun _ _ ⟨y, s, m', hy, rest⟩ => ⟨y, s, m', hk y hy, rest⟩

class FnAt (P : Program) (N : FuncId) : Prop where
  ok : ∃ fn, P.funcs[N]? = some fn ∧ (fn.name == "runtime.NumGoroutine") = false ∧ fn.body.isNone = false

section calls
variable {cx : Cx} {X : Nat → Prop} {env : Env} {fs : List Fact} {os : List Own} {g : Bool} {T : TypeId}

def evs (env : Env) (g : Bool) : List Operand → List Value → Prop
  | [], [] => True
  | x :: l, v :: l' => (∃ gx, ev env x = some (gx, v) ∧ (g = true → gx = true)) ∧ evs env g l l'
  | _, _ => False

theorem evs.is {a : Act} {w : World} {m : WM} (hs : St cx env fs os a w m) (hg : g = true) : ∀ {l : List Operand} {l' : List Value}, evs env g l l' → l.map a.eval = l'
  | [], [], _ => rfl
  | x :: l, v :: l', ⟨⟨gx, h2, h3⟩, h4⟩ => by
    simp only [List.map_cons]
    rw [hs.ev h2 (h3 hg), evs.is hs hg h4]
  | [], _ :: _, h => h.elim
  | _ :: _, [], h => h.elim

theorem run_call {P : Program} {N : FuncId} [hf : FnAt P N] {a : Act} {w : World} {args : List Operand} {ts : Array TypeId} {d : Option Tmp} {pos : String} {af : Array Edge} {gd : Option (Nat × Bool)} :
    (execOp a.eval ⟨d, .call ⟨.value (.func N), args.toArray, ts⟩, T, pos, af, gd⟩).run P w = .ok (.enter N (args.map a.eval).toArray) w := by
  obtain ⟨fn, h1, h2, h3⟩ := hf.ok
  have h2' : ¬ fn.name = "runtime.NumGoroutine" := by simpa using h2
  have h3' : ¬ fn.body = none := fun e => by rw [e] at h3; cases h3
  simp [execOp, resolve, Act.eval, Deferred.ofValue, invoke, callFunc, h1]
  rw [if_neg h2', if_neg h3']

/-- These facts hold, where the guard does. -/
def FP (g : Bool) (fs : List Fact) : List Fact → Prop
  | [] => True
  | f :: r => (∃ (i : Nat) (f' : Fact), fs[i]? = some f' ∧ (g = true → ∀ m w, f'.p m w → f.p m w)) ∧ FP g fs r

theorem FP.nil : FP g fs [] := trivial
theorem FP.cons {α : Type} [R α] {g' : Bool} {x : α} {r : R.Raw α} {l : List Fact} (i : Nat) (hi : fs[i]? = some (Fk g' x r)) (hg : g = true → g' = true) (h : FP g fs l) : FP g fs (Fk true x r :: l) := ⟨⟨i, _, hi, fun h m w hf _ => hf (hg h)⟩, h⟩
theorem FP.is {a : Act} {w : World} {m : WM} (hs : St cx env fs os a w m) (hg : g = true) : ∀ {l : List Fact}, FP g fs l → ∀ f ∈ l, f.p m w
  | [], _, f, hf => by cases hf
  | x :: l, h, f, hf => by
    rcases List.mem_cons.1 hf with rfl | hf
    · obtain ⟨i, f', hi, hp⟩ := h.1
      exact hp hg m w (hs.fact hi)
    · exact FP.is hs hg h.2 f hf

/-- What is known of a call's results. -/
class FkR (ρ : Type) [Res ρ] where
  facts : Bool → ρ → Res.Raw ρ → List Fact
  of : ∀ {g m w y s}, (g = true → Res.ok m w y s) → ∀ f ∈ facts g y s, f.p m w

instance fkR1 {α : Type} [R α] : FkR α := ⟨fun g y s => [Fk g y s], fun h f hf => by simp at hf; subst hf; exact h⟩
instance fkR2 {α β : Type} [R α] [R β] : FkR (α × β) := ⟨fun g y s => [Fk g y.1 s.1, Fk g y.2 s.2], fun h f hf => by
  simp at hf
  rcases hf with rfl | rfl
  · exact fun hg => (h hg).1
  · exact fun hg => (h hg).2⟩
instance fkR3 {α β γ : Type} [R α] [R β] [R γ] : FkR (α × β × γ) := ⟨fun g y s => [Fk g y.1 s.1, Fk g y.2.1 s.2.1, Fk g y.2.2 s.2.2], fun h f hf => by
  simp at hf
  rcases hf with rfl | rfl | rfl
  · exact fun hg => (h hg).1
  · exact fun hg => (h hg).2.1
  · exact fun hg => (h hg).2.2⟩
instance fkR0 : FkR Unit := ⟨fun _ _ _ => [], fun _ f hf => by cases hf⟩

theorem facts_append {m : WM} {w : World} {l l' : List Fact} (h : ∀ f ∈ l, f.p m w) (h' : ∀ f ∈ l', f.p m w) : ∀ f ∈ l ++ l', f.p m w := fun f hf => (List.mem_append.1 hf).elim (h f) (h' f)

theorem LX.callD {ρ : Type} [Res ρ] [FkR ρ] [Inhabited ρ] {d : Option Tmp} {N : FuncId} [hfn : FnAt cx.P N] {args : List Operand} {vals : List Value} {ts : Array TypeId} {fs1 : List Fact} {H : ρ → Prop}
    (ha : evs env g args vals) (hc : g = true → Ct cx.P N vals fs1 H) (hz : g = false → H default) (hf : FP g fs fs1) (env' : {y : ρ // H y} × Res.Raw ρ → Env)
    (hput : ∀ a w m i v, St cx env (FkR.facts g i.1.1 i.2 ++ fs) os a w m → v = (bif g then Res.val i.1.1 i.2 else undef) → St cx (env' i) (FkR.facts g i.1.1 i.2 ++ fs) os (a.put d v) w m) :
    LX cx env fs os g (fun _ => False) d (.call ⟨.value (.func N), args.toArray, ts⟩) T env' (fun i : {y : ρ // H y} × Res.Raw ρ => FkR.facts g i.1.1 i.2 ++ fs) (fun _ => os) := by
  intro a w m hs Q K hK pos af gd
  split
  · rename_i hg
    unfold Oper.wp
    rw [run_call, ha.is hs hg]
    show Calls _ _ _ _ _
    refine (hc hg w m hs.fresh (hf.is hs hg)).mono ?_
    rintro e w' ⟨y, s, m', hy, rfl, hb, hm, hfr, hok⟩
    have h1 := hs.grow hb hm hfr
    refine hK (⟨y, hy⟩, s) _ w' m' ?_ (.of hb)
    exact hput a w' m' (⟨y, hy⟩, s) _ { h1 with facts := facts_append (FkR.of fun _ => hok) h1.facts } (by rw [hg]; rfl)
  · rename_i hg
    have hg' : g = false := by simpa using hg
    refine hK (⟨default, hz hg'⟩, Res.dflt) _ w m ?_ (BelowX.refl _ _ _)
    exact hput a w m (⟨default, hz hg'⟩, Res.dflt) _ { hs with facts := facts_append (FkR.of fun h => by rw [hg'] at h; cases h) hs.facts } (by rw [hg']; rfl)

/-- A call, its result kept. -/
theorem LX.call {ρ : Type} [Res ρ] [FkR ρ] [Inhabited ρ] {d : Tmp} {N : FuncId} [hfn : FnAt cx.P N] {args : List Operand} {vals : List Value} {ts : Array TypeId} {fs1 : List Fact} {H : ρ → Prop}
    (ha : evs env g args vals) (hc : g = true → Ct cx.P N vals fs1 H) (hz : g = false → H default) (hf : FP g fs fs1) (hd : Nat.blt d cx.n = true := by rfl) :
    LX cx env fs os g (fun _ => False) (some d) (.call ⟨.value (.func N), args.toArray, ts⟩) T (fun i : {y : ρ // H y} × Res.Raw ρ => (d, g, Res.val i.1.1 i.2) :: env) (fun i => FkR.facts g i.1.1 i.2 ++ fs) (fun _ => os) :=
  LX.callD ha hc hz hf _ fun a w m i v hs hv => hs.put hd hv

/-- A call, its result not kept. -/
theorem LX.callN {ρ : Type} [Res ρ] [FkR ρ] [Inhabited ρ] {N : FuncId} [hfn : FnAt cx.P N] {args : List Operand} {vals : List Value} {ts : Array TypeId} {fs1 : List Fact} {H : ρ → Prop}
    (ha : evs env g args vals) (hc : g = true → Ct cx.P N vals fs1 H) (hz : g = false → H default) (hf : FP g fs fs1) :
    LX cx env fs os g (fun _ => False) none (.call ⟨.value (.func N), args.toArray, ts⟩) T (fun _ : {y : ρ // H y} × Res.Raw ρ => env) (fun i => FkR.facts g i.1.1 i.2 ++ fs) (fun _ => os) :=
  LX.callD ha hc hz hf _ fun a w m i v hs hv => hs.put_none v

/-! ### The frame of a function -/

def env0 : Nat → List Value → Env
  | _, [] => []
  | k, v :: l => (k, true, v) :: env0 (k + 1) l

theorem look_env0 : ∀ (l : List Value) (k t : Nat) (g : Bool) (v : Value), look (env0 k l) t = some (g, v) → g = true ∧ ∃ j, t = k + j ∧ l[j]? = some v
  | [], _, _, _, _, h => by cases h
  | u :: l, k, t, g, v, h => by
    simp only [env0, look] at h
    cases hb : Nat.beq k t with
    | true =>
      rw [hb] at h
      simp only [cond_true, Option.some.injEq, Prod.mk.injEq] at h
      exact ⟨h.1.symm, 0, (Nat.eq_of_beq_eq_true hb).symm, by simp [h.2]⟩
    | false =>
      rw [hb] at h
      obtain ⟨h1, j, h2, h3⟩ := look_env0 l (k + 1) t g v h
      exact ⟨h1, j + 1, by omega, by simpa using h3⟩

/-- A contract, from the body. -/
theorem Ct.of {ρ : Type} [Res ρ] {P : Program} {N : FuncId} {fn : Func} {c : Code} {args : List Value} {fs : List Fact} {K : ρ → Prop} {n : Nat} (hf : P.funcs[N]? = some fn) (hb : fn.body = some c) (hn : fn.ntmps = n) (hle : Nat.ble args.length n = true)
    (h : ∀ w0 m0, GC ⟨P, n, w0, m0, fun _ => False⟩ (bodyPost P fn (Post w0 m0 K)) (env0 0 args) fs [] c) : Ct P N args fs K := by
  intro w m hm hfs
  refine calls_of_wp hf hb (h w m _ w m ?_)
  have hle' : args.length ≤ n := Nat.le_of_ble_eq_true hle
  refine ⟨by simp [hn]; omega, rfl, ?_, BelowX.refl _ _ _, fun _ _ _ => rfl, hm, hfs, fun _ h => (by cases h), fun _ h => (by cases h), List.Pairwise.nil⟩
  intro t g v hl
  obtain ⟨rfl, j, rfl, hj⟩ := look_env0 args 0 t g v hl
  have hlt := (List.getElem?_eq_some_iff.1 hj).1
  simp only [cond_true, Nat.zero_add, Array.getD_eq_getD_getElem?]
  rw [Array.getElem?_append_left (by simpa using hlt)]
  simp [hj]

end calls

/-! ### Loops -/

/-- The least thing that holds where one round leads to it. -/
def Lfp {σ : Type} (step : σ → (σ → Prop) → Prop) (s : σ) : Prop := ∀ I : σ → Prop, (∀ s, step s I → I s) → I s

theorem Lfp.intro {σ : Type} {step : σ → (σ → Prop) → Prop} (Inv : σ → Prop) (μ : σ → Nat) {s : σ} (h0 : Inv s) (h : ∀ s (I : σ → Prop), Inv s → (∀ s', Inv s' → μ s' < μ s → I s') → step s I) : Lfp step s := by
  intro I hI
  have key : ∀ n s, μ s = n → Inv s → I s := by
    intro n
    induction n using Nat.strongRecOn with
    | _ n ih => exact fun s hn hs => hI s (h s I hs fun s' hs' hlt => ih (μ s') (hn ▸ hlt) s' rfl hs')
  exact key _ s rfl h0

/-- A test, as a walk takes it. -/
def Wif (b : Bool) (A B : Prop) : Prop := (b = true → A) ∧ (b = false → B)
theorem Wif_iff {b : Bool} {A B : Prop} : Wif b A B ↔ if b = true then A else B := by unfold Wif; cases b <;> simp
/-- What is done only where a guard holds. -/
def Wopt {ρ : Type} [Inhabited ρ] (g : Bool) (A : (ρ → Prop) → Prop) (H : ρ → Prop) : Prop := (g = true → A H) ∧ (g = false → H default)
end Go.Cw
