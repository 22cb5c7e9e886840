/- Keys; blocks that are let go; contracts over blocks of the caller's; function values. Conditions: none; no program is named. -/
import Derived.Test.YtcckclbpajegnaaCwJ
set_option linter.all false
set_option linter.unusedVariables false
set_option linter.unusedSimpArgs false
namespace Go.Cw
open Go Go.RowKit

/-! ### Keys -/

class CK (P : Program) (T : TypeId) (α : Type) [R α] (n : outParam Nat) : Prop where
  ck : ∀ e d w (x : α) r, (Instr.checkKey e (d + n) T (V x r)).run P w = .ok () w
  le : n ≤ 100

class Bits (α : Type) [R α] : Prop where
  b : ∀ (x : α) r, ∀ v ∈ R.cells x r, ∀ n, Instr.sameBits n v v = true

instance : Bits Int := ⟨fun x r v hv n => by simp [R.cells, C1.c1] at hv; subst hv; cases n <;> simp [Instr.sameBits]⟩
instance : Bits UInt8 := ⟨fun x r v hv n => by simp [R.cells, C1.c1] at hv; subst hv; cases n <;> simp [Instr.sameBits]⟩
instance : Bits UInt32 := ⟨fun x r v hv n => by simp [R.cells, C1.c1] at hv; subst hv; cases n <;> simp [Instr.sameBits]⟩
instance : Bits UInt64 := ⟨fun x r v hv n => by simp [R.cells, C1.c1] at hv; subst hv; cases n <;> simp [Instr.sameBits]⟩
instance : Bits Bool := ⟨fun x r v hv n => by simp [R.cells, C1.c1] at hv; subst hv; cases n <;> simp [Instr.sameBits]⟩
instance {α : Type} {n : Nat} [C1 α] [h : Bits α] : Bits (Vector α n) := ⟨fun x r v hv k => by
  simp only [R.cells, List.mem_map] at hv
  obtain ⟨y, _, rfl⟩ := hv
  exact h.b y () (C1.c1 y) (by simp [R.cells]) k⟩

theorem ck_int {P : Program} {T : TypeId} {α : Type} [R α] {k : IntKind} (h : P.underlying T = some (.int k)) : CK P T α 1 := ⟨fun e d w x r => by
  show (Instr.checkKey e (d + 1) T (V x r)).run P w = _
  unfold Instr.checkKey
  simp only [Sem.run_bind, run_underlying h, Result.andThen_ok]
  cases V x r <;> rfl, by decide⟩

theorem ck_vec {P : Program} {T E : TypeId} {α : Type} {n k : Nat} [C1 α] [Inhabited α] [he : CK P E α k] [ht : Ty P E α] (hu : P.underlying T = some (.array n E)) (hk : k + 1 ≤ 100) (hs : R.size α = 1 := by rfl) : CK P T (Vector α n) (k + 1) := ⟨fun e d w x r => by
  rw [show V x r = .agg (R.cells x r).toArray from rfl, ← Nat.add_assoc]
  unfold Instr.checkKey
  simp only [Sem.run_bind, run_underlying hu, Result.andThen_ok]
  simp only [Std.Legacy.Range.forIn_eq_forIn_range', Std.Legacy.Range.size, Nat.sub_zero, Nat.add_one_sub_one, Nat.div_one]
  have all : ∀ j ∈ List.range' 0 n, j < n := fun j hj => by simp at hj; omega
  generalize List.range' 0 n = is at all
  induction is with
  | nil => simp
  | cons j is ih =>
    have hj := all j (by simp)
    have hb : 0 ≤ (j : Int) ∧ (j : Int) < n := by omega
    have p1 := run_part (P := P) (w := w) (E := E) (Lens.vec (α := α) (j : Int) hb) x r
    have ho : (Lens.vec (α := α) (n := n) (j : Int) hb).off = j * 1 := by show (j : Int).toNat = j * 1; omega
    rw [ho] at p1
    have p2 := he.ck e d w ((Lens.vec (α := α) (n := n) (j : Int) hb).get x) ((Lens.vec (α := α) (n := n) (j : Int) hb).getR r)
    simp only [List.forIn_cons, Sem.run_bind, ht.size w, hs, Result.andThen_ok, p1, p2, Sem.run_pure]
    exact ih (fun y hy => all y (by simp [hy])), hk⟩

/-- Field by field. -/
def CkF {α : Type} [R α] (P : Program) (em : Bool) (d : Nat) (x : α) (r : R.Raw α) (w : World) : List Field → Prop
  | [] => True
  | f :: fs => (f.name ≠ "_") ∧ (∃ (β : Type) (_ : R β) (L : Lens α β), L.off = f.offset ∧ Ty P f.type β ∧ (Instr.checkKey em d f.type (V (L.get x) (L.getR r))).run P w = .ok () w) ∧ CkF P em d x r w fs

theorem ck_at {α β : Type} [R α] {P : Program} {e d k : Nat} {em : Bool} {x : α} {r : R.Raw α} {w : World} {T : TypeId} [R β] [hc : CK P T β k] (L : Lens α β) (h : k ≤ e) :
    (Instr.checkKey em (d + e) T (V (L.get x) (L.getR r))).run P w = .ok () w := by
  have := hc.ck em (d + (e - k)) w (L.get x) (L.getR r)
  rw [show d + (e - k) + k = d + e by omega] at this
  exact this

theorem ck_struct {P : Program} {T : TypeId} {α : Type} [R α] {k : Nat} {fs : Array Field} (hu : P.underlying T = some (.struct fs)) (hagg : R.agg α = true) (hk : k + 1 ≤ 100) (h : ∀ em d w (x : α) r, CkF P em (d + k) x r w fs.toList) : CK P T α (k + 1) := ⟨fun e d w x r => by
  rw [show V x r = .agg (R.cells x r).toArray by simp [V, hagg], ← Nat.add_assoc]
  unfold Instr.checkKey
  simp only [Sem.run_bind, run_underlying hu, Result.andThen_ok]
  rw [← Array.forIn_toList]
  have hf := h e d w x r
  generalize fs.toList = L at hf
  induction L with
  | nil => simp
  | cons f L ih =>
    obtain ⟨hn, ⟨β, _, Ln, ho, ht, hc⟩, hr⟩ := hf
    have p1 := run_part (P := P) (w := w) (E := f.type) Ln x r
    rw [ho] at p1
    simp only [List.forIn_cons, Sem.run_bind, hn, ne_eq, not_false_eq_true, if_true, Result.andThen_ok, p1, hc, Sem.run_pure]
    exact ih hr, hk⟩

theorem beq_sameBits {v : Value} {n : Nat} (h : Instr.sameBits (n + 1) v v = true) (P : Program) (w : World) (hn : n + 1 = 10000) : (Instr.keyThatStays v v).run P w = .ok v w := by
  unfold Instr.keyThatStays
  rw [← hn, if_pos h]
  rfl

theorem find_asking {P : Program} {K : TypeId} {κ : Type} [R κ] [DecidableEq κ] {k : Nat} [he : EqD P K κ k] (w : World) (x : κ) : ∀ (es : List MapEntry) (l : List κ) (i : Nat), es.map (·.key) = l.map kv →
    (Instr.findAsking K (kv x) es i).run P w = .ok ((l.findIdx? (fun y => decide (x = y))).bind fun j => es[j]?.map fun e => (i + j, e.val)) w
  | [], [], i, _ => rfl
  | [], _ :: _, _, h => by simp at h
  | _ :: _, [], _, h => by simp at h
  | e :: es, y :: l, i, h => by
    simp only [List.map_cons, List.cons.injEq] at h
    have h1 := run_equal_agg (P := P) (w := w) (t := K) x y R.dflt R.dflt
    have ih := find_asking (P := P) (K := K) w x es l (i + 1) h.2
    simp only [Instr.findAsking, Sem.run_bind]
    rw [h.1, show (Op.equal K (kv x) (kv y)).run P w = _ from h1]
    by_cases e1 : x = y
    · subst e1; simp [List.findIdx?_cons]
    · simp only [Result.andThen_ok, e1, decide_false, Bool.false_eq_true, if_false, ih]
      simp only [List.findIdx?_cons, e1, decide_false, Bool.false_eq_true, if_false]
      cases l.findIdx? (fun y => decide (x = y)) with
      | none => rfl
      | some j =>
        simp only [Option.bind_some, Option.map_some, List.getElem?_cons_succ]
        congr 1
        cases es[j]? with
        | none => rfl
        | some e => simp; omega

theorem ky_agg {P : Program} {K : TypeId} {κ : Type} [R κ] [DecidableEq κ] {k n : Nat} [he : EqD P K κ k] [hc : CK P K κ n] [hb : Bits κ] (hagg : R.agg κ = true) (hsub : ∀ r s : R.Raw κ, r = s) (hu : ∃ d, P.underlying K = some d) : Ky P K κ := by
  have hv : ∀ x : κ, kv x = .agg (R.cells x R.dflt).toArray := fun x => by simp [kv, V, hagg]
  refine ⟨hsub, fun e w x => ?_, fun w x es l h => ?_, fun w x => ?_⟩
  · have := hc.ck e (10000 - n) w x R.dflt
    have := hc.le
    rw [show (10000 : Nat) = 10000 - n + n by omega]
    exact hc.ck e (10000 - n) w x R.dflt
  · obtain ⟨d, hd⟩ := hu
    have h1 := find_asking (he := he) w x es l 0 h
    simp only [Nat.zero_add] at h1
    simp only [Instr.findKey, Sem.run_bind, run_underlying hd, Result.andThen_ok]
    cases es with
    | nil =>
      cases l with
      | nil => rfl
      | cons y l => simp at h
    | cons e es =>
      cases l with
      | nil => simp at h
      | cons y l =>
        have hk : e.key = kv y := by simpa using (List.cons.inj h).1
        have : Instr.findNow d (kv x) (e :: es) 0 = none := by
          simp only [Instr.findNow, hk, hv]
          cases d <;> rfl
        rw [this]
        exact h1
  · refine beq_sameBits (n := 9999) ?_ P w rfl
    rw [hv]
    simp only [Instr.sameBits, beq_self_eq_true, Bool.true_and, List.all_eq_true]
    rintro ⟨a, b⟩ hab
    have hz : ∀ (l : List Value), (a, b) ∈ l.zip l → a = b ∧ a ∈ l := by
      intro l
      induction l with
      | nil => intro h; cases h
      | cons c l ih =>
        intro h
        simp only [List.zip_cons_cons, List.mem_cons, Prod.mk.injEq] at h
        rcases h with ⟨rfl, rfl⟩ | h
        · exact ⟨rfl, by simp⟩
        · exact ⟨(ih h).1, by simp [(ih h).2]⟩
    obtain ⟨rfl, hm⟩ := hz _ hab
    exact hb.b x R.dflt a hm 9999

theorem ky_int {P : Program} {K : TypeId} (hu : P.underlying K = some (.int .i64)) : Ky P K Int := by
  refine ⟨fun _ _ => rfl, fun e w x => (ck_int (α := Int) hu).ck e 9999 w x (), fun w x es l h => ?_, fun w x => beq_sameBits (n := 9999) (by simp [kv, V, R.agg, R.cells, C1.c1, Instr.sameBits]) P w rfl⟩
  have key : ∀ (es : List MapEntry) (l : List Int) (i : Nat), es.map (·.key) = l.map kv → Instr.findNow (.int .i64) (kv x) es i = some ((l.findIdx? (fun y => decide (x = y))).bind fun j => es[j]?.map fun e => (i + j, e.val)) := by
    intro es
    induction es with
    | nil =>
      intro l i h
      cases l with
      | nil => rfl
      | cons y l => simp at h
    | cons e es ih =>
      intro l i h
      cases l with
      | nil => simp at h
      | cons y l =>
        simp only [List.map_cons, List.cons.injEq] at h
        have ih := ih l (i + 1) h.2
        simp only [Instr.findNow, h.1]
        have : Instr.sameNow (.int .i64) (kv x) (kv y) = some (x == y) := by
          show Instr.sameNow (.int .i64) (.int .i64 x) (.int .i64 y) = _
          simp [Instr.sameNow]
        rw [this]
        by_cases e1 : x = y
        · subst e1; simp [List.findIdx?_cons]
        · have e2 : (x == y) = false := by simpa using e1
          rw [e2]
          simp only [ih, List.findIdx?_cons, e1, decide_false, Bool.false_eq_true, if_false]
          cases l.findIdx? (fun y => decide (x = y)) with
          | none => rfl
          | some j =>
            simp only [Option.bind_some, Option.map_some, List.getElem?_cons_succ]
            congr 1
            cases es[j]? with
            | none => rfl
            | some e => simp; omega
  simp only [Instr.findKey, Sem.run_bind, run_underlying hu, Result.andThen_ok, key es l 0 h, Nat.zero_add]
  rfl

/-! ### From one account of a state to another one -/

def Via (cx : Cx) (env : Env) (fs : List Fact) (os : List Own) (fs' : List Fact) (os' : List Own) : Prop := ∀ a w m, St cx env fs os a w m → ∃ m', St cx env fs' os' a w m'

section via
variable {cx : Cx} {X : Nat → Prop} {env : Env} {fs fs' : List Fact} {os os' : List Own} {Q : Post0} {ops : Array Oper}
theorem GL.via {l : List Oper} (v : Via cx env fs os fs' os') (h : GL cx ops Q env fs' os' l) : GL cx ops Q env fs os l := fun a w m hs => let ⟨m', hs'⟩ := v a w m hs; h a w m' hs'
theorem GH.via {p : Plan} (v : Via cx env fs os fs' os') (h : GH cx X ops Q env fs' os' p) : GH cx X ops Q env fs os p := fun a w m hs => let ⟨m', hs'⟩ := v a w m hs; h a w m' hs'
theorem GT.via {l : List Nat} (v : Via cx env fs os fs' os') (h : GT cx X ops Q env fs' os' l) : GT cx X ops Q env fs os l := fun a w m hs => let ⟨m', hs'⟩ := v a w m hs; h a w m' hs'
theorem GC.via {c : Code} (v : Via cx env fs os fs' os') (h : GC cx Q env fs' os' c) : GC cx Q env fs os c := fun a w m hs => let ⟨m', hs'⟩ := v a w m hs; h a w m' hs'
theorem GLoop.via {c : Code} (v : Via cx env fs os fs' os') (h : GLoop cx Q env fs' os' c) : GLoop cx Q env fs os c := fun a w m hs => let ⟨m', hs'⟩ := v a w m hs; h a w m' hs'
theorem Via.ret {G : Act → World → Prop} (v : Via cx env fs os fs' os') (h : ∀ a w m, St cx env fs' os' a w m → G a w) : ∀ a w m, St cx env fs os a w m → G a w := fun a w m hs => let ⟨m', hs'⟩ := v a w m hs; h a w m' hs'
theorem Via.trans {fs'' : List Fact} {os'' : List Own} (v : Via cx env fs os fs' os') (u : Via cx env fs' os' fs'' os'') : Via cx env fs os fs'' os'' := fun a w m hs => let ⟨m', hs'⟩ := v a w m hs; u a w m' hs'
theorem St.reown {a : Act} {w : World} {m : WM} (hs : St cx env fs os a w m) (is : List Nat) (hn : is.Nodup) (ho : SubO is os' os) : St cx env fs os' a w m := by
  obtain ⟨hlen, hat⟩ := ho.spec
  have hmem : ∀ o ∈ os', o ∈ os := fun o hx => by
    obtain ⟨p, hp, rfl⟩ := List.mem_iff_getElem.1 hx
    exact List.mem_of_getElem? (hat p (by omega) hp)
  refine { hs with owns := fun o hx => hs.owns o (hmem o hx), ids := fun o hx => hs.ids o (hmem o hx), apart := ?_ }
  rw [List.pairwise_iff_getElem]
  intro p q hp hq hpq b h1 h2
  simp only [List.length_map] at hp hq
  have e1 := hat p (by omega) hp
  have e2 := hat q (by omega) hq
  have hne : is[p]'(by omega) ≠ is[q]'(by omega) := fun e => by
    have := (List.nodup_iff_pairwise_ne.1 hn)
    rw [List.pairwise_iff_getElem] at this
    exact this p q (by omega) (by omega) hpq e
  obtain ⟨l1, g1⟩ := List.getElem?_eq_some_iff.1 e1
  obtain ⟨l2, g2⟩ := List.getElem?_eq_some_iff.1 e2
  have hpw := List.pairwise_iff_getElem.1 hs.apart
  simp only [List.getElem_map] at h1 h2
  rcases Nat.lt_or_gt_of_ne hne with hlt | hlt
  · exact hpw _ _ (by simpa using l1) (by simpa using l2) hlt b (by simp [g1, h1]) (by simp [g2, h2])
  · exact hpw _ _ (by simpa using l2) (by simpa using l1) hlt b (by simp [g2, h2]) (by simp [g1, h1])
theorem Via.owns (is : List Nat) (hn : is.Nodup) (ho : SubO is os' os) : Via cx env fs os fs os' := fun a w m hs => ⟨m, hs.reown is hn ho⟩

open Classical in
/-- An own thing is let go: it does not turn any more. -/
theorem St.freeze {a : Act} {w : World} {m : WM} (h : St cx env fs os a w m) {i : Nat} {o : Own} (hi : os[i]? = some o) (hz : ∀ b, o.id b → m b = 0) (N : Nat) :
    Ext m w (fun q => if o.id q then N else m q) w ∧ St cx env fs (os.eraseIdx i) a w (fun q => if o.id q then N else m q) := by
  have hmem := List.mem_of_getElem? hi
  have he : Ext m w (fun q => if o.id q then N else m q) w := ⟨fun _ _ _ => rfl, fun b => by
    show m b ≤ if o.id b then N else m b
    split
    · rename_i hb; rw [hz b hb]; exact Nat.zero_le _
    · exact Nat.le_refl _, fun _ _ _ _ h => h⟩
  have hlt : i < os.length := (List.getElem?_eq_some_iff.1 hi).1
  have hp := List.pairwise_iff_getElem.1 h.apart
  have hel : ∀ (j : Nat) (x : Own), (os.eraseIdx i)[j]? = some x → ∃ j', j' ≠ i ∧ os[j']? = some x := fun j x hx => by
    rw [List.getElem?_eraseIdx] at hx
    split at hx
    · exact ⟨j, by omega, hx⟩
    · exact ⟨j + 1, by omega, hx⟩
  refine ⟨he, h.size, h.defers, h.sees, h.below, fun b hb hx => ?_, fun b hb => ?_, fun f hf => f.st he (h.facts f hf), fun x hx => ?_, fun x hx => ?_, ?_⟩
  · have hn : ¬ o.id b := fun e => by
      rcases (h.ids o hmem b e).1 with h1 | h1
      · omega
      · exact hx h1
    show (if o.id b then N else m b) = _
    rw [if_neg hn]; exact h.old b hb hx
  · have hn : ¬ o.id b := fun e => by have := (h.ids o hmem b e).2; omega
    show (if o.id b then N else m b) = _
    rw [if_neg hn]; exact h.fresh b hb
  · obtain ⟨j, hj⟩ := List.mem_iff_getElem?.1 hx
    obtain ⟨j', hne, hj'⟩ := hel j x hj
    refine x.loc (fun b hb => ⟨rfl, if_neg fun e => ?_⟩) (h.owns x (List.mem_of_getElem? hj'))
    obtain ⟨l1, g1⟩ := List.getElem?_eq_some_iff.1 hi
    obtain ⟨l2, g2⟩ := List.getElem?_eq_some_iff.1 hj'
    rcases Nat.lt_or_gt_of_ne hne with h1 | h1
    · exact hp j' i (by simpa using l2) (by simpa using l1) h1 b (by simpa [g2] using hb) (by simpa [g1] using e)
    · exact hp i j' (by simpa using l1) (by simpa using l2) h1 b (by simpa [g1] using e) (by simpa [g2] using hb)
  · obtain ⟨j, hj⟩ := List.mem_iff_getElem?.1 hx
    obtain ⟨j', _, hj'⟩ := hel j x hj
    exact h.ids x (List.mem_of_getElem? hj')
  · exact h.apart.sublist ((List.eraseIdx_sublist os i).map _)

theorem Via.frz {i N : Nat} {o : Own} {f : Fact} (hi : os[i]? = some o) (hz : ∀ {m w b}, o.q m w → o.id b → m b = 0)
    (hf : ∀ m w m', (∀ (i : Nat) {x : Fact}, fs[i]? = some x → x.p m w) → o.q m w → Ext m w m' w → (∀ b, o.id b → m' b = N) → f.p m' w) : Via cx env fs os (f :: fs) (os.eraseIdx i) := fun a w m hs => by
  obtain ⟨he, h⟩ := hs.freeze hi (fun b hb => hz (hs.own hi) hb) N
  exact ⟨_, h.addFact (hf m w _ (fun _ _ hx => hs.fact hx) (hs.own hi) he (fun b hb => if_pos hb))⟩

/-- A box that will not be stored to any more. -/
theorem Via.frzBx {α : Type} [R α] {y : α} {r : R.Raw α} {b T : Nat} (i : Nat) (hi : os[i]? = some (bx y r b T)) (hok : ∀ m w, (∀ (i : Nat) {x : Fact}, fs[i]? = some x → x.p m w) → R.ok m w y r) :
    Via cx env fs os (Pl true y (.pointer (some ⟨b, 0, none⟩)) :: fs) (os.eraseIdx i) :=
  Via.frz (N := R.size α) hi (fun {m w b'} h e => by cases e; exact h.2) fun m w m' hfs ho he hm _ => ⟨b, 0, r, rfl, ⟨by rw [R.len, hm b rfl]; omega, fun j hj => by
    rw [Nat.zero_add, cell_of_row w b j _ T (0, 0) ho.1]; simp⟩, R.stable he (hok m w hfs)⟩

/-- A map. -/
theorem Via.frzMo {κ β : Type} [R κ] [R β] {l : List (κ × β)} {rs : List (R.Raw β)} {b : Nat} (i j : Nat) (hi : os[i]? = some (mo l rs b)) (hj : fs[j]? = some (Mok l rs)) :
    Via cx env fs os (Fk true (⟨l⟩ : Mp κ β) ((some b, rs) : Option Nat × List (R.Raw β)) :: fs) (os.eraseIdx i) :=
  Via.frz (N := 1) hi (fun {m w b'} h e => by cases e; exact h.2) fun m w m' hfs ho he hm _ => by
    obtain ⟨⟨es, c, hb, hen⟩, _⟩ := ho
    have hok : okm m w l rs := hfs j hj
    exact .inr ⟨b, es, c, rfl, hb, by rw [hm b rfl]; decide, hen, hok.stable he⟩
theorem Via.fact (f : Fact) (hf : ∀ m w, (∀ (i : Nat) {x : Fact}, fs[i]? = some x → x.p m w) → f.p m w) : Via cx env fs os (f :: fs) os :=
  fun a w m hs => ⟨m, hs.addFact (hf m w fun _ _ hi => hs.fact hi)⟩
theorem Via.nilTip (t size : Nat) : Via cx env fs os fs (tp t size 0 none 0 :: os) := fun a w m hs => ⟨m, hs.nilTip t size⟩
end via

/-! ### Contracts over blocks of the caller's -/

def idsOf (os : List Own) (b : Nat) : Prop := ∃ o ∈ os, o.id b

def PostO {σ κ : Type} (X : Nat → Prop) (w0 : World) (m0 : WM) (K : σ → Prop) (val : σ → κ → Value) (F : σ → κ → List Fact) (O : σ → κ → List Own) (e : Ending) (w : World) : Prop :=
  ∃ y s m, K y ∧ e = .returned (val y s) ∧ BelowX X w0.heap.size w0 w ∧ (∀ b, b < w0.heap.size → ¬ X b → m b = m0 b) ∧ (∀ b, w.heap.size ≤ b → m b = 0) ∧ (∀ f ∈ F y s, f.p m w) ∧ (∀ o ∈ O y s, o.q m w) ∧
    (∀ o ∈ O y s, ∀ b, o.id b → (w0.heap.size ≤ b ∨ X b) ∧ b < w.heap.size) ∧ ((O y s).map (·.id)).Pairwise (fun x y => ∀ b, x b → ¬ y b)

def CtO {σ κ : Type} (P : Program) (N : FuncId) (args : List Value) (fs : List Fact) (os : List Own) (K : σ → Prop) (val : σ → κ → Value) (F : σ → κ → List Fact) (O : σ → κ → List Own) : Prop :=
  ∀ w m, (∀ b, w.heap.size ≤ b → m b = 0) → (∀ f ∈ fs, f.p m w) → (∀ o ∈ os, o.q m w) → (∀ o ∈ os, ∀ b, o.id b → b < w.heap.size) → (os.map (·.id)).Pairwise (fun x y => ∀ b, x b → ¬ y b) →
    Calls P N args.toArray w (PostO (idsOf os) w m K val F O)

theorem CtO.of {σ κ : Type} {P : Program} {N : FuncId} {fn : Func} {c : Code} {args : List Value} {fs : List Fact} {os : List Own} {K : σ → Prop} {val : σ → κ → Value} {F : σ → κ → List Fact} {O : σ → κ → List Own} {n : Nat}
    (hf : P.funcs[N]? = some fn) (hb : fn.body = some c) (hn : fn.ntmps = n) (hle : Nat.ble args.length n = true)
    (h : ∀ w0 m0, GC ⟨P, n, w0, m0, idsOf os⟩ (bodyPost P fn (PostO (idsOf os) w0 m0 K val F O)) (env0 0 args) fs os c) : CtO P N args fs os K val F O := by
  intro w m hm hfs hq hid hap
  refine calls_of_wp hf hb (h w m _ w m ?_)
  have hle' : args.length ≤ n := Nat.le_of_ble_eq_true hle
  refine ⟨by simp [hn]; omega, rfl, ?_, BelowX.refl _ _ _, fun _ _ _ => rfl, hm, hfs, hq, fun o ho b hb => ⟨.inr ⟨o, ho, hb⟩, hid o ho b hb⟩, hap⟩
  intro t g v hl
  obtain ⟨rfl, j, rfl, hj⟩ := look_env0 args 0 t g v hl
  have hlt := (List.getElem?_eq_some_iff.1 hj).1
  simp only [cond_true, Nat.zero_add, Array.getD_eq_getD_getElem?]
  rw [Array.getElem?_append_left (by simpa using hlt)]
  simp [hj]

section calls
variable {cx : Cx} {X : Nat → Prop} {env : Env} {fs : List Fact} {os : List Own} {g : Bool} {T : TypeId}

/-- What an operation enters. -/
def Enters (cx : Cx) (env : Env) (fs : List Fact) (os : List Own) (g : Bool) (op : Op) (T : TypeId) (N : FuncId) (vals : List Value) : Prop :=
  ∀ a w m, St cx env fs os a w m → g = true → ∀ d pos af gd, (execOp a.eval ⟨d, op, T, pos, af, gd⟩).run cx.P w = .ok (.enter N vals.toArray) w

theorem Enters.fn {N : FuncId} [hfn : FnAt cx.P N] {args : List Operand} {vals : List Value} {ts : Array TypeId} (ha : evs env g args vals) : Enters cx env fs os g (.call ⟨.value (.func N), args.toArray, ts⟩) T N vals :=
  fun a w m hs hg d pos af gd => by rw [run_call, ha.is hs hg]
/-- A function value with what it holds. -/
theorem Enters.val {N : FuncId} [hfn : FnAt cx.P N] {x : Operand} {gx : Bool} {caps : List Value} {args : List Operand} {vals : List Value} {ts : Array TypeId} (hx : ev env x = some (gx, .func (.func N) #[] caps.toArray)) (ha : evs env g args vals)
    (hi : g = true → gx = true := by first | exact fun _ => rfl | exact fun h => h | exact and1) : Enters cx env fs os g (.call ⟨.value x, args.toArray, ts⟩) T N (vals ++ caps) :=
  fun a w m hs hg d pos af gd => by
    obtain ⟨fn, h1, h2, h3⟩ := hfn.ok
    have h2' : ¬ fn.name = "runtime.NumGoroutine" := by simpa using h2
    have h3' : ¬ fn.body = none := fun e => by rw [e] at h3; cases h3
    have h4 := ha.is hs hg
    simp [execOp, resolve, hs.ev hx (hi hg), Deferred.ofValue, invoke, callFunc, h1]
    rw [if_neg h2', if_neg h3', h4]

/-- makeFunc -/
theorem QE.mkf {N : FuncId} {l : List Operand} {vals : List Value} (ha : evs env g l vals) : QE cx X env fs os g (.makeFunc (.func N) #[] l.toArray) T (.func (.func N) #[] vals.toArray) :=
  fun a w m hs hg w' _ _ _ _ _ => by
    have h4 := ha.is hs hg
    simp [execOp, Instr.makeFunc, h4]

/-- A call over the caller's blocks, which stand first. -/
theorem LX.callO {σ κ : Type} {d : Option Tmp} {op : Op} {N : FuncId} {vals : List Value} {fs1 : List Fact} {osP osR : List Own} {H : σ → Prop} {val : σ → κ → Value} {F : σ → κ → List Fact} {O : σ → κ → List Own}
    (hen : Enters cx env fs (osP ++ osR) true op T N vals) (hc : CtO cx.P N vals fs1 osP H val F O) (hf : FP true fs fs1) (hz : ∀ o ∈ osP, ∀ m w b, o.q m w → o.id b → m b = 0) (env' : {y : σ // H y} × κ → Env)
    (hput : ∀ fs' os' a w m (i : {y : σ // H y} × κ), St cx env fs' os' a w m → St cx (env' i) fs' os' (a.put d (val i.1.1 i.2)) w m) :
    LX cx env fs (osP ++ osR) true (idsOf osP) d op T env' (fun i => F i.1.1 i.2 ++ fs) (fun i => O i.1.1 i.2 ++ osR) := by
  intro a w m hs Q K hK pos af gd
  rw [if_pos rfl]
  unfold Oper.wp
  rw [hen a w m hs rfl]
  show Calls _ _ _ _ _
  have hpw := hs.apart
  rw [List.map_append, List.pairwise_append] at hpw
  refine (hc w m hs.fresh (hf.is hs rfl) (fun o ho => hs.owns o (List.mem_append_left _ ho)) (fun o ho b hb => (hs.ids o (List.mem_append_left _ ho) b hb).2) hpw.1).mono ?_
  rintro e w' ⟨y, s, m', hy, rfl, hb, hm, hfr, hF, hO, hI, hA⟩
  have hXz : ∀ b, idsOf osP b → m b = 0 := fun b ⟨o, ho, hob⟩ => hz o ho m w b (hs.owns o (List.mem_append_left _ ho)) hob
  have hlt : ∀ b i, i < m b → b < w.heap.size := fun b i hi => by
    rcases Nat.lt_or_ge b w.heap.size with h1 | h1
    · exact h1
    · rw [hs.fresh b h1] at hi; exact absurd hi (Nat.not_lt_zero _)
  have he : Ext m w m' w' := by
    refine ⟨fun b i hi => ?_, fun b => ?_, fun b es c hp hq => ?_⟩
    · have hn : ¬ idsOf osP b := fun e => by rw [hXz b e] at hi; exact absurd hi (Nat.not_lt_zero _)
      exact World.cell?_of_block (w := w) (hb.block b (hlt b i hi) hn)
    · rcases Nat.lt_or_ge b w.heap.size with h1 | h1
      · by_cases e : idsOf osP b
        · rw [hXz b e]; exact Nat.zero_le _
        · rw [hm b h1 e]; exact Nat.le_refl _
      · rw [hs.fresh b h1]; exact Nat.zero_le _
    · have hn : ¬ idsOf osP b := fun e => by rw [hXz b e] at hp; exact absurd hp (Nat.not_lt_zero _)
      exact (hb.block b (hlt b 0 hp) hn).trans hq
  have hR : ∀ o ∈ osR, ∀ b, o.id b → ¬ idsOf osP b := fun o ho b hob ⟨o', ho', hob'⟩ => hpw.2.2 _ (List.mem_map.2 ⟨o', ho', rfl⟩) _ (List.mem_map.2 ⟨o, ho, rfl⟩) b hob' hob
  have hXold : ∀ b, b < cx.w0.heap.size → ¬ cx.X b → ¬ idsOf osP b := fun b hb1 hx ⟨o, ho, hob⟩ => by
    rcases (hs.ids o (List.mem_append_left _ ho) b hob).1 with h1 | h1
    · omega
    · exact hx h1
  have hsz := hb.size
  have hsz0 := hs.below.size
  refine hK (⟨y, hy⟩, s) _ w' m' (hput _ _ a w' m' (⟨y, hy⟩, s) ?_) hb
  refine ⟨hs.size, hs.defers, hs.sees, ⟨hb.os.trans hs.below.os, hb.tape.trans hs.below.tape, hb.output.trans hs.below.output, Nat.le_trans hsz0 hsz, fun k hk hx => (hb.block k (by omega) (hXold k hk hx)).trans (hs.below.block k hk hx)⟩,
    fun b hb1 hx => (hm b (by omega) (hXold b hb1 hx)).trans (hs.old b hb1 hx), hfr, fun f hf => ?_, fun o ho => ?_, fun o ho b hob => ?_, ?_⟩
  · rcases List.mem_append.1 hf with h1 | h1
    · exact hF f h1
    · exact f.st he (hs.facts f h1)
  · rcases List.mem_append.1 ho with h1 | h1
    · exact hO o h1
    · have h2 := List.mem_append_right osP h1
      exact o.loc (fun b hob => ⟨hb.block b (hs.ids o h2 b hob).2 (hR o h1 b hob), hm b (hs.ids o h2 b hob).2 (hR o h1 b hob)⟩) (hs.owns o h2)
  · rcases List.mem_append.1 ho with h1 | h1
    · obtain ⟨h2, h3⟩ := hI o h1 b hob
      refine ⟨?_, h3⟩
      rcases h2 with h2 | ⟨o', ho', hob'⟩
      · exact .inl (by omega)
      · exact (hs.ids o' (List.mem_append_left _ ho') b hob').1
    · have := hs.ids o (List.mem_append_right _ h1) b hob
      exact ⟨this.1, by omega⟩
  · rw [List.map_append, List.pairwise_append]
    refine ⟨hA, hpw.2.1, fun x hx y' hy' b h1 h2 => ?_⟩
    obtain ⟨o, ho, rfl⟩ := List.mem_map.1 hx
    obtain ⟨o', ho', rfl⟩ := List.mem_map.1 hy'
    rcases (hI o ho b h1).1 with h3 | h3
    · have := (hs.ids o' (List.mem_append_right _ ho') b h2).2
      omega
    · exact hR o' ho' b h2 h3

/-- A call of a function value: its result kept. -/
theorem LX.callE {ρ : Type} [Res ρ] [FkR ρ] [Inhabited ρ] {d : Tmp} {op : Op} {N : FuncId} {vals : List Value} {fs1 : List Fact} {H : ρ → Prop}
    (hen : Enters cx env fs os g op T N vals) (hc : g = true → Ct cx.P N vals fs1 H) (hz : g = false → H default) (hf : FP g fs fs1) (hd : Nat.blt d cx.n = true := by rfl) :
    LX cx env fs os g (fun _ => False) (some d) op T (fun i : {y : ρ // H y} × Res.Raw ρ => (d, g, Res.val i.1.1 i.2) :: env) (fun i => FkR.facts g i.1.1 i.2 ++ fs) (fun _ => os) := by
  intro a w m hs Q K hK pos af gd
  split
  · rename_i hg
    unfold Oper.wp
    rw [hen a w m hs hg]
    show Calls _ _ _ _ _
    refine (hc hg w m hs.fresh (hf.is hs hg)).mono ?_
    rintro e w' ⟨y, s, m', hy, rfl, hb, hm, hfr, hok⟩
    have h1 := hs.grow hb hm hfr
    refine hK (⟨y, hy⟩, s) _ w' m' ?_ (.of hb)
    exact St.put { h1 with facts := facts_append (FkR.of fun _ => hok) h1.facts } hd (by rw [hg]; rfl)
  · rename_i hg
    have hg' : g = false := by simpa using hg
    refine hK (⟨default, hz hg'⟩, Res.dflt) _ w m ?_ (BelowX.refl _ _ _)
    exact St.put { hs with facts := facts_append (FkR.of fun h => by rw [hg'] at h; cases h) hs.facts } hd (by rw [hg']; rfl)

theorem FP.consP {α : Type} [R α] {g' : Bool} {x : α} {p : Value} {l : List Fact} (i : Nat) (hi : fs[i]? = some (Pl g' x p)) (hg : g = true → g' = true) (h : FP g fs l) : FP g fs (Pl true x p :: l) := ⟨⟨i, _, hi, fun h m w hf _ => hf (hg h)⟩, h⟩
theorem FP.consM {κ β : Type} [R κ] [R β] {l0 : List (κ × β)} {rs : List (R.Raw β)} {l : List Fact} (i : Nat) (hi : fs[i]? = some (Mok l0 rs)) (h : FP g fs l) : FP g fs (Mok l0 rs :: l) := ⟨⟨i, _, hi, fun _ m w hf => hf⟩, h⟩
end calls
end Go.Cw
