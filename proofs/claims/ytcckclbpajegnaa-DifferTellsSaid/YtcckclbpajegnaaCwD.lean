/- Types, places in structs and arrays, and the operations that read. Conditions: none; no program is named. -/
import Derived.Test.YtcckclbpajegnaaCwC
import Derived.KernelRfl
set_option linter.all false
set_option linter.unusedVariables false
set_option linter.unusedSimpArgs false
namespace Go.Cw
open Go Go.RowKit

/-- A type of the program, and the type of its data here. -/
class Ty (P : Program) (T : TypeId) (α : Type) [R α] : Prop where
  isagg : ∀ w, (isAgg T).run P w = .ok (R.agg α) w
  size : ∀ w, (sizeOf T).run P w = .ok (R.size α) w

/-- The zero value. -/
class Zr (P : Program) (T : TypeId) {α : Type} [R α] (z : outParam α) (r : outParam (R.Raw α)) : Prop where
  zero : ∀ w, (zeroValue T).run P w = .ok (V z r) w

/-- A field's place. -/
class Fld (P : Program) (T : TypeId) (f : Nat) (off : outParam Nat) : Prop where
  at_ : ∀ w b o, (Instr.fieldAt T (.pointer (some ⟨b, o, none⟩)) f).run P w = .ok (.pointer (some ⟨b, o + off, none⟩)) w

/-- A part of a datum. -/
structure Lens (α β : Type) [R α] [R β] where
  off : Nat
  get : α → β
  set : α → β → α
  getR : R.Raw α → R.Raw β
  setR : R.Raw α → R.Raw β → R.Raw α
  fits : off + R.size β ≤ R.size α
  rd : ∀ x r, ((R.cells x r).drop off).take (R.size β) = R.cells (get x) (getR r)
  wr : ∀ x r y s, R.cells (set x y) (setR r s) = (R.cells x r).take off ++ (R.cells y s ++ (R.cells x r).drop (off + R.size β))
  okg : ∀ {m w x r}, R.ok m w x r → R.ok m w (get x) (getR r)
  oks : ∀ {m w x r y s}, R.ok m w x r → R.ok m w y s → R.ok m w (set x y) (setR r s)

def Lens.id {α : Type} [R α] : Lens α α :=
  ⟨0, fun x => x, fun _ y => y, fun r => r, fun _ s => s, by simp, fun x r => by have := R.len x r; simp [← this],
   fun x r y s => by have := R.len x r; simp [← this], fun h => h, fun _ h => h⟩

def Lens.comp {α β γ : Type} [R α] [R β] [R γ] (k : Lens α β) (l : Lens β γ) : Lens α γ where
  off := k.off + l.off
  get x := l.get (k.get x)
  set x z := k.set x (l.set (k.get x) z)
  getR r := l.getR (k.getR r)
  setR r s := k.setR r (l.setR (k.getR r) s)
  fits := by have := k.fits; have := l.fits; omega
  rd x r := by
    rw [← l.rd, ← k.rd, List.drop_take, List.drop_drop, List.take_take]
    have := l.fits
    congr 1; omega
  wr x r y s := by
    rw [k.wr, l.wr, ← k.rd]
    have h1 := l.fits
    have h2 := k.fits
    have h3 := R.len x r
    apply List.ext_getElem?
    intro j
    simp only [List.getElem?_append, List.getElem?_take, List.getElem?_drop, List.length_take, List.length_drop, List.length_append, R.len, h3]
    repeat' split
    all_goals first | rfl | omega | (congr 1; omega) | (exfalso; omega) | skip
  okg h := l.okg (k.okg h)
  oks h hy := k.oks h (l.oks (k.okg h) hy)

section run
variable {P : Program} {w : World}

theorem add_mk (b o n : Nat) : (⟨b, o, none⟩ : Addr).add n = ⟨b, o + n, none⟩ := by unfold Addr.add; split <;> simp_all

theorem run_loadVar_cells {α : Type} [R α] {T : TypeId} [ht : Ty P T α] {x : α} {r : R.Raw α} {b off : Nat} (hc : ∀ j, j < R.size α → w.cell? ⟨b, off + j, none⟩ = (R.cells x r)[j]?) :
    (loadVar T ⟨b, off, none⟩).run P w = .ok (V x r) w := by
  unfold loadVar
  simp only [Sem.run_bind, ht.isagg w, Result.andThen_ok]
  unfold V
  cases h : R.agg α with
  | true =>
    simp only [if_true, Sem.run_bind, ht.size w, Result.andThen_ok, cond_true]
    have hl := run_loadCells_list (P := P) (w := w) ⟨b, off, none⟩ (R.cells x r) (fun j v hv => by
      have hj : j < R.size α := by rw [← R.len x r]; exact (List.getElem?_eq_some_iff.1 hv).1
      rw [add_mk, hc j hj, hv])
    rw [R.len x r] at hl
    simp [hl]
  | false =>
    have h1 := R.one (α := α) h
    have h2 := R.len x r
    rw [h1] at h2
    obtain ⟨v, hv⟩ := List.length_eq_one_iff.1 h2
    have := hc 0 (by omega)
    rw [hv] at this
    simp only [Bool.false_eq_true, if_false, run_load, cond_false, hv]
    simp at this
    simp [this]
end run

section ops
variable {cx : Cx} {X : Nat → Prop} {env : Env} {fs : List Fact} {os : List Own} {g : Bool} {T : TypeId}

theorem qe {a : Act} {w' : World} {o : Oper} {s : Sem Value} {v : Value} (he : execOp a.eval o = (do pure (.value (← s)))) (h : s.run cx.P w' = .ok v w') : (execOp a.eval o).run cx.P w' = .ok (.value v) w' := by
  rw [he]
  simp [h]

theorem and1 {a b : Bool} : (a && b) = true → a = true := by cases a <;> simp
theorem and2 {a b : Bool} : (a && b) = true → b = true := by cases a <;> simp
theorem wtrue (c : Bool) : wnt c true = c := rfl
theorem wfalse (c : Bool) : wnt c false = !c := rfl

theorem QE.move {x : Operand} {g' : Bool} {v : Value} (h : ev env x = some (g', v)) (hi : g = true → g' = true := by first | exact fun _ => rfl | exact fun h => h | exact and1) : QE cx X env fs os g (.move x) T v :=
  fun a w m hs hg w' _ _ _ _ _ => by simp only [execOp, hs.ev h (hi hg)]; rfl
theorem QE.assign {x : Operand} {g' : Bool} {v : Value} (h : ev env x = some (g', v)) (hi : g = true → g' = true := by first | exact fun _ => rfl | exact fun h => h | exact and1) : QE cx X env fs os g (.assign x) T v :=
  fun a w m hs hg w' _ _ _ _ _ => by simp only [execOp, hs.ev h (hi hg)]; rfl

/-- 'a && b' -/
theorem QE.and {c x : Operand} {gc gx cc b : Bool} (hc : ev env c = some (gc, .bool cc)) (hx : ev env x = some (gx, .bool b))
    (hi : g = true → gc = true := by first | exact fun _ => rfl | exact fun h => h | exact and1) (hj : g = true → cc = true → gx = true := by first | exact fun _ h => h | exact fun h k => by rw [h, k]; rfl | exact fun _ _ => rfl) :
    QE cx X env fs os g (.pick c x (.const (.bool false))) T (.bool (cc && b)) := fun a w m hs hg w' _ _ _ _ _ => by
  simp only [execOp, hs.ev hc (hi hg), asBool]
  cases hcc : cc with
  | true => simp [hs.ev hx (hj hg hcc)]
  | false => simp [Act.eval]
/-- 'a || b' -/
theorem QE.or {c x : Operand} {gc gx cc b : Bool} (hc : ev env c = some (gc, .bool cc)) (hx : ev env x = some (gx, .bool b))
    (hi : g = true → gc = true := by first | exact fun _ => rfl | exact fun h => h | exact and1) (hj : g = true → cc = false → gx = true := by first | exact fun _ h => by rw [h]; rfl | exact fun h k => by rw [h, k]; rfl | exact fun _ _ => rfl) :
    QE cx X env fs os g (.pick c (.const (.bool true)) x) T (.bool (cc || b)) := fun a w m hs hg w' _ _ _ _ _ => by
  simp only [execOp, hs.ev hc (hi hg), asBool]
  cases hcc : cc with
  | false => simp [hs.ev hx (hj hg hcc)]
  | true => simp [Act.eval]

theorem QE.not {x : Operand} {g' b : Bool} {t : TypeId} (h : ev env x = some (g', .bool b)) (hi : g = true → g' = true := by first | exact fun _ => rfl | exact fun h => h | exact and1) : QE cx X env fs os g (.unOp .not t x) T (.bool (!b)) :=
  fun a w m hs hg w' _ _ _ _ _ => qe (s := Op.unary .not (a.eval x)) rfl (by rw [hs.ev h (hi hg)]; rfl)

/-- what each comparison of integers says -/
def cmpI : BinOp → Int → Int → Bool
  | .eql, a, b => a == b
  | .neq, a, b => a != b
  | .lss, a, b => decide (a < b)
  | .leq, a, b => decide (a ≤ b)
  | .gtr, a, b => decide (a > b)
  | .geq, a, b => decide (a ≥ b)
  | _, _, _ => false

def isCmp : BinOp → Bool
  | .eql | .neq | .lss | .leq | .gtr | .geq => true
  | _ => false

theorem run_binOp_cmp {P : Program} {w : World} {op : BinOp} (hop : isCmp op = true) (t : TypeId) (k : IntKind) (a b : Int) : (binOp op t (.int k a) (.int k b)).run P w = .ok (.bool (cmpI op a b)) w := by
  cases op <;> first | (simp [isCmp] at hop; done) | (simp [binOp, Op.intCmp, cmpI])

theorem run_eqGuard_int {P : Program} {w : World} (op : BinOp) (t : TypeId) (x y : Operand) (k l : IntKind) (a b : Int) : (eqGuard op t x y (.int k a) (.int l b)).run P w = .ok () w := by
  unfold eqGuard
  split <;> simp

theorem QE.cmp {op : BinOp} {x y : Operand} {gx gy : Bool} {t t' : TypeId} {k : IntKind} {a b : Int} (hx : ev env x = some (gx, .int k a)) (hy : ev env y = some (gy, .int k b)) (hop : isCmp op = true := by rfl)
    (hi : g = true → gx = true := by first | exact fun _ => rfl | exact fun h => h | exact and1) (hj : g = true → gy = true := by first | exact fun _ => rfl | exact fun h => h | exact and1) :
    QE cx X env fs os g (.binOp op t x y t') T (.bool (cmpI op a b)) :=
  fun A w m hs hg w' _ _ _ _ _ => qe (s := do eqGuard op t x y (A.eval x) (A.eval y); binOp op t (A.eval x) (A.eval y)) rfl (by
    rw [hs.ev hx (hi hg), hs.ev hy (hj hg)]
    simp only [Sem.run_bind, run_eqGuard_int, Result.andThen_ok]
    exact run_binOp_cmp hop t k a b)

/-- what each sum, difference, product of integers comes to -/
def arI : BinOp → IntKind → Int → Int → Int
  | .add, k, a, b => k.wrap (a + b)
  | .sub, k, a, b => k.wrap (a - b)
  | .mul, k, a, b => k.wrap (a * b)
  | .quo, k, a, b => k.wrap (a.tdiv b)
  | .rem, _, a, b => a.tmod b
  | .and, k, a, b => k.wrap (BitVec.ofInt k.bits a &&& BitVec.ofInt k.bits b).toNat
  | .or, k, a, b => k.wrap (BitVec.ofInt k.bits a ||| BitVec.ofInt k.bits b).toNat
  | .xor, k, a, b => k.wrap (BitVec.ofInt k.bits a ^^^ BitVec.ofInt k.bits b).toNat
  | .andNot, k, a, b => k.wrap (BitVec.ofInt k.bits a &&& ~~~ BitVec.ofInt k.bits b).toNat
  | _, _, _, _ => 0

def isAr : BinOp → Bool
  | .add | .sub | .mul | .and | .or | .xor | .andNot => true
  | _ => false

theorem run_binOp_ar {P : Program} {w : World} {op : BinOp} (hop : isAr op = true) (t : TypeId) (k : IntKind) (a b : Int) : (binOp op t (.int k a) (.int k b)).run P w = .ok (.int k (arI op k a b)) w := by
  cases op <;> first | (simp [isAr] at hop; done) | (simp [binOp, Op.intArith, Op.intBits, arI])

theorem run_binOp_div {P : Program} {w : World} {op : BinOp} (hop : (op matches .quo | .rem) = true) (t : TypeId) (k : IntKind) (a b : Int) (hb : b ≠ 0) : (binOp op t (.int k a) (.int k b)).run P w = .ok (.int k (arI op k a b)) w := by
  cases op <;> first | (simp at hop; done) | (simp [binOp, Op.intDiv, arI, hb])

theorem QE.ar {op : BinOp} {x y : Operand} {gx gy : Bool} {t t' : TypeId} {k : IntKind} {a b : Int} (hx : ev env x = some (gx, .int k a)) (hy : ev env y = some (gy, .int k b)) (hop : isAr op = true := by rfl)
    (hi : g = true → gx = true := by first | exact fun _ => rfl | exact fun h => h | exact and1) (hj : g = true → gy = true := by first | exact fun _ => rfl | exact fun h => h | exact and1) :
    QE cx X env fs os g (.binOp op t x y t') T (.int k (arI op k a b)) :=
  fun A w m hs hg w' _ _ _ _ _ => qe (s := do eqGuard op t x y (A.eval x) (A.eval y); binOp op t (A.eval x) (A.eval y)) rfl (by
    rw [hs.ev hx (hi hg), hs.ev hy (hj hg)]
    simp only [Sem.run_bind, run_eqGuard_int, Result.andThen_ok]
    exact run_binOp_ar hop t k a b)

theorem QE.div {op : BinOp} {x y : Operand} {gx gy : Bool} {t t' : TypeId} {k : IntKind} {a b : Int} (hx : ev env x = some (gx, .int k a)) (hy : ev env y = some (gy, .int k b)) (hb : g = true → b ≠ 0) (hop : (op matches .quo | .rem) = true := by rfl)
    (hi : g = true → gx = true := by first | exact fun _ => rfl | exact fun h => h | exact and1) (hj : g = true → gy = true := by first | exact fun _ => rfl | exact fun h => h | exact and1) :
    QE cx X env fs os g (.binOp op t x y t') T (.int k (arI op k a b)) :=
  fun A w m hs hg w' _ _ _ _ _ => qe (s := do eqGuard op t x y (A.eval x) (A.eval y); binOp op t (A.eval x) (A.eval y)) rfl (by
    rw [hs.ev hx (hi hg), hs.ev hy (hj hg)]
    simp only [Sem.run_bind, run_eqGuard_int, Result.andThen_ok]
    exact run_binOp_div hop t k a b (hb hg))

/-- what a shift comes to -/
def shI : BinOp → IntKind → Int → Int → Int
  | .shl, k, a, n => k.wrap (a * 2 ^ (min n.toNat k.bits))
  | _, k, a, n => a.fdiv (2 ^ (min n.toNat k.bits))

theorem QE.sh {op : BinOp} {x y : Operand} {gx gy : Bool} {t t' : TypeId} {k l : IntKind} {a n : Int} (hx : ev env x = some (gx, .int k a)) (hy : ev env y = some (gy, .int l n)) (hn : g = true → 0 ≤ n) (hop : (op matches .shl | .shr) = true := by rfl)
    (hi : g = true → gx = true := by first | exact fun _ => rfl | exact fun h => h | exact and1) (hj : g = true → gy = true := by first | exact fun _ => rfl | exact fun h => h | exact and1) :
    QE cx X env fs os g (.binOp op t x y t') T (.int k (shI op k a n)) :=
  fun A w m hs hg w' _ _ _ _ _ => qe (s := do eqGuard op t x y (A.eval x) (A.eval y); binOp op t (A.eval x) (A.eval y)) rfl (by
    rw [hs.ev hx (hi hg), hs.ev hy (hj hg)]
    simp only [Sem.run_bind, run_eqGuard_int, Result.andThen_ok]
    have : ¬ n < 0 := by have := hn hg; omega
    cases op <;> first | (simp at hop; done) | (simp [binOp, Op.shift, shI, this]))

/-- A conversion between kinds of integers. -/
theorem QE.conv {x : Operand} {gx : Bool} {s t : TypeId} {k l : IntKind} {a : Int} (hx : ev env x = some (gx, .int k a)) (ht : ∀ w, (underlying t).run cx.P w = .ok (.int l) w) (hsrc : ∃ d, ∀ w, (underlying s).run cx.P w = .ok d w)
    (hi : g = true → gx = true := by first | exact fun _ => rfl | exact fun h => h | exact and1) :
    QE cx X env fs os g (.convert s t x) T (.int l (l.wrap a)) :=
  fun A w m hs hg w' _ _ _ _ _ => qe (s := convert s t (A.eval x)) rfl (by
    obtain ⟨d, hd⟩ := hsrc
    rw [hs.ev hx (hi hg)]
    simp only [convert, Sem.run_bind, hd w', ht w', Result.andThen_ok, Conv.intToInt]
    cases d <;> rfl)

/-- A pointer that is not nil. -/
theorem QE.nilCheck {x : Operand} {gx : Bool} {p : Addr} (hx : ev env x = some (gx, .pointer (some p))) (hi : g = true → gx = true := by first | exact fun _ => rfl | exact fun h => h | exact and1) :
    QE cx X env fs os g (.nilCheck x) T (.pointer (some p)) :=
  fun A w m hs hg w' _ _ _ _ _ => by simp only [execOp, hs.ev hx (hi hg)]; rfl

/-- A field's address, at an address that is known. -/
theorem QE.fa {x : Operand} {gx : Bool} {t f off b o : Nat} [hf : Fld cx.P t f off] (hx : ev env x = some (gx, .pointer (some ⟨b, o, none⟩))) (hi : g = true → gx = true := by first | exact fun _ => rfl | exact fun h => h | exact and1) :
    QE cx X env fs os g (.fieldAddr t x f) T (.pointer (some ⟨b, o + off, none⟩)) :=
  fun A w m hs hg w' _ _ _ _ _ => qe (s := Instr.fieldAt t (A.eval x) f) rfl (by rw [hs.ev hx (hi hg)]; exact hf.at_ w' b o)

/-- A load out of a block of the call's own. -/
theorem QE.ld {α β : Type} [R α] [R β] {x : Operand} {gx : Bool} {t b o T0 : Nat} {y : α} {r : R.Raw α} [ht : Ty cx.P t β] (i : Nat) (L : Lens α β) (hx : ev env x = some (gx, .pointer (some ⟨b, o, none⟩))) (hi : os[i]? = some (bx y r b T0)) (ho : L.off = o := by rfl)
    (hX : ∀ a w m, St cx env fs os a w m → ¬ X b := by exact fun _ _ _ _ h => h) (hj : g = true → gx = true := by first | exact fun _ => rfl | exact fun h => h | exact and1) :
    QE cx X env fs os g (.load t x) T (V (L.get y) (L.getR r)) :=
  fun A w m hs hg w' hw' _ _ _ _ => qe (s := Instr.loadAt t (A.eval x)) rfl (by
    rw [hs.ev hx (hj hg)]
    simp only [Instr.loadAt, Instr.sureAddr, Sem.run_bind, Sem.run_pure, Result.andThen_ok]
    refine run_loadVar_cells fun j hj => ?_
    have hq := (hs.own hi).1
    have hb := (hs.ids _ (List.mem_of_getElem? hi) b rfl).2
    rw [cell_of_row w' b (o + j) _ T0 (0, 0) ((hw'.block b hb (hX A w m hs)).trans hq), ← L.rd]
    subst ho
    simp [List.getElem?_drop, hj])

/-- A load at a place that does not turn. -/
theorem QX.ld {β : Type} [R β] {x : Operand} {gx gp : Bool} {t : Nat} {y : β} {p : Value} [ht : Ty cx.P t β] (i : Nat) (hx : ev env x = some (gx, p)) (hi : fs[i]? = some (Pl gp y p)) (hX : ∀ a w m, St cx env fs os a w m → ∀ b, X b → m b = 0 := by exact fun _ _ _ _ _ h => h.elim)
    (hj : g = true → gx = true := by first | exact fun _ => rfl | exact fun h => h | exact and1) (hk : g = true → gp = true := by first | exact fun _ => rfl | exact fun h => h | exact and1) :
    QX cx X env fs os g (.load t x) T (fun r => V y r) (fun r => Fk g y r) := by
  intro A w m hs
  cases hg : g with
  | false => exact ⟨R.dflt, (fun h => by cases h), (fun h => by cases h)⟩
  | true =>
    obtain ⟨b, off, r, rfl, hc, hok⟩ := hs.fact hi (hk hg)
    refine ⟨r, fun _ w' hw' _ _ _ _ => qe (s := Instr.loadAt t (A.eval x)) rfl ?_, fun _ => hok⟩
    rw [hs.ev hx (hj hg)]
    simp only [Instr.loadAt, Instr.sureAddr, Sem.run_bind, Sem.run_pure, Result.andThen_ok]
    refine run_loadVar_cells fun j hj => ?_
    have hlen := R.len y r
    have hlt : b < w.heap.size := by
      rcases Nat.lt_or_ge b w.heap.size with h1 | h1
      · exact h1
      · have h2 := hs.fresh b h1
        have h3 := hc.1
        rw [h2, hlen] at h3; omega
    have hnx : ¬ X b := fun e => by
      have h2 := hX A w m hs b e
      have h3 := hc.1
      rw [h2, hlen] at h3; omega
    rw [World.cell?_of_block (w := w) (hw'.block b hlt hnx)]
    exact hc.2 j (by rw [hlen]; exact hj)

/-- A field's address at such a place. -/
theorem QX.fa {α β : Type} [R α] [R β] {x : Operand} {gx gp : Bool} {t f : Nat} {y : α} {p : Value} (i : Nat) (L : Lens α β) [hf : Fld cx.P t f L.off] (hx : ev env x = some (gx, p)) (hi : fs[i]? = some (Pl gp y p))
    (hj : g = true → gx = true := by first | exact fun _ => rfl | exact fun h => h | exact and1) (hk : g = true → gp = true := by first | exact fun _ => rfl | exact fun h => h | exact and1) :
    QX cx X env fs os g (.fieldAddr t x f) T (fun q : Value => q) (fun q => Pl g (L.get y) q) := by
  intro A w m hs
  cases hg : g with
  | false => exact ⟨undef, (fun h => by cases h), (fun h => by cases h)⟩
  | true =>
    obtain ⟨b, off, r, rfl, hc, hok⟩ := hs.fact hi (hk hg)
    refine ⟨.pointer (some ⟨b, off + L.off, none⟩), fun _ w' hw' _ _ _ _ => qe (s := Instr.fieldAt t (A.eval x) f) rfl ?_, fun _ => ⟨b, off + L.off, L.getR r, rfl, ⟨?_, fun j hj => ?_⟩, L.okg hok⟩⟩
    · rw [hs.ev hx (hj hg)]; exact hf.at_ w' b off
    · have h1 := L.fits
      have h2 := hc.1
      rw [R.len] at h2 ⊢
      omega
    · rw [R.len] at hj
      have h1 := L.fits
      have h2 := hc.2 (L.off + j) (by rw [R.len]; omega)
      rw [Nat.add_assoc, h2, ← L.rd]
      simp [List.getElem?_drop, hj]
end ops
end Go.Cw
