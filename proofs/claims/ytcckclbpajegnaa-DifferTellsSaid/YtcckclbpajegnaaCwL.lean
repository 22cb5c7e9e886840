/- Cuts of arrays and slices; slices that are turned in place; results over blocks of the caller's. Conditions: none; no program is named. -/
import Derived.Test.YtcckclbpajegnaaCwK
import GoSem.Extern.BytealgCompare
set_option linter.all false
set_option linter.unusedVariables false
set_option linter.unusedSimpArgs false
namespace Go.Cw
open Go Go.RowKit

/-- A plain truth, as a fact. -/
def Pr (p : Prop) : Fact := ⟨fun _ _ => p, fun _ h => h⟩

section ops
variable {cx : Cx} {X : Nat → Prop} {env : Env} {fs : List Fact} {os : List Own} {g : Bool} {T : TypeId} {Q : Post0} {ops : Array Oper}

theorem GL.pure {l : List Oper} {p : Prop} (j : Nat) (hj : fs[j]? = some (Pr p)) (h : p → GL cx ops Q env fs os l) : GL cx ops Q env fs os l := fun a w m hs => h (hs.fact hj) a w m hs
theorem GH.pure {l : Plan} {p : Prop} (j : Nat) (hj : fs[j]? = some (Pr p)) (h : p → GH cx X ops Q env fs os l) : GH cx X ops Q env fs os l := fun a w m hs => h (hs.fact hj) a w m hs
theorem GT.pure {l : List Nat} {p : Prop} (j : Nat) (hj : fs[j]? = some (Pr p)) (h : p → GT cx X ops Q env fs os l) : GT cx X ops Q env fs os l := fun a w m hs => h (hs.fact hj) a w m hs

theorem run_nilEq {P : Program} {w : World} {t E : TypeId} (hu : P.underlying t = some (.slice E)) (a : Option Addr) (n k m c d : Nat) : (Op.equalIn (d + 1) t (.slice a n k) (.slice none m c)).run P w = .ok a.isNone w := by
  unfold Op.equalIn
  simp only [Sem.run_bind, run_underlying hu, Result.andThen_ok]
  cases a <;> rfl

/-- Is a slice nil? -/
theorem QX.eqNil {α : Type} [R α] {x : Operand} {gx gp : Bool} {t t' E n c : TypeId} {xs : List α} {r : Option Addr × Nat} (j : Nat) (hu : cx.P.underlying t = some (.slice E)) (hx : ev env x = some (gx, V xs r)) (hj : fs[j]? = some (Fk gp xs r))
    (hi : g = true → gx = true := by first | exact fun _ => rfl | exact fun h => h | exact and1) (hk : g = true → gp = true := by first | exact fun _ => rfl | exact fun h => h | exact and1) :
    QX cx X env fs os g (.binOp .eql t x (.const (.slice none n c)) t') T (fun b : Bool => .bool b) (fun b => Pr (g = true → b = true → xs = [])) := by
  intro A w m hs
  refine ⟨r.1.isNone, fun hg w' hw' d pos af gd => qe (s := do eqGuard .eql t x (.const (.slice none n c)) (A.eval x) (A.eval (.const (.slice none n c))); binOp .eql t (A.eval x) (A.eval (.const (.slice none n c)))) rfl ?_, fun hg hb => ?_⟩
  · rw [hs.ev hx (hi hg)]
    show (do eqGuard .eql t x _ (.slice r.1 xs.length r.2) (.slice none n c); binOp .eql t (.slice r.1 xs.length r.2) (.slice none n c)).run cx.P w' = _
    obtain ⟨a, k⟩ := r
    have h1 : ∀ (u v : Value), u = .slice a xs.length k → v = .slice none n c → (eqGuard .eql t x (.const (.slice none n c)) u v).run cx.P w' = .ok () w' := by
      rintro u v rfl rfl
      simp [eqGuard]
    simp only [Sem.run_bind, h1 _ _ rfl rfl, Result.andThen_ok, binOp, Op.equal]
    have h2 := run_nilEq (P := cx.P) (w := w') hu a xs.length k n c 9999
    rw [show Op.maxDepth = 9999 + 1 from rfl, h2]
    rfl
  · rcases hs.fact hj (hk hg) with h1 | ⟨b, off, rs, h1, _⟩
    · exact h1
    · rw [h1] at hb; cases hb

/-! ### Cuts of what does not turn -/

theorem run_bound {P : Program} {w : World} {k : IntKind} {i : Int} {y : Nat} {code : BoundsCode} (h : 0 ≤ i ∧ i ≤ y) : (Instr.sliceBound (.int k i) y code).run P w = .ok i.toNat w := by
  simp only [Instr.sliceBound, asIntOf, Sem.run_bind, Sem.run_pure, Result.andThen_ok]
  rw [if_pos h]
  rfl

/-- An operand that may be missing. -/
def ob (env : Env) (g : Bool) : Option Operand → Option Int → Prop
  | none, none => True
  | some x, some i => ∃ gx k, ev env x = some (gx, .int k i) ∧ (g = true → gx = true)
  | _, _ => False

theorem ob.none : ob env g none none := trivial
theorem ob.some {x : Operand} {gx : Bool} {k : IntKind} {i : Int} (hx : ev env x = some (gx, .int k i)) (hi : g = true → gx = true) : ob env g (some x) (some i) := ⟨gx, k, hx, hi⟩

theorem run_bounds {a : Act} {w w' : World} {m : WM} (hs : St cx env fs os a w m) (hg : g = true) {lo hi : Option Operand} {l h : Option Int} (hl : ob env g lo l) (hh : ob env g hi h) {is : Bool} {n cap : Nat}
    (hb : 0 ≤ l.getD 0 ∧ l.getD 0 ≤ h.getD n ∧ h.getD n ≤ cap) : (Instr.sliceBounds is n cap (lo.map a.eval) (hi.map a.eval) none).run cx.P w' = .ok ((l.getD 0).toNat, (h.getD n).toNat, cap) w' := by
  obtain ⟨b1, b2, b3⟩ := hb
  cases lo with
  | none =>
    cases l with
    | some _ => exact hl.elim
    | none =>
      cases hi with
      | none =>
        cases h with
        | some _ => exact hh.elim
        | none => simp [Instr.sliceBounds]
      | some y =>
        cases h with
        | none => exact hh.elim
        | some j =>
          obtain ⟨gy, k, hy, hi'⟩ := hh
          simp only [Option.getD_some, Option.getD_none] at b1 b2 b3
          have h1 := fun code => run_bound (P := cx.P) (w := w') (k := k) (code := code) (i := j) (y := cap) ⟨by omega, by omega⟩
          simp [Instr.sliceBounds, hs.ev hy (hi' hg), h1]
  | some x =>
    cases l with
    | none => exact hl.elim
    | some i =>
      obtain ⟨gx, k, hx, hi1⟩ := hl
      cases hi with
      | none =>
        cases h with
        | some _ => exact hh.elim
        | none =>
          simp only [Option.getD_some, Option.getD_none] at b1 b2 b3
          have h1 := fun code => run_bound (P := cx.P) (w := w') (k := k) (code := code) (i := i) (y := n) ⟨by omega, by omega⟩
          simp [Instr.sliceBounds, hs.ev hx (hi1 hg), h1]
      | some y =>
        cases h with
        | none => exact hh.elim
        | some j =>
          obtain ⟨gy, k', hy, hi'⟩ := hh
          simp only [Option.getD_some, Option.getD_none] at b1 b2 b3
          have h1 := fun code => run_bound (P := cx.P) (w := w') (k := k') (code := code) (i := j) (y := cap) ⟨by omega, by omega⟩
          have h2 := fun code => run_bound (P := cx.P) (w := w') (k := k) (code := code) (i := i) (y := j.toNat) ⟨by omega, by omega⟩
          simp [Instr.sliceBounds, hs.ev hx (hi1 hg), hs.ev hy (hi' hg), h1, h2]

/-- A piece of a list. -/
def cut {α : Type} (xs : List α) (l h : Int) : List α := (xs.drop l.toNat).take (h.toNat - l.toNat)

theorem cut_length {α : Type} {xs : List α} {l h : Int} (h0 : 0 ≤ l ∧ l ≤ h ∧ h ≤ xs.length) : (cut xs l h).length = h.toNat - l.toNat := by
  simp only [cut, List.length_take, List.length_drop]; omega

class ArrS (P : Program) (T : TypeId) (n : outParam Nat) (E : outParam TypeId) : Prop where
  und : P.underlying T = some (.array n E)
  one : ∀ w, (sizeOf E).run P w = .ok 1 w

theorem okl_c1 {α : Type} [C1 α] {m : WM} {w : World} : ∀ xs : List α, okl m w xs (xs.map fun _ => ())
  | [] => trivial
  | _ :: xs => ⟨trivial, okl_c1 xs⟩
theorem flat_c1 {α : Type} [C1 α] : ∀ xs : List α, flat xs (xs.map fun _ => ()) = xs.map C1.c1
  | [] => rfl
  | x :: xs => by
    show [C1.c1 x] ++ flat xs (xs.map fun _ => ()) = _
    rw [flat_c1 xs]; rfl
theorem okl_unit {α : Type} [C1 α] {m : WM} {w : World} {xs : List α} {rs : List Unit} (h : okl m w xs rs) : rs = xs.map fun _ => () := by
  have := okl.length h
  refine List.ext_getElem (by simpa using this) fun i _ _ => rfl

/-- A piece of an array that does not turn. -/
theorem QX.cutV {α : Type} [C1 α] [Inhabited α] {x : Operand} {gx gp : Bool} {t n E : Nat} {v : Vector α n} {p : Value} {lo hi : Option Operand} {l h : Option Int} [ha : ArrS cx.P t n E] (j : Nat) (hx : ev env x = some (gx, p)) (hf : fs[j]? = some (Pl gp v p)) (hl : ob env g lo l) (hh : ob env g hi h)
    (hb : g = true → 0 ≤ l.getD 0 ∧ l.getD 0 ≤ h.getD n ∧ h.getD n ≤ n)
    (hi1 : g = true → gx = true := by first | exact fun _ => rfl | exact fun h => h | exact and1) (hk : g = true → gp = true := by first | exact fun _ => rfl | exact fun h => h | exact and1) :
    QX cx X env fs os g (.slice t x lo hi none) T (fun q : Option Addr × Nat => V (cut v.toList (l.getD 0) (h.getD n)) q) (fun q => Fk g (cut v.toList (l.getD 0) (h.getD n)) q) := by
  intro A w m hs
  cases hg : g with
  | false => exact ⟨(none, 0), (fun h => by cases h), (fun h => by cases h)⟩
  | true =>
    subst hg
    obtain ⟨b, off, r, rfl, hc, hok⟩ := hs.fact hf (hk rfl)
    have hb' := hb rfl
    obtain ⟨b1, b2, b3⟩ := hb'
    have hlen : (cut v.toList (l.getD 0) (h.getD n)).length = (h.getD n).toNat - (l.getD 0).toNat := cut_length ⟨b1, b2, by simpa using b3⟩
    refine ⟨(some (if n = (l.getD 0).toNat then ⟨b, off, none⟩ else (⟨b, off, none⟩ : Addr).add ((l.getD 0).toNat * 1)), n - (l.getD 0).toNat), fun _ w' hw' d pos af gd => qe (s := Instr.sliceAt t (A.eval x) (lo.map A.eval) (hi.map A.eval) none) rfl ?_, fun _ => ?_⟩
    · rw [hs.ev hx (hi1 rfl)]
      simp only [Instr.sliceAt, run_underlying ha.und, Instr.sureAddr, Sem.run_bind, Sem.run_pure, Result.andThen_ok, run_bounds hs rfl hl hh ⟨b1, b2, b3⟩, ha.one w']
      show _ = Result.ok (Value.slice _ (cut v.toList (l.getD 0) (h.getD n)).length _) w'
      rw [hlen]
    · by_cases e : n = (l.getD 0).toNat
      · left
        refine List.eq_nil_of_length_eq_zero ?_
        rw [hlen]; omega
      · right
        refine ⟨b, off + (l.getD 0).toNat, _, by rw [if_neg e, Nat.mul_one, add_mk], okl_c1 _, ?_⟩
        rw [flat_c1]
        have hc1 := hc.1
        rw [R.len] at hc1
        change off + n ≤ _ at hc1
        refine ⟨by rw [List.length_map, hlen]; omega, fun j hj => ?_⟩
        rw [List.length_map, hlen] at hj
        have h2 := hc.2 ((l.getD 0).toNat + j) (by rw [R.len]; change _ < n; omega)
        rw [Nat.add_assoc, h2]
        show (v.toList.map C1.c1)[_]? = _
        simp only [cut, List.getElem?_map, List.getElem?_take, List.getElem?_drop]
        rw [if_pos hj]

/-- A piece of a list that does not turn. -/
theorem QX.cutS {α : Type} [R α] {x : Operand} {gx gp : Bool} {t : Nat} {xs : List α} {r : Option Addr × Nat} {lo hi : Option Operand} {l h : Option Int} [ha : Slc cx.P t α] (j : Nat) (hx : ev env x = some (gx, V xs r)) (hf : fs[j]? = some (Fk gp xs r)) (hl : ob env g lo l) (hh : ob env g hi h)
    (hb : g = true → 0 ≤ l.getD 0 ∧ l.getD 0 ≤ h.getD xs.length ∧ h.getD xs.length ≤ xs.length) (hcap : ∀ a w m, St cx env fs os a w m → xs.length ≤ r.2)
    (hi1 : g = true → gx = true := by first | exact fun _ => rfl | exact fun h => h | exact and1) (hk : g = true → gp = true := by first | exact fun _ => rfl | exact fun h => h | exact and1) :
    QX cx X env fs os g (.slice t x lo hi none) T (fun q : Option Addr × Nat => V (cut xs (l.getD 0) (h.getD xs.length)) q) (fun q => Fk g (cut xs (l.getD 0) (h.getD xs.length)) q) := by
  intro A w m hs
  cases hg : g with
  | false => exact ⟨(none, 0), (fun h => by cases h), (fun h => by cases h)⟩
  | true =>
    subst hg
    obtain ⟨b1, b2, b3⟩ := hb rfl
    obtain ⟨E, hE, hsz⟩ := ha.el
    have hcp := hcap A w m hs
    have hlen : (cut xs (l.getD 0) (h.getD xs.length)).length = (h.getD xs.length).toNat - (l.getD 0).toNat := cut_length ⟨b1, b2, b3⟩
    refine ⟨(if r.2 = (l.getD 0).toNat then r.1 else r.1.map (·.add ((l.getD 0).toNat * R.size α)), r.2 - (l.getD 0).toNat), fun _ w' hw' d pos af gd => qe (s := Instr.sliceAt t (A.eval x) (lo.map A.eval) (hi.map A.eval) none) rfl ?_, fun _ => ?_⟩
    · rw [hs.ev hx (hi1 rfl)]
      show (Instr.sliceAt t (.slice r.1 xs.length r.2) (lo.map A.eval) (hi.map A.eval) none).run cx.P w' = _
      simp only [Instr.sliceAt, Instr.slice, run_underlying hE, Instr.sureAddr, Sem.run_bind, Sem.run_pure, Result.andThen_ok, run_bounds hs rfl hl hh (n := xs.length) (cap := r.2) ⟨b1, b2, by omega⟩, hsz w']
      show _ = Result.ok (Value.slice _ (cut xs (l.getD 0) (h.getD xs.length)).length _) w'
      rw [hlen]
    · rcases hs.fact hf (hk rfl) with hnil | ⟨b, off, rs, hr, hol, hc⟩
      · left; simp [cut, hnil]
      · by_cases e : r.2 = (l.getD 0).toNat
        · left
          refine List.eq_nil_of_length_eq_zero ?_
          rw [hlen]; omega
        · right
          have aux : ∀ {xs : List α} {rs : List (R.Raw α)} (i : Nat), okl m w xs rs → okl m w (xs.drop i) (rs.drop i) := by
            intro xs
            induction xs with
            | nil => intro rs i h; cases rs with
              | nil => simpa using h
              | cons _ _ => exact h.elim
            | cons x xs ih => intro rs i h; cases rs with
              | nil => exact h.elim
              | cons r rs => cases i with
                | zero => exact h
                | succ i => exact ih i h.2
          have aux2 : ∀ {xs : List α} {rs : List (R.Raw α)} (i : Nat), okl m w xs rs → okl m w (xs.take i) (rs.take i) := by
            intro xs
            induction xs with
            | nil => intro rs i h; cases rs with
              | nil => simpa using h
              | cons _ _ => exact h.elim
            | cons x xs ih => intro rs i h; cases rs with
              | nil => exact h.elim
              | cons r rs => cases i with
                | zero => trivial
                | succ i => exact ⟨h.1, ih i h.2⟩
          have auxf : ∀ {xs : List α} {rs : List (R.Raw α)} (i : Nat), rs.length = xs.length → i ≤ xs.length → flat (xs.drop i) (rs.drop i) = (flat xs rs).drop (i * R.size α) := by
            intro xs
            induction xs with
            | nil => intro rs i h hi; cases rs with
              | nil => simp [flat]
              | cons _ _ => simp at h
            | cons x xs ih => intro rs i h hi; cases rs with
              | nil => simp at h
              | cons r rs => cases i with
                | zero => simp
                | succ i =>
                  simp only [List.drop_succ_cons, flat]
                  rw [ih i (by simpa using h) (by simpa using hi), Nat.succ_mul, Nat.add_comm (i * _), List.drop_append, List.drop_of_length_le (l := R.cells x r) (by rw [R.len]; omega), R.len]
                  simp
          have auxg : ∀ {xs : List α} {rs : List (R.Raw α)} (i : Nat), rs.length = xs.length → i ≤ xs.length → flat (xs.take i) (rs.take i) = (flat xs rs).take (i * R.size α) := by
            intro xs
            induction xs with
            | nil => intro rs i h hi; cases rs with
              | nil => simp [flat]
              | cons _ _ => simp at h
            | cons x xs ih => intro rs i h hi; cases rs with
              | nil => simp at h
              | cons r rs => cases i with
                | zero => simp [flat]
                | succ i =>
                  simp only [List.take_succ_cons, flat]
                  rw [ih i (by simpa using h) (by simpa using hi), Nat.succ_mul, Nat.add_comm (i * _), List.take_append, List.take_of_length_le (l := R.cells x r) (by rw [R.len]; omega), R.len]
                  simp
          have hrl := hol.length
          refine ⟨b, off + (l.getD 0).toNat * R.size α, (rs.drop (l.getD 0).toNat).take ((h.getD xs.length).toNat - (l.getD 0).toNat), by rw [if_neg e, hr]; simp [add_mk], aux2 _ (aux _ hol), ?_⟩
          have h1 : (l.getD 0).toNat ≤ xs.length := by omega
          rw [show cut xs (l.getD 0) (h.getD xs.length) = (xs.drop (l.getD 0).toNat).take ((h.getD xs.length).toNat - (l.getD 0).toNat) from rfl, auxg _ (by simp [hrl]) (by simp; omega), auxf _ hrl h1]
          have hfl := flat_length hrl
          have hmul : (h.getD xs.length).toNat * R.size α ≤ xs.length * R.size α := Nat.mul_le_mul_right _ (by omega)
          have hsub : ((h.getD xs.length).toNat - (l.getD 0).toNat) * R.size α + (l.getD 0).toNat * R.size α ≤ xs.length * R.size α := by
            rw [← Nat.add_mul]; exact Nat.mul_le_mul_right _ (by omega)
          have hc1 := hc.1
          refine ⟨?_, fun j hj => ?_⟩
          · rw [List.length_take, List.length_drop, hfl]; omega
          · rw [List.length_take, List.length_drop, hfl] at hj
            rw [Nat.add_assoc, hc.2 _ (by rw [hfl]; omega)]
            rw [List.getElem?_take, if_pos (by omega), List.getElem?_drop]

def vtake {α : Type} [Inhabited α] (n : Nat) (xs : List α) : Vector α n := Vector.ofFn fun i => xs.getD i.val default

/-- A slice as an array. -/
theorem QX.arr {α : Type} [C1 α] [Inhabited α] {x : Operand} {gx gp : Bool} {t n E : Nat} {xs : List α} {r : Option Addr × Nat} [ha : ArrS cx.P t n E] (j : Nat) (hx : ev env x = some (gx, V xs r)) (hf : fs[j]? = some (Fk gp xs r)) (hn : 0 < n) (hb : g = true → n ≤ xs.length)
    (hi1 : g = true → gx = true := by first | exact fun _ => rfl | exact fun h => h | exact and1) (hk : g = true → gp = true := by first | exact fun _ => rfl | exact fun h => h | exact and1) :
    QX cx X env fs os g (.sliceToArrayPointer t x) T (fun p : Value => p) (fun p => Pl g (vtake n xs) p) := by
  intro A w m hs
  cases hg : g with
  | false => exact ⟨undef, (fun h => by cases h), (fun h => by cases h)⟩
  | true =>
    subst hg
    have hle := hb rfl
    rcases hs.fact hf (hk rfl) with hnil | ⟨b, off, rs, hr, hol, hc⟩
    · rw [hnil] at hle; simp at hle; omega
    · have hrs := okl_unit hol
      subst hrs
      rw [flat_c1] at hc
      refine ⟨.pointer (some ⟨b, off, none⟩), fun _ w' hw' d pos af gd => qe (s := Instr.arrayAt t (A.eval x)) rfl ?_, fun _ => ⟨b, off, (), rfl, ?_, trivial⟩⟩
      · rw [hs.ev hx (hi1 rfl)]
        show (Instr.arrayAt t (.slice r.1 xs.length r.2)).run cx.P w' = _
        simp only [Instr.arrayAt, Sem.run_bind, run_underlying ha.und, Result.andThen_ok, Sem.run_pure]
        rw [if_neg (by omega), hr]
        rfl
      · have hc1 := hc.1
        rw [List.length_map] at hc1
        refine ⟨by rw [R.len]; change off + n ≤ _; omega, fun j hj => ?_⟩
        rw [R.len] at hj
        change j < n at hj
        rw [hc.2 j (by rw [List.length_map]; omega)]
        show (xs.map C1.c1)[j]? = ((vtake n xs).toList.map C1.c1)[j]?
        have hjx : j < xs.length := by omega
        simp [vtake, hj, hjx]

/-- internal/bytealg.Compare -/
def bcmp (xs ys : List UInt8) : Int := Extern.BytealgCompare.cmp ⟨xs.toArray⟩ ⟨ys.toArray⟩

theorem run_loadBytes {P : Program} {w : World} : ∀ (xs : List UInt8) (b off : Nat) (acc : ByteArray), (∀ j, j < xs.length → w.cell? ⟨b, off + j, none⟩ = (xs.map C1.c1)[j]?) →
    (Extern.Bytes.loadBytes ⟨b, off, none⟩ xs.length acc).run P w = .ok ⟨acc.data ++ xs.toArray⟩ w
  | [], b, off, acc, _ => by simp [Extern.Bytes.loadBytes]
  | x :: xs, b, off, acc, h => by
    have h0 := h 0 (by simp)
    simp only [Nat.add_zero, List.map_cons, List.getElem?_cons_zero] at h0
    have ih := run_loadBytes (P := P) xs b (off + 1) (acc.push x) (fun j hj => by
      have := h (j + 1) (by simpa using hj)
      rw [Nat.add_assoc, Nat.add_comm 1 j, this]; simp)
    simp only [Extern.Bytes.loadBytes, List.length_cons, Sem.run_bind, run_load, h0, Result.andThen_ok]
    rw [show C1.c1 x = Value.int .u8 x.toNat from rfl]
    simp only [Extern.Bytes.asByte, Sem.run_bind, Sem.run_pure, Result.andThen_ok, add_mk]
    have hx : ((x.toNat : Int).toNat.toUInt8) = x := by simp
    rw [hx]
    rw [ih]
    congr 2
    simp [ByteArray.push]

theorem run_bytes {P : Program} {m : WM} {w w' : World} {xs : List UInt8} {r : Option Addr × Nat} (h : Sl m w xs r.1) (hw : ∀ b i, i < m b → w'.cell? ⟨b, i, none⟩ = w.cell? ⟨b, i, none⟩) : (Extern.Bytes.bytesOf (V xs r)).run P w' = .ok ⟨xs.toArray⟩ w' := by
  show (Extern.Bytes.bytesOf (.slice r.1 xs.length r.2)).run P w' = _
  rcases h with rfl | ⟨b, off, rs, hr, ho, hc⟩
  · cases r.1 <;> rfl
  · have := okl_unit ho
    subst this
    rw [flat_c1] at hc
    rw [hr]
    have hc1 := hc.1
    rw [List.length_map] at hc1
    simp only [Extern.Bytes.bytesOf]
    rw [run_loadBytes xs b off .empty (fun j hj => by rw [hw b _ (by omega)]; exact hc.2 j (by simpa using hj))]
    rw [show (ByteArray.empty).data ++ xs.toArray = xs.toArray from by
      show (#[] : Array UInt8) ++ xs.toArray = _
      simp]

theorem LX.bcmp {d : Tmp} {N : FuncId} {fn : Func} {x y : Operand} {ts : Array TypeId} {xs ys : List UInt8} {r s : Option Addr × Nat} (i j : Nat) (hf : cx.P.funcs[N]? = some fn) (h1 : (fn.name == "runtime.NumGoroutine") = false) (h2 : fn.body.isNone = true) (h3 : (Extern.findNext fn).isNone = true) (h4 : Extern.find fn = some Extern.BytealgCompare.compare)
    (hx : ev env x = some (true, V xs r)) (hy : ev env y = some (true, V ys s)) (hi : fs[i]? = some (Fk true xs r)) (hj : fs[j]? = some (Fk true ys s)) (hd : Nat.blt d cx.n = true := by rfl) :
    LX cx env fs os true (fun _ => False) (some d) (.call ⟨.value (.func N), #[x, y], ts⟩) T (fun _ : Unit => (d, true, .int .i64 (bcmp xs ys)) :: env) (fun _ => fs) (fun _ => os) := by
  intro a w m hs Q K hK pos af gd
  rw [if_pos rfl]
  unfold Oper.wp
  have b1 := run_bytes (P := cx.P) (w' := w) (hs.fact hi rfl : Sl m w xs r.1) (fun _ _ _ => rfl)
  have b2 := run_bytes (P := cx.P) (w' := w) (hs.fact hj rfl : Sl m w ys s.1) (fun _ _ _ => rfl)
  have hrun : (execOp a.eval ⟨some d, .call ⟨.value (.func N), #[x, y], ts⟩, T, pos, af, gd⟩).run cx.P w = .ok (.value (.int .i64 (Cw.bcmp xs ys))) w := by
    have h3' : Extern.findNext fn = none := by cases h : Extern.findNext fn with
      | none => rfl
      | some _ => rw [h] at h3; cases h3
    have h1' : ¬ fn.name = "runtime.NumGoroutine" := by simpa using h1
    have h2' : fn.body = none := by cases h : fn.body with
      | none => rfl
      | some _ => rw [h] at h2; cases h2
    simp only [execOp, resolve, Deferred.ofValue, invoke, Sem.run_bind, Sem.run_pure, Result.andThen_ok, List.map_toArray, List.map_cons, List.map_nil, hs.ev hx rfl, hs.ev hy rfl]
    simp only [Act.eval]
    have hc : Extern.BytealgCompare.compare #[V xs r, V ys s] = (do pure (goInt (Extern.BytealgCompare.cmp (← Extern.Bytes.bytesOf (V xs r)) (← Extern.Bytes.bytesOf (V ys s))))) := rfl
    simp [callFunc, hf, h1', h2', h3', h4, hc, b1, b2, Cw.bcmp, goInt]
  rw [hrun]
  exact hK () _ w m (hs.put hd rfl) (BelowX.refl _ _ _)
end ops
end Go.Cw
