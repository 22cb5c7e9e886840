/- Literals of slices; equality of whole data; cuts of slices; texts. Conditions: none; no program is named. -/
import Derived.Test.YtcckclbpajegnaaCwG
set_option linter.all false
set_option linter.unusedVariables false
set_option linter.unusedSimpArgs false
namespace Go.Cw
open Go Go.RowKit

section lits
variable {cx : Cx} {X : Nat → Prop} {env : Env} {fs : List Fact} {os : List Own} {g : Bool} {T : TypeId}

def lv {α : Type} [R α] : Nat → List α → List (R.Raw α) → List (Nat × Value)
  | s, y :: ys, r :: rs => (s, V y r) :: lv (s + 1) ys rs
  | _, _, _ => []

theorem fill_lv {α : Type} [R α] : ∀ (xs : List α) (rs : List (R.Raw α)) (s : Nat) (cells : Array Value), rs.length = xs.length → (s + xs.length) * R.size α ≤ cells.size →
    ∃ c', Instr.fill (fun i => some (i * R.size α, R.size α)) cells (lv s xs rs) = some c' ∧ c'.toList = cells.toList.take (s * R.size α) ++ (flat xs rs ++ cells.toList.drop ((s + xs.length) * R.size α))
  | [], [], s, cells, _, _ => ⟨cells, rfl, by simp [flat]⟩
  | [], _ :: _, _, _, h, _ => by simp at h
  | _ :: _, [], _, _, h, _ => by simp at h
  | y :: ys, r :: rs, s, cells, h, hs => by
    have hlen := R.len y r
    have hs' : (s + 1 + ys.length) * R.size α ≤ cells.size := by
      rw [show s + 1 + ys.length = s + (y :: ys).length by simp; omega]; exact hs
    have hs1 : s * R.size α + R.size α ≤ cells.size := by
      have : (s + 1) * R.size α ≤ (s + 1 + ys.length) * R.size α := Nat.mul_le_mul_right _ (by omega)
      rw [Nat.succ_mul] at this; omega
    have hsp := foldl_splice (R.cells y r) (s * R.size α) 0 cells (by rw [hlen]; omega)
    simp only [Nat.add_zero, hlen] at hsp
    let c1 : Array Value := (R.cells y r).zipIdx.foldl (fun cs (c, j) => cs.setIfInBounds (s * R.size α + j) c) cells
    have hc1 : c1.toList = cells.toList.take (s * R.size α) ++ (R.cells y r ++ cells.toList.drop (s * R.size α + R.size α)) := hsp
    have hsz : c1.size = cells.size := by
      rw [← Array.length_toList, hc1]; simp [hlen]; omega
    obtain ⟨c', h1, h2⟩ := fill_lv ys rs (s + 1) c1 (by simpa using h) (by rw [hsz]; exact hs')
    refine ⟨c', ?_, ?_⟩
    · simp only [lv, Instr.fill]
      rw [if_neg (by simp [V_cells, hlen]; omega), V_cells]
      have e : (R.cells y r).toArray.zipIdx.foldl (fun cs (c, j) => cs.setIfInBounds (s * R.size α + j) c) cells = c1 := by
        simp [c1]
      exact (congrArg (fun c => Instr.fill (fun i => some (i * R.size α, R.size α)) c (lv (s + 1) ys rs)) e).trans h1
    · rw [h2, hc1]
      simp only [flat]
      have hl0 : (cells.toList.take (s * R.size α)).length = s * R.size α := by rw [List.length_take]; simp; omega
      have e1 : (cells.toList.take (s * R.size α) ++ (R.cells y r ++ cells.toList.drop (s * R.size α + R.size α))).take ((s + 1) * R.size α) = cells.toList.take (s * R.size α) ++ R.cells y r := by
        rw [← List.append_assoc, List.take_left' (by rw [List.length_append, hl0, hlen, Nat.succ_mul])]
      have e2 : (cells.toList.take (s * R.size α) ++ (R.cells y r ++ cells.toList.drop (s * R.size α + R.size α))).drop ((s + 1 + ys.length) * R.size α) = cells.toList.drop ((s + (y :: ys).length) * R.size α) := by
        have hl1 : (s + 1 + ys.length) * R.size α = (cells.toList.take (s * R.size α) ++ R.cells y r).length + ys.length * R.size α := by rw [List.length_append, hl0, hlen, Nat.add_mul, Nat.succ_mul]
        rw [← List.append_assoc, hl1, List.drop_length_add_append, List.drop_drop]
        congr 1
        simp only [List.length_cons, Nat.add_mul, Nat.succ_mul]
        omega
      rw [e1, e2]
      simp

def lits {α : Type} [R α] (env : Env) : Nat → List (Nat × Operand) → List α → List (R.Raw α) → Prop
  | _, [], [], [] => True
  | i, (j, x) :: l, y :: ys, r :: rs => i = j ∧ ev env x = some (true, V y r) ∧ lits env (i + 1) l ys rs
  | _, _, _, _ => False

theorem lits.is {α : Type} [R α] {a : Act} {w : World} {m : WM} (hs : St cx env fs os a w m) : ∀ {l : List (Nat × Operand)} {i : Nat} {xs : List α} {rs : List (R.Raw α)}, lits env i l xs rs → (l.map fun (i, x) => (i, a.eval x)) = lv i xs rs ∧ l.length = xs.length ∧ rs.length = xs.length
  | [], _, [], [], _ => ⟨rfl, rfl, rfl⟩
  | (j, x) :: l, i, y :: ys, r :: rs, ⟨h1, h2, h3⟩ => by
    subst h1
    obtain ⟨e1, e2, e3⟩ := lits.is hs h3
    exact ⟨by simp only [List.map_cons, lv, e1, hs.ev h2 rfl], by simp [e2], by simp [e3]⟩
  | [], _, [], _ :: _, h => h.elim
  | [], _, _ :: _, _, h => h.elim
  | _ :: _, _, [], _, h => h.elim
  | _ :: _, _, _ :: _, [], h => h.elim

/-- A literal of a slice: what it holds is known, and it may be made longer. -/
theorem LX.lit {α : Type} [R α] {d : Tmp} {t E k : Nat} {parts : List (Nat × Operand)} {xs : List α} {rs : List (R.Raw α)} {fs1 : List Fact} [ha : Apd cx.P t α E] (hl : lits env 0 parts xs rs) (hk : k = xs.length)
    (hf : SubF fs1 fs) (hok : ∀ m w, (∀ f ∈ fs1, f.p m w) → okl m w xs rs) (hsm : Nat.ble (k * R.size α) (2 ^ 24) = true) (hd : Nat.blt d cx.n = true := by rfl) :
    LX cx env fs os true (fun _ => False) (some d) (.buildSlice t k parts.toArray) T (fun q : Option Addr => (d, true, V xs ((q, k) : Option Addr × Nat)) :: env) (fun q => Fk true xs ((q, k) : Option Addr × Nat) :: fs) (fun q => tp E (R.size α) xs.length q k :: os) := by
  intro A w m hs Q K hK pos af gd
  rw [if_pos rfl]
  unfold Oper.wp
  obtain ⟨e1, e2, e3⟩ := hl.is hs
  obtain ⟨z, hz⟩ := ha.zero
  have hokl := hok m w (fun f h => hs.facts f (hf.mem f h))
  have hsm' : ¬ k * R.size α > 2 ^ 24 := by have := Nat.le_of_ble_eq_true hsm; omega
  have hrun : ∃ c', c'.toList = flat xs rs ∧ (execOp A.eval ⟨some d, .buildSlice t k parts.toArray, T, pos, af, gd⟩).run cx.P w = .ok (.value (V xs (some ⟨w.heap.size, 0, none⟩, k))) { w with heap := w.heap.push (.cells c' E) } := by
    have mid : ∀ zc : Array Value, ∃ c', Instr.fill (fun i => some (i * R.size α, R.size α)) (Array.map (fun x => zc[x % zc.size]!) (Array.range (k * R.size α))) (lv 0 xs rs) = some c' ∧ c'.toList = flat xs rs := by
      intro zc
      have hcs : (Array.map (fun x => zc[x % zc.size]!) (Array.range (k * R.size α))).size = k * R.size α := by simp
      obtain ⟨c', h1, h2⟩ := fill_lv xs rs 0 _ e3 (by rw [hcs, hk]; simp)
      refine ⟨c', h1, ?_⟩
      rw [h2, List.drop_of_length_le (by rw [Array.length_toList, hcs, hk]; simp)]
      simp
    by_cases h0 : k * R.size α = 0
    · obtain ⟨c', h1, h2⟩ := mid #[]
      refine ⟨c', h2, ?_⟩
      simp only [execOp, Sem.run_bind, Instr.buildSlice, run_underlying ha.und, Result.andThen_ok, ha.size w]
      rw [if_neg hsm', if_pos h0]
      simp only [Sem.run_bind, Sem.run_pure, Result.andThen_ok, List.map_toArray, e1, h1, newRow, run_newObj]
      rw [hk]
      rfl
    · obtain ⟨c', h1, h2⟩ := mid z.cells
      refine ⟨c', h2, ?_⟩
      simp only [execOp, Sem.run_bind, Instr.buildSlice, run_underlying ha.und, Result.andThen_ok, ha.size w]
      rw [if_neg hsm', if_neg h0]
      simp only [Sem.run_bind, (hz w).1, Sem.run_pure, Result.andThen_ok, List.map_toArray, e1, h1, newRow, run_newObj]
      rw [hk]
      rfl
  obtain ⟨c', hc', hrun⟩ := hrun
  rw [hrun]
  let w2 : World := { w with heap := w.heap.push (.cells c' E) }
  let m' : WM := fun q => if q = w.heap.size then xs.length * R.size α else m q
  have hbel : Below w.heap.size w w2 := below_push w _
  have hnew : w2.heap[w.heap.size]? = some (.cells c' E (0, 0)) := by simp [w2]
  have hfl := flat_length e3
  have hm'o : ∀ b, b < w.heap.size → m' b = m b := fun b hb => by simp [m', Nat.ne_of_lt hb]
  have hext : Ext m w m' w2 := by
    have hlt : ∀ q iq, iq < m q → q < w.heap.size := fun q iq hq => by
      rcases Nat.lt_or_ge q w.heap.size with h1 | h1
      · exact h1
      · rw [hs.fresh q h1] at hq; exact absurd hq (Nat.not_lt_zero _)
    refine ⟨fun q iq hq => hbel.cell (p := ⟨q, iq, none⟩) (hlt q iq hq), fun q => ?_, fun q es c hq hh => (hbel.block q (hlt q 0 hq)).trans hh⟩
    by_cases e : q = w.heap.size
    · rw [e, hs.fresh _ (Nat.le_refl _)]; exact Nat.zero_le _
    · simp [m', e]
  refine hK (some ⟨w.heap.size, 0, none⟩) _ w2 m' ?_ (.of hbel)
  have hs2 := (hs.put (d := d) (g := true) (v := V xs (some (⟨w.heap.size, 0, none⟩ : Addr), k)) (v' := V xs (some (⟨w.heap.size, 0, none⟩ : Addr), k)) hd rfl).addOwn (w' := w2) (m' := m') (o := tp E (R.size α) xs.length (some ⟨w.heap.size, 0, none⟩) k) hbel hm'o
    (fun b hb => by
      have hsz : w2.heap.size = w.heap.size + 1 := by simp [w2]
      rw [hsz] at hb
      simp only [m']
      rw [if_neg (by omega)]
      exact hs.fresh b (by omega)) (fun b hb => by cases hb; exact ⟨Nat.le_refl _, by simp [w2]⟩)
    (.inr ⟨w.heap.size, c', rfl, hnew, by rw [← Array.length_toList, hc', hfl, hk], by simp [m']⟩)
  refine hs2.addFact (fun _ => .inr ⟨w.heap.size, 0, rs, rfl, hokl.stable hext, ?_, fun q hq => ?_⟩)
  · rw [hfl]; simp [m']
  · rw [Nat.zero_add, cell_of_row _ _ q _ E (0, 0) hnew, ← hc']
    simp
end lits

/-! ### Equality -/

/-- Two data of this type are equal just if the run says so. -/
class EqD (P : Program) (T : TypeId) (α : Type) [R α] [DecidableEq α] (k : outParam Nat) : Prop where
  eq : ∀ d w (x y : α) r s, (Op.equalIn (d + k) T (V x r) (V y s)).run P w = .ok (decide (x = y)) w
  le : k ≤ 100

theorem run_part {α β : Type} [R α] [R β] {P : Program} {w : World} {E : TypeId} [ht : Ty P E β] (L : Lens α β) (x : α) (r : R.Raw α) : (part E (R.cells x r).toArray L.off).run P w = .ok (V (L.get x) (L.getR r)) w := by
  unfold part
  simp only [Sem.run_bind, ht.isagg w, Result.andThen_ok]
  unfold V
  cases h : R.agg β with
  | true =>
    simp only [if_true, Sem.run_bind, ht.size w, Result.andThen_ok, cond_true, Sem.run_pure]
    rw [← L.rd]
    congr 2
    apply Array.ext'
    simp [List.extract, List.drop_take]
  | false =>
    have h1 := R.one (α := β) h
    have h3 := L.rd x r
    rw [h1] at h3
    have h4 : L.off < (R.cells x r).length := by rw [R.len]; have := L.fits; omega
    simp only [Bool.false_eq_true, if_false, cond_false]
    rw [← h3]
    have h5 : (R.cells x r).toArray[L.off]? = some ((R.cells x r)[L.off]) := by rw [List.getElem?_toArray, List.getElem?_eq_getElem h4]
    rw [h5, List.drop_eq_getElem_cons h4]
    try rfl

theorem eqD_int {P : Program} {T : TypeId} {k : IntKind} (h : P.underlying T = some (.int k)) : EqD P T Int 1 :=
  ⟨fun d w x y _ _ => by
    show (Op.equalIn (d + 1) T (.int .i64 x) (.int .i64 y)).run P w = _
    rw [run_equalIn_int (P := P) w d T .i64 k x y h]
    congr 1, by decide⟩
theorem eqD_u8 {P : Program} {T : TypeId} {k : IntKind} (h : P.underlying T = some (.int k)) : EqD P T UInt8 1 :=
  ⟨fun d w x y _ _ => by
    show (Op.equalIn (d + 1) T (.int .u8 x.toNat) (.int .u8 y.toNat)).run P w = _
    rw [run_equalIn_int (P := P) w d T .u8 k _ _ h]
    congr 1
    by_cases e : x = y
    · simp [e]
    · have : x.toNat ≠ y.toNat := fun h => e (UInt8.toNat_inj.1 h)
      simp [e]; omega, by decide⟩
theorem eqD_u32 {P : Program} {T : TypeId} {k : IntKind} (h : P.underlying T = some (.int k)) : EqD P T UInt32 1 :=
  ⟨fun d w x y _ _ => by
    show (Op.equalIn (d + 1) T (.int .u32 x.toNat) (.int .u32 y.toNat)).run P w = _
    rw [run_equalIn_int (P := P) w d T .u32 k _ _ h]
    congr 1
    by_cases e : x = y
    · simp [e]
    · have : x.toNat ≠ y.toNat := fun h => e (UInt32.toNat_inj.1 h)
      simp [e]; omega, by decide⟩
theorem eqD_u64 {P : Program} {T : TypeId} {k : IntKind} (h : P.underlying T = some (.int k)) : EqD P T UInt64 1 :=
  ⟨fun d w x y _ _ => by
    show (Op.equalIn (d + 1) T (.int .u64 x.toNat) (.int .u64 y.toNat)).run P w = _
    rw [run_equalIn_int (P := P) w d T .u64 k _ _ h]
    congr 1
    by_cases e : x = y
    · simp [e]
    · have : x.toNat ≠ y.toNat := fun h => e (UInt64.toNat_inj.1 h)
      simp [e]; omega, by decide⟩
theorem eqD_bool {P : Program} {T : TypeId} (h : P.underlying T = some .bool) : EqD P T Bool 1 :=
  ⟨fun d w x y _ _ => by
    show (Op.equalIn (d + 1) T (.bool x) (.bool y)).run P w = _
    rw [run_equalIn_bool (P := P) w d T x y h]
    cases x <;> cases y <;> rfl, by decide⟩

theorem eqD_vec {P : Program} {T E : TypeId} {α : Type} {n k : Nat} {i : TypeInfo} [C1 α] [Inhabited α] [DecidableEq α] [he : EqD P E α k] [ht : Ty P E α] (hu : P.underlying T = some (.array n E)) (hi : P.info? E = some i) (hc : P.cellsOf E = 1) (hk : k + 1 ≤ 100) : EqD P T (Vector α n) (k + 1) :=
  ⟨fun d w x y r s => by
    rw [show V x r = .agg (R.cells x r).toArray from rfl, show V y s = .agg (R.cells y s).toArray from rfl, ← Nat.add_assoc, run_equalIn_array w (d + k) _ _ hu hi, hc]
    have key : ∀ (is : List Nat), (∀ i ∈ is, i < n) → (Op.eqItems (d + k) E 1 (R.cells x r).toArray (R.cells y s).toArray is).run P w = .ok (decide (∀ i ∈ is, vat x (i : Nat) = vat y (i : Nat))) w := by
      intro is
      induction is with
      | nil => intro _; simp [Op.eqItems]
      | cons i is ih =>
        intro h
        have hin : i < n := h i (by simp)
        have hb : 0 ≤ (i : Int) ∧ (i : Int) < n := by omega
        have p1 := run_part (P := P) (w := w) (E := E) (Lens.vec (α := α) (i : Int) hb) x r
        have p2 := run_part (P := P) (w := w) (E := E) (Lens.vec (α := α) (i : Int) hb) y s
        have ho : (Lens.vec (α := α) (n := n) (i : Int) hb).off = i * 1 := by show (i : Int).toNat = i * 1; omega
        rw [ho] at p1 p2
        have q := he.eq d w (vat x (i : Nat)) (vat y (i : Nat)) () ()
        simp only [Op.eqItems, Sem.run_bind, p1, p2, Result.andThen_ok]
        rw [show V ((Lens.vec (α := α) (n := n) (i : Int) hb).get x) ((Lens.vec (α := α) (i : Int) hb).getR r) = V (vat x (i : Nat)) () from rfl, show V ((Lens.vec (α := α) (n := n) (i : Int) hb).get y) ((Lens.vec (α := α) (i : Int) hb).getR s) = V (vat y (i : Nat)) () from rfl, q]
        by_cases e : vat x (i : Nat) = vat y (i : Nat)
        · have := ih (fun j hj => h j (by simp [hj]))
          simp [e, this]
        · simp [e]
    rw [key (List.range n) (fun i hi => List.mem_range.1 hi)]
    congr 1
    rw [decide_eq_decide]
    constructor
    · intro h
      apply Vector.ext
      intro i hi
      have := h i (List.mem_range.2 hi)
      simpa [vat, Array.getD, hi] using this
    · rintro rfl i _; rfl, hk⟩

/-- Field by field. -/
def EqF {α : Type} [R α] (P : Program) (d : Nat) (x y : α) (r s : R.Raw α) (w : World) : List Field → Bool → Prop
  | [], b => b = true
  | f :: fs, b => (f.name ≠ "_") ∧ ∃ (β : Type) (_ : R β) (_ : DecidableEq β) (L : Lens α β) (b' : Bool), L.off = f.offset ∧ Ty P f.type β ∧ (Op.equalIn d f.type (V (L.get x) (L.getR r)) (V (L.get y) (L.getR s))).run P w = .ok (decide (L.get x = L.get y)) w ∧
      EqF P d x y r s w fs b' ∧ b = (decide (L.get x = L.get y) && b')

theorem run_eqF {α : Type} [R α] {P : Program} {d : Nat} {x y : α} {r s : R.Raw α} {w : World} : ∀ (fl : List Field) (b : Bool), EqF P d x y r s w fl b → (Op.eqFields d (R.cells x r).toArray (R.cells y s).toArray fl).run P w = .ok b w
  | [], b, h => by subst h; rfl
  | f :: fl, b, ⟨hn, β, _, _, L, b', ho, ht, he, hr, hb⟩ => by
    have p1 := run_part (P := P) (w := w) (E := f.type) L x r
    have p2 := run_part (P := P) (w := w) (E := f.type) L y s
    rw [ho] at p1 p2
    have := run_eqF fl b' hr
    simp only [Op.eqFields, hn, ne_eq, not_false_eq_true, if_true, Sem.run_bind, p1, p2, Result.andThen_ok, he]
    subst hb
    by_cases e : L.get x = L.get y
    · simp [e, this]
    · simp [e]

theorem eqF_at {α β : Type} [R α] {P : Program} {e d k : Nat} {x y : α} {r s : R.Raw α} {w : World} {T : TypeId} [R β] [DecidableEq β] [he : EqD P T β k] (L : Lens α β) (h : k ≤ e) :
    (Op.equalIn (d + e) T (V (L.get x) (L.getR r)) (V (L.get y) (L.getR s))).run P w = .ok (decide (L.get x = L.get y)) w := by
  have := he.eq (d + (e - k)) w (L.get x) (L.get y) (L.getR r) (L.getR s)
  rw [show d + (e - k) + k = d + e by omega] at this
  exact this

section ops
variable {cx : Cx} {X : Nat → Prop} {env : Env} {fs : List Fact} {os : List Own} {g : Bool} {T : TypeId}

class NoGuard (P : Program) (T : TypeId) : Prop where
  no : P.eqGuardType P.depth T = false

theorem run_eqGuard_agg {P : Program} {w : World} {op : BinOp} {t : TypeId} {x y : Operand} {a b : Array Value} [hg : NoGuard P t] : (eqGuard op t x y (.agg a) (.agg b)).run P w = .ok () w := by
  unfold eqGuard
  split <;> simp [hg.no]

theorem run_equal_agg {P : Program} {w : World} {t : TypeId} {α : Type} [R α] [DecidableEq α] {k : Nat} [he : EqD P t α k] (x y : α) (r s : R.Raw α) : (Op.equal t (V x r) (V y s)).run P w = .ok (decide (x = y)) w := by
  have := he.eq (10000 - k) w x y r s
  have hle := he.le
  rw [show 10000 - k + k = 10000 by omega] at this
  exact this

theorem QE.eqA {x y : Operand} {gx gy : Bool} {t t' : TypeId} {α : Type} [R α] [DecidableEq α] {k : Nat} {a b : α} {r s : R.Raw α} [he : EqD cx.P t α k] [hn : NoGuard cx.P t] (hx : ev env x = some (gx, V a r)) (hy : ev env y = some (gy, V b s)) (hagg : R.agg α = true := by rfl)
    (hi : g = true → gx = true := by first | exact fun _ => rfl | exact fun h => h | exact and1) (hj : g = true → gy = true := by first | exact fun _ => rfl | exact fun h => h | exact and1) :
    QE cx X env fs os g (.binOp .eql t x y t') T (.bool (decide (a = b))) :=
  fun A w m hs hg w' _ _ _ _ _ => qe (s := do eqGuard .eql t x y (A.eval x) (A.eval y); binOp .eql t (A.eval x) (A.eval y)) rfl (by
    rw [hs.ev hx (hi hg), hs.ev hy (hj hg)]
    have e := run_equal_agg (P := cx.P) (w := w') (t := t) a b r s
    rw [show V a r = .agg (R.cells a r).toArray by simp [V, hagg], show V b s = .agg (R.cells b s).toArray by simp [V, hagg]] at *
    simp only [Sem.run_bind, run_eqGuard_agg, Result.andThen_ok, binOp, e, Sem.run_pure])

theorem QE.neA {x y : Operand} {gx gy : Bool} {t t' : TypeId} {α : Type} [R α] [DecidableEq α] {k : Nat} {a b : α} {r s : R.Raw α} [he : EqD cx.P t α k] [hn : NoGuard cx.P t] (hx : ev env x = some (gx, V a r)) (hy : ev env y = some (gy, V b s)) (hagg : R.agg α = true := by rfl)
    (hi : g = true → gx = true := by first | exact fun _ => rfl | exact fun h => h | exact and1) (hj : g = true → gy = true := by first | exact fun _ => rfl | exact fun h => h | exact and1) :
    QE cx X env fs os g (.binOp .neq t x y t') T (.bool (!decide (a = b))) :=
  fun A w m hs hg w' _ _ _ _ _ => qe (s := do eqGuard .neq t x y (A.eval x) (A.eval y); binOp .neq t (A.eval x) (A.eval y)) rfl (by
    rw [hs.ev hx (hi hg), hs.ev hy (hj hg)]
    have e := run_equal_agg (P := cx.P) (w := w') (t := t) a b r s
    rw [show V a r = .agg (R.cells a r).toArray by simp [V, hagg], show V b s = .agg (R.cells b s).toArray by simp [V, hagg]] at *
    simp only [Sem.run_bind, run_eqGuard_agg, Result.andThen_ok, binOp, e, Sem.run_pure])

/-- Bools that are compared. -/
theorem QE.eqB {x y : Operand} {gx gy : Bool} {t t' : TypeId} {a b : Bool} (h : cx.P.underlying t = some .bool) (hx : ev env x = some (gx, .bool a)) (hy : ev env y = some (gy, .bool b))
    (hi : g = true → gx = true := by first | exact fun _ => rfl | exact fun h => h | exact and1) (hj : g = true → gy = true := by first | exact fun _ => rfl | exact fun h => h | exact and1) :
    QE cx X env fs os g (.binOp .eql t x y t') T (.bool (a == b)) :=
  fun A w m hs hg w' _ _ _ _ _ => qe (s := do eqGuard .eql t x y (A.eval x) (A.eval y); binOp .eql t (A.eval x) (A.eval y)) rfl (by
    rw [hs.ev hx (hi hg), hs.ev hy (hj hg)]
    simp [eqGuard, run_eql_bool w' t a b h])
theorem QE.neB {x y : Operand} {gx gy : Bool} {t t' : TypeId} {a b : Bool} (h : cx.P.underlying t = some .bool) (hx : ev env x = some (gx, .bool a)) (hy : ev env y = some (gy, .bool b))
    (hi : g = true → gx = true := by first | exact fun _ => rfl | exact fun h => h | exact and1) (hj : g = true → gy = true := by first | exact fun _ => rfl | exact fun h => h | exact and1) :
    QE cx X env fs os g (.binOp .neq t x y t') T (.bool (!(a == b))) :=
  fun A w m hs hg w' _ _ _ _ _ => qe (s := do eqGuard .neq t x y (A.eval x) (A.eval y); binOp .neq t (A.eval x) (A.eval y)) rfl (by
    rw [hs.ev hx (hi hg), hs.ev hy (hj hg)]
    simp [eqGuard, run_neq_bool w' t a b h])
end ops
end Go.Cw
