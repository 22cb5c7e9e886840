/- Kinds of data: numbers, bools, texts, lists, rows of fixed length; boxes, stores, literals. Conditions: none; no program is named. -/
import Derived.Test.YtcckclbpajegnaaCwD
set_option linter.all false
set_option linter.unusedVariables false
set_option linter.unusedSimpArgs false
namespace Go.Cw
open Go Go.RowKit

/-- Data of one cell. -/
class C1 (α : Type) where
  c1 : α → Value
  one1 : ∀ x, (c1 x).oneCell' = true

instance : C1 Int := ⟨fun n => .int .i64 n, fun _ => rfl⟩
instance : C1 UInt8 := ⟨fun n => .int .u8 n.toNat, fun _ => rfl⟩
instance : C1 UInt16 := ⟨fun n => .int .u16 n.toNat, fun _ => rfl⟩
instance : C1 UInt32 := ⟨fun n => .int .u32 n.toNat, fun _ => rfl⟩
instance : C1 UInt64 := ⟨fun n => .int .u64 n.toNat, fun _ => rfl⟩
instance : C1 Bool := ⟨fun b => .bool b, fun _ => rfl⟩
instance : C1 ByteArray := ⟨fun b => .string b, fun _ => rfl⟩

instance instC1 {α : Type} [C1 α] : R α where
  Raw := Unit
  dflt := ()
  agg := false
  size := 1
  cells x _ := [C1.c1 x]
  ok _ _ _ _ := True
  len _ _ := rfl
  one _ := rfl
  ones x _ v hv := by simp at hv; rw [hv]; exact C1.one1 x
  stable _ _ := trivial

instance instVec {α : Type} {n : Nat} [C1 α] : R (Vector α n) where
  Raw := Unit
  dflt := ()
  agg := true
  size := n
  cells x _ := x.toList.map C1.c1
  ok _ _ _ _ := True
  len x _ := by simp
  one h := by cases h
  ones x _ v hv := by obtain ⟨y, _, rfl⟩ := List.mem_map.1 hv; exact C1.one1 y
  stable _ _ := trivial

/-- The i-th of a row. -/
def vat {α : Type} {n : Nat} [Inhabited α] (v : Vector α n) (i : Int) : α := v.toArray.getD i.toNat default
def vset {α : Type} {n : Nat} (v : Vector α n) (i : Int) (x : α) : Vector α n := v.setIfInBounds i.toNat x

def Lens.vec {α : Type} {n : Nat} [C1 α] [Inhabited α] (i : Int) (h : 0 ≤ i ∧ i < n) : Lens (Vector α n) α where
  off := i.toNat
  get v := vat v i
  set v x := vset v i x
  getR _ := ()
  setR _ _ := ()
  fits := by show i.toNat + 1 ≤ n; omega
  rd v r := by
    have hi : i.toNat < n := by omega
    show ((v.toList.map C1.c1).drop i.toNat).take 1 = [C1.c1 (vat v i)]
    have h2 : i.toNat < v.toList.length := by simp [hi]
    rw [← List.map_drop, ← List.map_take, List.drop_eq_getElem_cons h2]
    simp [vat, Array.getD, hi]
  wr v r x s := by
    have hi : i.toNat < n := by omega
    show (vset v i x).toList.map C1.c1 = (v.toList.map C1.c1).take i.toNat ++ ([C1.c1 x] ++ (v.toList.map C1.c1).drop (i.toNat + 1))
    have h2 : i.toNat < v.toList.length := by simp [hi]
    rw [← List.map_take, ← List.map_drop, ← List.map_singleton (f := C1.c1), ← List.map_append, ← List.map_append]
    congr 1
    simp only [vset, Vector.toList, Vector.setIfInBounds, Array.toList_setIfInBounds]
    rw [List.set_eq_take_append_cons_drop, if_pos (by simpa using h2)]
    rfl
  okg _ := trivial
  oks _ _ := trivial

/-! ### Lists -/

def okl {α : Type} [R α] (m : WM) (w : World) : List α → List (R.Raw α) → Prop
  | [], [] => True
  | x :: xs, r :: rs => R.ok m w x r ∧ okl m w xs rs
  | _, _ => False

def flat {α : Type} [R α] : List α → List (R.Raw α) → List Value
  | x :: xs, r :: rs => R.cells x r ++ flat xs rs
  | _, _ => []

section flat
variable {α : Type} [R α]

theorem okl.length {m : WM} {w : World} : ∀ {xs : List α} {rs : List (R.Raw α)}, okl m w xs rs → rs.length = xs.length
  | [], [], _ => rfl
  | _ :: _, _ :: _, h => by simp [okl.length h.2]
  | [], _ :: _, h => h.elim
  | _ :: _, [], h => h.elim

theorem okl.stable {m w m' w'} (he : Ext m w m' w') : ∀ {xs : List α} {rs : List (R.Raw α)}, okl m w xs rs → okl m' w' xs rs
  | [], [], _ => trivial
  | _ :: _, _ :: _, h => ⟨R.stable he h.1, okl.stable he h.2⟩
  | [], _ :: _, h => h.elim
  | _ :: _, [], h => h.elim

theorem okl.append {m w} : ∀ {xs ys : List α} {rs ss : List (R.Raw α)}, okl m w xs rs → okl m w ys ss → okl m w (xs ++ ys) (rs ++ ss)
  | [], _, [], _, _, h => h
  | _ :: _, _, _ :: _, _, h, k => ⟨h.1, okl.append h.2 k⟩
  | [], _, _ :: _, _, h, _ => h.elim
  | _ :: _, _, [], _, h, _ => h.elim

theorem flat_length : ∀ {xs : List α} {rs : List (R.Raw α)}, rs.length = xs.length → (flat xs rs).length = xs.length * R.size α
  | [], [], _ => by simp [flat]
  | x :: xs, r :: rs, h => by
    have := flat_length (xs := xs) (rs := rs) (by simpa using h)
    simp [flat, R.len, this, Nat.succ_mul, Nat.add_comm]
  | [], _ :: _, h => by simp at h
  | _ :: _, [], h => by simp at h

theorem flat_append : ∀ {xs ys : List α} {rs ss : List (R.Raw α)}, rs.length = xs.length → flat (xs ++ ys) (rs ++ ss) = flat xs rs ++ flat ys ss
  | [], _, [], _, _ => by simp [flat]
  | x :: xs, _, r :: rs, _, h => by simp [flat, flat_append (xs := xs) (rs := rs) (by simpa using h)]
  | [], _, _ :: _, _, h => by simp at h
  | _ :: _, _, [], _, h => by simp at h

theorem flat_ones : ∀ {xs : List α} {rs : List (R.Raw α)}, ∀ v ∈ flat xs rs, v.oneCell' = true
  | x :: xs, r :: rs, v, hv => by
    simp only [flat, List.mem_append] at hv
    rcases hv with hv | hv
    · exact R.ones x r v hv
    · exact flat_ones v hv
  | [], [], _, hv => by simp [flat] at hv
  | [], _ :: _, _, hv => by simp [flat] at hv
  | _ :: _, [], _, hv => by simp [flat] at hv

/-- One element's cells. -/
theorem flat_at {m w} : ∀ {xs : List α} {rs : List (R.Raw α)}, okl m w xs rs → ∀ {i : Nat} (hi : i < xs.length), ∃ r, R.ok m w xs[i] r ∧ ((flat xs rs).drop (i * R.size α)).take (R.size α) = R.cells xs[i] r
  | [], _, _, i, hi => absurd hi (by simp)
  | x :: xs, [], h, _, _ => h.elim
  | x :: xs, r :: rs, h, 0, _ => ⟨r, h.1, by
      show ((flat (x :: xs) (r :: rs)).drop (0 * R.size α)).take (R.size α) = R.cells x r
      have := R.len x r
      simp [flat, ← this]⟩
  | x :: xs, r :: rs, h, i + 1, hi => by
    obtain ⟨s, hs, he⟩ := flat_at (xs := xs) (rs := rs) h.2 (i := i) (by simpa using hi)
    refine ⟨s, hs, ?_⟩
    have hi' : i < xs.length := by simpa using hi
    show ((flat (x :: xs) (r :: rs)).drop ((i + 1) * R.size α)).take (R.size α) = R.cells (xs[i]'hi') s
    rw [← he, Nat.succ_mul, Nat.add_comm]
    have := R.len x r
    rw [flat, List.drop_append, List.drop_of_length_le (by omega), this]
    simp
end flat

def Sl {α : Type} [R α] (m : WM) (w : World) (xs : List α) (a : Option Addr) : Prop :=
  xs = [] ∨ ∃ b off rs, a = some ⟨b, off, none⟩ ∧ okl m w xs rs ∧ cellsAt m w b off (flat xs rs)

instance instList {α : Type} [R α] : R (List α) where
  Raw := Option Addr × Nat
  dflt := (none, 0)
  agg := false
  size := 1
  cells xs r := [.slice r.1 xs.length r.2]
  ok m w xs r := Sl m w xs r.1
  len _ _ := rfl
  one _ := rfl
  ones x r v hv := by simp at hv; rw [hv]; rfl
  stable he h := h.imp id fun ⟨b, off, rs, ha, ho, hc⟩ => ⟨b, off, rs, ha, ho.stable he, hc.stable he⟩

/-- The i-th of a list. -/
def lat {α : Type} [Inhabited α] (xs : List α) (i : Int) : α := xs.getD i.toNat default

section ops
variable {cx : Cx} {X : Nat → Prop} {env : Env} {fs : List Fact} {os : List Own} {g : Bool} {T : TypeId}

/-- An element's address, in an array at an address that is known. -/
class Arr (P : Program) (T : TypeId) (n : outParam Nat) : Prop where
  at_ : ∀ w b o k (i : Int), 0 ≤ i ∧ i < n → (Instr.indexAt T (.pointer (some ⟨b, o, none⟩)) (.int k i)).run P w = .ok (.pointer (some ⟨b, o + i.toNat, none⟩)) w

theorem QE.ia {x y : Operand} {gx gy : Bool} {t n b o : Nat} {k : IntKind} {i : Int} [ha : Arr cx.P t n] (hx : ev env x = some (gx, .pointer (some ⟨b, o, none⟩))) (hy : ev env y = some (gy, .int k i)) (hb : g = true → 0 ≤ i ∧ i < n)
    (hi : g = true → gx = true := by first | exact fun _ => rfl | exact fun h => h | exact and1) (hj : g = true → gy = true := by first | exact fun _ => rfl | exact fun h => h | exact and1) :
    QE cx X env fs os g (.indexAddr t x y) T (.pointer (some ⟨b, o + i.toNat, none⟩)) :=
  fun A w m hs hg w' _ _ _ _ _ => qe (s := Instr.indexAt t (A.eval x) (A.eval y)) rfl (by rw [hs.ev hx (hi hg), hs.ev hy (hj hg)]; exact ha.at_ w' b o k i (hb hg))

/-- The same at a place that does not turn. -/
theorem QX.iav {α : Type} [C1 α] [Inhabited α] {x y : Operand} {gx gy gp : Bool} {t n : Nat} {v : Vector α n} {p : Value} {k : IntKind} {i : Int} [ha : Arr cx.P t n] (j : Nat) (hx : ev env x = some (gx, p)) (hy : ev env y = some (gy, .int k i)) (hf : fs[j]? = some (Pl gp v p)) (hb : g = true → 0 ≤ i ∧ i < n)
    (hi : g = true → gx = true := by first | exact fun _ => rfl | exact fun h => h | exact and1) (hj : g = true → gy = true := by first | exact fun _ => rfl | exact fun h => h | exact and1) (hk : g = true → gp = true := by first | exact fun _ => rfl | exact fun h => h | exact and1) :
    QX cx X env fs os g (.indexAddr t x y) T (fun q : Value => q) (fun q => Pl g (vat v i) q) := by
  intro A w m hs
  cases hg : g with
  | false => exact ⟨undef, (fun h => by cases h), (fun h => by cases h)⟩
  | true =>
    obtain ⟨b, off, r, rfl, hc, hok⟩ := hs.fact hf (hk hg)
    have hb' := hb hg
    have L : Lens (Vector α n) α := Lens.vec i hb'
    refine ⟨.pointer (some ⟨b, off + i.toNat, none⟩), fun _ w' hw' _ _ _ _ => qe (s := Instr.indexAt t (A.eval x) (A.eval y)) rfl ?_, fun _ => ⟨b, off + i.toNat, (), rfl, ⟨?_, fun j hj => ?_⟩, trivial⟩⟩
    · rw [hs.ev hx (hi hg), hs.ev hy (hj hg)]; exact ha.at_ w' b off k i hb'
    · have h1 := (Lens.vec (α := α) i hb').fits
      have h2 := hc.1
      rw [R.len] at h2 ⊢
      change off + n ≤ _ at h2
      change i.toNat + 1 ≤ n at h1
      change off + i.toNat + 1 ≤ _
      omega
    · rw [R.len] at hj
      have h1 := (Lens.vec (α := α) i hb').fits
      have h2 := hc.2 (i.toNat + j) (by rw [R.len]; change i.toNat + 1 ≤ n at h1; change j < 1 at hj; change _ < n; omega)
      have h3 := (Lens.vec (α := α) i hb').rd v r
      rw [Nat.add_assoc, h2]
      change _ = (R.cells ((Lens.vec (α := α) i hb').get v) ())[j]?
      change _ = R.cells ((Lens.vec (α := α) i hb').get v) () at h3
      rw [← h3]
      change j < 1 at hj
      obtain rfl : j = 0 := by omega
      change _ = (List.take 1 (List.drop i.toNat (R.cells v r)))[0]?
      simp

/-- An element's address in a slice. -/
class Slc (P : Program) (T : TypeId) (α : Type) [R α] : Prop where
  el : ∃ E, P.underlying T = some (.slice E) ∧ ∀ w, (sizeOf E).run P w = .ok (R.size α) w

theorem QX.ias {α : Type} [R α] [Inhabited α] {x y : Operand} {gx gy gp : Bool} {t : Nat} {xs : List α} {r : Option Addr × Nat} {k : IntKind} {i : Int} [ha : Slc cx.P t α] (j : Nat) (hx : ev env x = some (gx, V xs r)) (hy : ev env y = some (gy, .int k i)) (hf : fs[j]? = some (Fk gp xs r)) (hb : g = true → 0 ≤ i ∧ i < xs.length)
    (hi : g = true → gx = true := by first | exact fun _ => rfl | exact fun h => h | exact and1) (hj : g = true → gy = true := by first | exact fun _ => rfl | exact fun h => h | exact and1) (hk : g = true → gp = true := by first | exact fun _ => rfl | exact fun h => h | exact and1) :
    QX cx X env fs os g (.indexAddr t x y) T (fun q : Value => q) (fun q => Pl g (lat xs i) q) := by
  intro A w m hs
  cases hg : g with
  | false => exact ⟨undef, (fun h => by cases h), (fun h => by cases h)⟩
  | true =>
    obtain ⟨h0, h1⟩ := hb hg
    have hlt : i.toNat < xs.length := by omega
    rcases hs.fact hf (hk hg) with he | ⟨b, off, rs, hr, hol, hc⟩
    · rw [he] at hlt; simp at hlt
    · obtain ⟨s, hsok, hse⟩ := flat_at hol hlt
      obtain ⟨E, hE, hsz⟩ := ha.el
      have hlat : lat xs i = xs[i.toNat] := by simp [lat, hlt]
      have hfl := flat_length (hol.length)
      refine ⟨.pointer (some ⟨b, off + i.toNat * R.size α, none⟩), fun _ w' hw' _ _ _ _ => qe (s := Instr.indexAt t (A.eval x) (A.eval y)) rfl ?_, fun _ => ⟨b, off + i.toNat * R.size α, s, rfl, ⟨?_, fun j hj => ?_⟩, hlat ▸ hsok⟩⟩
      · rw [hs.ev hx (hi hg), hs.ev hy (hj hg)]
        show (Instr.indexAt t (.slice r.1 xs.length r.2) (.int k i)).run cx.P w' = _
        rw [hr]
        simp only [Instr.indexAt, asIntOf, Sem.run_bind, Sem.run_pure, Result.andThen_ok, run_underlying hE]
        rw [if_pos ⟨h0, h1⟩]
        simp [hsz w', add_mk]
      · have h2 := hc.1
        rw [R.len]
        rw [hfl] at h2
        have h3 : (i.toNat + 1) * R.size α ≤ xs.length * R.size α := Nat.mul_le_mul_right _ hlt
        rw [Nat.succ_mul] at h3
        omega
      · rw [R.len] at hj
        have h3 : (i.toNat + 1) * R.size α ≤ xs.length * R.size α := Nat.mul_le_mul_right _ hlt
        rw [Nat.succ_mul] at h3
        rw [Nat.add_assoc, hc.2 _ (by rw [hfl]; omega)]
        rw [show R.cells (lat xs i) s = R.cells xs[i.toNat] s by rw [hlat], ← hse]
        simp [List.getElem?_drop, hj]

/-- len -/
theorem QE.len {x : Operand} {gx : Bool} {t n c : Nat} {a : Option Addr} {E : TypeId} (hx : ev env x = some (gx, .slice a n c)) (hu : ∀ w, (underlying t).run cx.P w = .ok (.slice E) w)
    (hi : g = true → gx = true := by first | exact fun _ => rfl | exact fun h => h | exact and1) :
    QE cx X env fs os g (.call ⟨.builtin .len, #[x], #[t]⟩) T (.int .i64 n) :=
  fun A w m hs hg w' _ _ _ _ _ => by
    simp only [execOp, resolve, invoke, builtin, Sem.run_bind, Builtin.len_]
    simp [hs.ev hx (hi hg), hu w', goInt]

theorem QE.lenS {x : Operand} {gx : Bool} {t : Nat} {s : ByteArray} (hx : ev env x = some (gx, .string s)) (hu : ∀ w, (underlying t).run cx.P w = .ok .string w)
    (hi : g = true → gx = true := by first | exact fun _ => rfl | exact fun h => h | exact and1) :
    QE cx X env fs os g (.call ⟨.builtin .len, #[x], #[t]⟩) T (.int .i64 s.size) :=
  fun A w m hs hg w' _ _ _ _ _ => by
    simp only [execOp, resolve, invoke, builtin, Sem.run_bind, Builtin.len_]
    simp [hs.ev hx (hi hg), hu w', goInt]

/-- One of several results. -/
theorem QE.extract {x : Operand} {gx : Bool} {k : Nat} {vs : Array Value} {v : Value} (hx : ev env x = some (gx, .tuple vs)) (hv : vs[k]? = some v)
    (hi : g = true → gx = true := by first | exact fun _ => rfl | exact fun h => h | exact and1) :
    QE cx X env fs os g (.extract x k) T v :=
  fun A w m hs hg w' _ _ _ _ _ => qe (s := Instr.extract (A.eval x) k) rfl (by rw [hs.ev hx (hi hg)]; simp [Instr.extract, hv])

/-! ### Literals of structs -/

theorem foldl_splice : ∀ (vs : List Value) (off s : Nat) (cells : Array Value), off + s + vs.length ≤ cells.size →
    ((vs.zipIdx s).foldl (fun cs (c, j) => cs.setIfInBounds (off + j) c) cells).toList = cells.toList.take (off + s) ++ (vs ++ cells.toList.drop (off + s + vs.length))
  | [], off, s, cells, _ => by simp
  | v :: vs, off, s, cells, h => by
    simp only [List.zipIdx_cons, List.foldl_cons]
    rw [foldl_splice vs off (s + 1) _ (by simp at h ⊢; omega)]
    have e := list_seg_step cells.toList (off + s) v vs (by simp at h ⊢; omega)
    simpa [Array.toList_setIfInBounds, Nat.add_assoc, Nat.add_comm 1] using e

/-- Parts that are put into a datum one after the other. -/
inductive Fills {α : Type} [R α] (place : Nat → Option (Nat × Nat)) : α → R.Raw α → List (Nat × Value) → α → R.Raw α → Prop
  | nil (x : α) (r : R.Raw α) : Fills place x r [] x r
  | cons {β : Type} [R β] {x : α} {r : R.Raw α} {i : Nat} {v : Value} {rest : List (Nat × Value)} {x' : α} {r' : R.Raw α} (L : Lens α β) (y : β) (s : R.Raw β) (hp : place i = some (L.off, R.size β)) (hv : v = V y s)
    (h : Fills place (L.set x y) (L.setR r s) rest x' r') : Fills place x r ((i, v) :: rest) x' r'

theorem fill_fills {α : Type} [R α] {place : Nat → Option (Nat × Nat)} {x : α} {r : R.Raw α} {parts : List (Nat × Value)} {x' : α} {r' : R.Raw α} (h : Fills place x r parts x' r') :
    Instr.fill place (R.cells x r).toArray parts = some (R.cells x' r').toArray := by
  induction h with
  | nil x r => rfl
  | @cons β _ x r i v rest x' r' L y s hp hv h ih =>
    unfold Instr.fill
    rw [hp]
    simp only
    have h1 : v.cells.size = R.size β := by rw [hv, V_cells]; simp [R.len]
    have h2 := L.fits
    rw [if_neg]
    · rw [← ih]
      congr 1
      apply Array.ext'
      have h3 := foldl_splice (R.cells y s) L.off 0 (R.cells x r).toArray (by simp [R.len]; exact h2)
      rw [hv, V_cells]
      simp only [Nat.add_zero, R.len] at h3
      rw [L.wr, ← h3]
      simp
    · simp [h1, R.len]; omega

/-- The places of a struct's fields. -/
class Pls (P : Program) (T : TypeId) (place : outParam (Array (Nat × Nat))) : Prop where
  flds : ∃ fields, P.underlying T = some (.struct fields) ∧ ∀ w, (fields.mapM (m := Sem) fun f => do pure (f.offset, ← sizeOf f.type)).run P w = .ok place w

def evp (env : Env) (g : Bool) : List (Nat × Operand) → List (Nat × Value) → Prop
  | [], [] => True
  | (i, x) :: l, (j, v) :: l' => i = j ∧ (∃ gx, ev env x = some (gx, v) ∧ (g = true → gx = true)) ∧ evp env g l l'
  | _, _ => False

theorem evp.is {a : Act} {w : World} {m : WM} (hs : St cx env fs os a w m) (hg : g = true) : ∀ {l : List (Nat × Operand)} {l' : List (Nat × Value)}, evp env g l l' → (l.map fun (i, x) => (i, a.eval x)) = l'
  | [], [], _ => rfl
  | (i, x) :: l, (j, v) :: l', ⟨h1, ⟨gx, h2, h3⟩, h4⟩ => by
    subst h1
    simp only [List.map_cons]
    rw [hs.ev h2 (h3 hg), evp.is hs hg h4]
  | [], _ :: _, h => h.elim
  | _ :: _, [], h => h.elim

theorem QE.build {α : Type} [R α] {t : TypeId} {parts : List (Nat × Operand)} {vals : List (Nat × Value)} {z : α} {zr : R.Raw α} {place : Array (Nat × Nat)} {x : α} {r : R.Raw α} [hz : Zr cx.P t z zr] [hp : Pls cx.P t place]
    (hv : evp env g parts vals) (hf : Fills (place[·]?) z zr vals x r) (hagg : R.agg α = true := by rfl) : QE cx X env fs os g (.build t parts.toArray) T (V x r) :=
  fun A w m hs hg w' _ _ _ _ _ => by
    simp only [execOp]
    have h1 := hv.is hs hg
    obtain ⟨fields, hu, hm⟩ := hp.flds
    simp only [Sem.run_bind, Instr.build, hz.zero w', Result.andThen_ok, run_underlying hu, hm w', V_cells]
    simp only [List.map_toArray, h1]
    rw [fill_fills hf]
    simp [V, hagg]

/-! ### New blocks -/

theorem m_same {m : WM} {w : World} {w' : World} (hf : ∀ b, w.heap.size ≤ b → m b = 0) (hs : w.heap.size ≤ w'.heap.size) : ∀ b, w'.heap.size ≤ b → m b = 0 := fun b hb => hf b (Nat.le_trans hs hb)

theorem below_push (w : World) (o : Obj) : Below w.heap.size w { w with heap := w.heap.push o } := (Below.refl _ _).alloc (Nat.le_refl _) o

theorem LX.new {α : Type} [R α] {d : Tmp} {op : Op} {t : TypeId} {y : α} {r : R.Raw α} (hx : ∀ a w m, St cx env fs os a w m → g = true → ∀ w' d pos af gd, (execOp a.eval ⟨d, op, T, pos, af, gd⟩).run cx.P w' = .ok (.value (.pointer (some ⟨w'.heap.size, 0, none⟩))) { w' with heap := w'.heap.push (.cells (R.cells y r).toArray t) })
    (hg : g = true) (hd : Nat.blt d cx.n = true) :
    LX cx env fs os g (fun _ => False) (some d) op T (fun b : Nat => (d, true, .pointer (some ⟨b, 0, none⟩)) :: env) (fun _ => fs) (fun b => bx y r b t :: os) := by
  intro a w m hs Q K hK pos af gd
  rw [if_pos hg]
  unfold Oper.wp
  rw [hx a w m hs hg w _ _ _ _]
  refine hK w.heap.size _ _ m ?_ (.of (below_push _ _))
  have h1 := below_push w (.cells (R.cells y r).toArray t)
  refine (hs.put hd rfl).addOwn h1 (fun _ _ => rfl) (m_same hs.fresh h1.size) (fun b hb => ?_) ⟨?_, hs.fresh _ (Nat.le_refl _)⟩
  · cases hb
    exact ⟨Nat.le_refl _, by simp⟩
  · simp

theorem LX.box {α : Type} [R α] {d : Tmp} {x : Operand} {t : TypeId} {y : α} {r : R.Raw α} (hx : ev env x = some (true, V y r)) (hd : Nat.blt d cx.n = true := by rfl) :
    LX cx env fs os true (fun _ => False) (some d) (.box t x) T (fun b : Nat => (d, true, .pointer (some ⟨b, 0, none⟩)) :: env) (fun _ => fs) (fun b => bx y r b t :: os) :=
  LX.new (fun a w m hs _ w' _ _ _ _ => by simp only [execOp, Instr.box, newVar, newRow, hs.ev hx rfl, V_cells]; simp) rfl hd

theorem LX.alloc {α : Type} [R α] {d : Tmp} {t : TypeId} {y : α} {r : R.Raw α} [hz : Zr cx.P t y r] (hd : Nat.blt d cx.n = true := by rfl) :
    LX cx env fs os true (fun _ => False) (some d) (.alloc t) T (fun b : Nat => (d, true, .pointer (some ⟨b, 0, none⟩)) :: env) (fun _ => fs) (fun b => bx y r b t :: os) :=
  LX.new (fun a w m hs _ w' _ _ _ _ => by simp only [execOp, Instr.alloc, newVar, newRow, Sem.run_bind, hz.zero w', Result.andThen_ok, V_cells]; simp) rfl hd

/-- A store into a block of the call's own. -/
theorem LX.st {α β : Type} [R α] [R β] {x v : Operand} {t b o T0 : Nat} {y : α} {r : R.Raw α} {z : β} {s : R.Raw β} [ht : Ty cx.P t β] (i : Nat) (L : Lens α β) (hx : ev env x = some (true, .pointer (some ⟨b, o, none⟩))) (hv : ev env v = some (true, V z s)) (hi : os[i]? = some (bx y r b T0)) (ho : L.off = o := by rfl) :
    LX cx env fs os true (· = b) none (.store t x v) T (fun _ : Unit => env) (fun _ => fs) (fun _ => os.set i (bx (L.set y z) (L.setR r s) b T0)) := by
  intro a w m hs Q K hK pos af gd
  rw [if_pos rfl]
  unfold Oper.wp
  have hq := hs.own hi
  obtain ⟨hq1, hq2⟩ := hq
  have hrun : (storeVar t ⟨b, o, none⟩ (V z s)).run cx.P w = .ok () (w.setRow b (R.cells (L.set y z) (L.setR r s)).toArray) := by
    unfold storeVar
    have h1 : (R.cells z s).toArray.size = R.size β := by simp [R.len]
    simp only [Sem.run_bind, ht.size w, Result.andThen_ok, V_cells]
    rw [if_neg (fun h => h h1)]
    have h2 := run_storeCells_at cx.P b o T0 (R.cells z s) 0 _ w hq1 (by simp [R.len]; rw [← ho]; exact L.fits) (R.ones z s)
    simp only [Nat.add_zero] at h2
    rw [h2, L.wr, ho, R.len]
    simp
  have hex : (execOp a.eval ⟨none, .store t x v, T, pos, af, gd⟩).run cx.P w = .ok .skip (w.setRow b (R.cells (L.set y z) (L.setR r s)).toArray) := by
    simp only [execOp, Instr.storeAt, Instr.sureAddr, hs.ev hx rfl, hs.ev hv rfl, Sem.run_bind, Sem.run_pure, Result.andThen_ok, hrun]
  rw [hex]
  refine hK () _ _ m ?_ ⟨rfl, rfl, rfl, by simp, fun k _ hk => setRow_other _ _ _ _ hk⟩
  refine hs.turn hi rfl (fun b' hb' => ⟨setRow_other _ _ _ _ (fun e => hb' (by rw [e]; rfl)), rfl⟩) (by simp) rfl rfl rfl ⟨fun b' i' hlt => ?_, fun _ => Nat.le_refl _, fun b' es c hlt hh => ?_⟩ ⟨setRow_heap w b _ _ T0 _ hq1, hq2⟩
  · have hne : b' ≠ b := fun e => by rw [e, hq2] at hlt; exact absurd hlt (Nat.not_lt_zero _)
    exact World.cell?_of_block (w := w) (setRow_other w b b' _ hne)
  · have hne : b' ≠ b := fun e => by rw [e, hq2] at hlt; exact absurd hlt (Nat.not_lt_zero _)
    exact (setRow_other w b b' _ hne).trans hh

/-- A list that is nil may be made longer. -/
theorem St.nilTip {a : Act} {w : World} {m : WM} (hs : St cx env fs os a w m) (t size : Nat) : St cx env fs (tp t size 0 none 0 :: os) a w m :=
  hs.addOwn (Below.refl _ _) (fun _ _ => rfl) hs.fresh (fun b hb => by cases hb) (.inl ⟨rfl, rfl, rfl⟩)
theorem GL.nilTip {ops : Array Oper} {Q : Post0} {l : List Oper} (t size : Nat) (h : GL cx ops Q env fs (tp t size 0 none 0 :: os) l) : GL cx ops Q env fs os l := fun a w m hs => h a w m (hs.nilTip t size)
theorem GC.nilTip {Q : Post0} {c : Code} (t size : Nat) (h : GC cx Q env fs (tp t size 0 none 0 :: os) c) : GC cx Q env fs os c := fun a w m hs => h a w m (hs.nilTip t size)
end ops
end Go.Cw
