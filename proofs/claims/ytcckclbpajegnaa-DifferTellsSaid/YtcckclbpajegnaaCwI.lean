/- What the printed texts lean on. Conditions: none; no program is named. -/
import Derived.Test.YtcckclbpajegnaaCwH
set_option linter.all false
set_option linter.unusedVariables false
set_option linter.unusedSimpArgs false
namespace Go.Cw
open Go Go.RowKit

theorem seg_rd (a b c : List Value) {o s : Nat} (ha : a.length = o) (hb : b.length = s) : ((a ++ (b ++ c)).drop o).take s = b := by
  subst ha; subst hb
  simp
theorem seg_wr (a b c d : List Value) {o s : Nat} (ha : a.length = o) (hb : b.length = s) : a ++ (d ++ c) = (a ++ (b ++ c)).take o ++ (d ++ (a ++ (b ++ c)).drop (o + s)) := by
  subst ha; subst hb
  have : (a ++ (b ++ c)).drop (a.length + b.length) = c := by
    rw [← List.append_assoc, ← List.length_append]
    exact List.drop_left
  rw [this, List.take_left]

theorem arr_of {P : Program} {T E n : Nat} (hu : P.underlying T = some (.array n E)) {s : Nat} (hs : ∀ w, (sizeOf E).run P w = .ok s w) (h1 : s = 1) : Arr P T n := ⟨fun w b o k i h => by
  subst h1
  simp only [Instr.indexAt, run_underlying hu, asIntOf, Instr.sureAddr, Sem.run_bind, Sem.run_pure, Result.andThen_ok]
  rw [if_pos h]
  simp [hs, add_mk]⟩

theorem byt_of {P : Program} {E b : Nat} (h : (P.info? E).map (·.bytes) = some b) (h1 : b ≤ 2 ^ 16) (h2 : b ≠ 0) : Byt P E b := ⟨by
  obtain ⟨i, hi, rfl⟩ := Option.map_eq_some_iff.1 h
  exact ⟨i, hi, rfl, h1, h2⟩⟩

theorem eqF_fin {α : Type} [R α] {P : Program} {d : Nat} {x y : α} {r s : R.Raw α} {w : World} {fl : List Field} {b : Bool} {p : Prop} [Decidable p] (h : EqF P d x y r s w fl b) (hb : b = decide p) : EqF P d x y r s w fl (decide p) := by
  subst hb; exact h

theorem fieldsOf_of {P : Program} {t : TypeId} {fs : Array Field} (h : P.underlying t = some (.struct fs)) : P.fieldsOf t = fs := by simp [Program.fieldsOf, h]

theorem EqF.nil' {α : Type} [R α] {P : Program} {d : Nat} {x y : α} {r s : R.Raw α} {w : World} : EqF P d x y r s w [] true := rfl
theorem EqF.cons' {α β : Type} [R α] [R β] [DecidableEq β] {P : Program} {d : Nat} {x y : α} {r s : R.Raw α} {w : World} {f : Field} {fl : List Field} {b' : Bool} (hn : f.name ≠ "_") (L : Lens α β) (ho : L.off = f.offset) (ht : Ty P f.type β)
    (he : (Op.equalIn d f.type (V (L.get x) (L.getR r)) (V (L.get y) (L.getR s))).run P w = .ok (decide (L.get x = L.get y)) w) (hr : EqF P d x y r s w fl b') : EqF P d x y r s w (f :: fl) (decide (L.get x = L.get y) && b') :=
  ⟨hn, β, _, _, L, b', ho, ht, he, hr, rfl⟩

/-- Small unsigned kinds. -/
class UI (α : Type) [C1 α] (k : outParam IntKind) where
  of : Int → α
  c1_of : ∀ n : Int, 0 ≤ n → n ≤ k.max → C1.c1 (of n) = .int k n
  toI : α → Int
  c1_eq : ∀ x, C1.c1 x = .int k (toI x)
  lo : ∀ x, 0 ≤ toI x
  hi : ∀ x, toI x ≤ k.max

instance : UI UInt8 .u8 where
  of n := UInt8.ofNat n.toNat
  c1_of n h0 h1 := by
    have : n.toNat < 256 := by simp [IntKind.max, IntKind.signed, IntKind.bits] at h1; omega
    show Value.int .u8 ((UInt8.ofNat n.toNat).toNat : Int) = .int .u8 n
    have e : (UInt8.ofNat n.toNat).toNat = n.toNat := by simp [UInt8.toNat_ofNat']; omega
    rw [e]
    congr 1; omega
  toI x := x.toNat
  c1_eq _ := rfl
  lo x := by omega
  hi x := by have := x.toNat_lt; simp [IntKind.max, IntKind.signed, IntKind.bits]; omega
instance : UI UInt16 .u16 where
  of n := UInt16.ofNat n.toNat
  c1_of n h0 h1 := by
    have : n.toNat < 65536 := by simp [IntKind.max, IntKind.signed, IntKind.bits] at h1; omega
    show Value.int .u16 ((UInt16.ofNat n.toNat).toNat : Int) = .int .u16 n
    have e : (UInt16.ofNat n.toNat).toNat = n.toNat := by simp [UInt16.toNat_ofNat']; omega
    rw [e]
    congr 1; omega
  toI x := x.toNat
  c1_eq _ := rfl
  lo x := by omega
  hi x := by have := x.toNat_lt; simp [IntKind.max, IntKind.signed, IntKind.bits]; omega
instance : UI UInt32 .u32 where
  of n := UInt32.ofNat n.toNat
  c1_of n h0 h1 := by
    have : n.toNat < 4294967296 := by simp [IntKind.max, IntKind.signed, IntKind.bits] at h1; omega
    show Value.int .u32 ((UInt32.ofNat n.toNat).toNat : Int) = .int .u32 n
    have e : (UInt32.ofNat n.toNat).toNat = n.toNat := by simp [UInt32.toNat_ofNat']; omega
    rw [e]
    congr 1; omega
  toI x := x.toNat
  c1_eq _ := rfl
  lo x := by omega
  hi x := by have := x.toNat_lt; simp [IntKind.max, IntKind.signed, IntKind.bits]; omega
instance : UI UInt64 .u64 where
  of n := UInt64.ofNat n.toNat
  c1_of n h0 h1 := by
    have : n.toNat < 18446744073709551616 := by simp [IntKind.max, IntKind.signed, IntKind.bits] at h1; omega
    show Value.int .u64 ((UInt64.ofNat n.toNat).toNat : Int) = .int .u64 n
    have e : (UInt64.ofNat n.toNat).toNat = n.toNat := by simp [UInt64.toNat_ofNat']; omega
    rw [e]
    congr 1; omega
  toI x := x.toNat
  c1_eq _ := rfl
  lo x := by omega
  hi x := by have := x.toNat_lt; simp [IntKind.max, IntKind.signed, IntKind.bits]; omega

theorem wrap_range {k : IntKind} (hk : k.signed = false) (n : Int) : 0 ≤ k.wrap n ∧ k.wrap n ≤ k.max := by
  cases k <;> simp [IntKind.signed] at hk <;> simp [IntKind.wrap, IntKind.signed, IntKind.max, IntKind.bits] <;> omega

section ops
variable {cx : Cx} {X : Nat → Prop} {env : Env} {fs : List Fact} {os : List Own} {g : Bool} {T : TypeId}

theorem ar_range {op : BinOp} {k : IntKind} (hop : isAr op = true) (hk : k.signed = false) (a b : Int) : 0 ≤ arI op k a b ∧ arI op k a b ≤ k.max := by
  cases op <;> first | (simp [isAr] at hop; done) | exact wrap_range hk _

theorem QE.arU {α : Type} [C1 α] {k : IntKind} [hu : UI α k] {op : BinOp} {x y : Operand} {gx gy : Bool} {t t' : TypeId} {a b : Int} (hx : ev env x = some (gx, .int k a)) (hy : ev env y = some (gy, .int k b)) (hop : isAr op = true := by rfl) (hk : k.signed = false := by rfl)
    (hi : g = true → gx = true := by first | exact fun _ => rfl | exact fun h => h | exact and1) (hj : g = true → gy = true := by first | exact fun _ => rfl | exact fun h => h | exact and1) :
    QE cx X env fs os g (.binOp op t x y t') T (V (UI.of (arI op k a b) : α) ()) := by
  have h := ar_range hop hk a b
  rw [show V (UI.of (arI op k a b) : α) () = .int k (arI op k a b) from hu.c1_of _ h.1 h.2]
  exact QE.ar hx hy hop hi hj

theorem QE.divU {α : Type} [C1 α] {k : IntKind} [hu : UI α k] {op : BinOp} {x y : Operand} {gx gy : Bool} {t t' : TypeId} {a b : α} (hx : ev env x = some (gx, C1.c1 a)) (hy : ev env y = some (gy, C1.c1 b)) (hb : g = true → UI.toI b ≠ 0) (hop : (op matches .quo | .rem) = true := by rfl) (hk : k.signed = false := by rfl)
    (hi : g = true → gx = true := by first | exact fun _ => rfl | exact fun h => h | exact and1) (hj : g = true → gy = true := by first | exact fun _ => rfl | exact fun h => h | exact and1) :
    QE cx X env fs os g (.binOp op t x y t') T (V (UI.of (arI op k (UI.toI a) (UI.toI b)) : α) ()) := by
  have h : 0 ≤ arI op k (UI.toI a) (UI.toI b) ∧ arI op k (UI.toI a) (UI.toI b) ≤ k.max := by
    have ha := hu.lo a
    have ha' := hu.hi a
    cases op <;> first | (simp at hop; done) | exact wrap_range hk _ | skip
    refine ⟨Int.tmod_nonneg _ ha, ?_⟩
    have : (UI.toI a).tmod (UI.toI b) ≤ UI.toI a := by
      rw [Int.tmod_eq_emod_of_nonneg ha]
      have hb0 := hu.lo b
      rcases Int.lt_or_eq_of_le hb0 with h1 | h1
      · rcases Int.lt_or_le (UI.toI a) (UI.toI b) with h2 | h2
        · rw [Int.emod_eq_of_lt ha h2]; exact Int.le_refl _
        · have := Int.emod_lt_of_pos (UI.toI a) h1; omega
      · rw [← h1]; simp
    exact Int.le_trans this ha'
  rw [show V (UI.of (arI op k (UI.toI a) (UI.toI b)) : α) () = .int k (arI op k (UI.toI a) (UI.toI b)) from hu.c1_of _ h.1 h.2]
  exact QE.div (by rw [hx, hu.c1_eq]) (by rw [hy, hu.c1_eq]) hb hop hi hj

theorem QE.shU {α : Type} [C1 α] {k : IntKind} [hu : UI α k] {op : BinOp} {x y : Operand} {gx gy : Bool} {t t' : TypeId} {l : IntKind} {a : α} {n : Int} (hx : ev env x = some (gx, C1.c1 a)) (hy : ev env y = some (gy, .int l n)) (hn : g = true → 0 ≤ n) (hop : (op matches .shl | .shr) = true := by rfl) (hk : k.signed = false := by rfl)
    (hi : g = true → gx = true := by first | exact fun _ => rfl | exact fun h => h | exact and1) (hj : g = true → gy = true := by first | exact fun _ => rfl | exact fun h => h | exact and1) :
    QE cx X env fs os g (.binOp op t x y t') T (V (UI.of (shI op k (UI.toI a) n) : α) ()) := by
  have h : 0 ≤ shI op k (UI.toI a) n ∧ shI op k (UI.toI a) n ≤ k.max := by
    have ha := hu.lo a
    have ha' := hu.hi a
    cases op <;> first | (simp at hop; done) | exact wrap_range hk _ | skip
    show 0 ≤ (UI.toI a).fdiv (2 ^ (min n.toNat k.bits)) ∧ (UI.toI a).fdiv (2 ^ (min n.toNat k.bits)) ≤ k.max
    have hp : (0 : Int) < 2 ^ (min n.toNat k.bits) := Int.pow_pos (by decide)
    rw [Int.fdiv_eq_ediv_of_nonneg _ (Int.le_of_lt hp)]
    exact ⟨Int.ediv_nonneg ha (Int.le_of_lt hp), Int.le_trans (Int.ediv_le_self _ ha) ha'⟩
  rw [show V (UI.of (shI op k (UI.toI a) n) : α) () = .int k (shI op k (UI.toI a) n) from hu.c1_of _ h.1 h.2]
  exact QE.sh (by rw [hx, hu.c1_eq]) hy hn hop hi hj

theorem QE.convU {α : Type} [C1 α] {l : IntKind} [hu : UI α l] {x : Operand} {gx : Bool} {s t : TypeId} {k : IntKind} {a : Int} (hx : ev env x = some (gx, .int k a)) (ht : ∀ w, (underlying t).run cx.P w = .ok (.int l) w) (hsrc : ∃ d, ∀ w, (underlying s).run cx.P w = .ok d w) (hk : l.signed = false := by rfl)
    (hi : g = true → gx = true := by first | exact fun _ => rfl | exact fun h => h | exact and1) :
    QE cx X env fs os g (.convert s t x) T (V (UI.of (l.wrap a) : α) ()) := by
  have h := wrap_range hk a
  rw [show V (UI.of (l.wrap a) : α) () = .int l (l.wrap a) from hu.c1_of _ h.1 h.2]
  exact QE.conv hx ht hsrc hi

/-- To int, out of a kind that fits. -/
theorem QE.convI {α : Type} [C1 α] {k : IntKind} [hu : UI α k] {a : α} {x : Operand} {gx : Bool} {s t : TypeId} (hx : ev env x = some (gx, C1.c1 a)) (hk : k.max ≤ IntKind.i64.max) (ht : ∀ w, (underlying t).run cx.P w = .ok (.int .i64) w) (hsrc : ∃ d, ∀ w, (underlying s).run cx.P w = .ok d w)
    (hi : g = true → gx = true := by first | exact fun _ => rfl | exact fun h => h | exact and1) :
    QE cx X env fs os g (.convert s t x) T (.int .i64 (UI.toI a)) := by
  have h := QE.conv (cx := cx) (X := X) (env := env) (fs := fs) (os := os) (g := g) (T := T) (x := x) (s := s) (t := t) (k := k) (a := UI.toI a) (by rw [hx, hu.c1_eq]) ht hsrc hi
  have e : IntKind.i64.wrap (UI.toI a) = UI.toI a := by
    have h1 := hu.lo a
    have h2 := Int.le_trans (hu.hi a) hk
    simp [IntKind.wrap, IntKind.signed, IntKind.bits, IntKind.max] at *
    omega
  rw [e] at h
  exact h

/-! ### Literals of arrays -/

class PlsV (P : Program) (T : TypeId) (n s : outParam Nat) : Prop where
  arr : ∃ E, P.underlying T = some (.array n E) ∧ ∀ w, (sizeOf E).run P w = .ok s w

theorem QE.buildV {α : Type} [R α] {t n sz : Nat} {parts : List (Nat × Operand)} {vals : List (Nat × Value)} {z : α} {zr : R.Raw α} {x : α} {r : R.Raw α} [hz : Zr cx.P t z zr] [hp : PlsV cx.P t n sz]
    (hv : evp env g parts vals) (hf : Fills (fun i => some (i * sz, sz)) z zr vals x r) (hagg : R.agg α = true := by rfl) : QE cx X env fs os g (.build t parts.toArray) T (V x r) :=
  fun A w m hs hg w' _ _ _ _ _ => by
    simp only [execOp]
    have h1 := hv.is hs hg
    obtain ⟨E, hu, hm⟩ := hp.arr
    simp only [Sem.run_bind, Instr.build, hz.zero w', Result.andThen_ok, run_underlying hu, hm w', V_cells]
    simp only [List.map_toArray, h1]
    rw [fill_fills hf]
    simp [V, hagg]

/-! ### Lists of operands, one by one -/
theorem evs.nil : evs env g [] [] := trivial
theorem evs.cons {x : Operand} {l : List Operand} {v : Value} {l' : List Value} {gx : Bool} (h : ev env x = some (gx, v)) (hi : g = true → gx = true) (hr : evs env g l l') : evs env g (x :: l) (v :: l') := ⟨⟨gx, h, hi⟩, hr⟩
theorem evp.nil : evp env g [] [] := trivial
theorem evp.cons {i : Nat} {x : Operand} {l : List (Nat × Operand)} {v : Value} {l' : List (Nat × Value)} {gx : Bool} (h : ev env x = some (gx, v)) (hi : g = true → gx = true) (hr : evp env g l l') : evp env g ((i, x) :: l) ((i, v) :: l') := ⟨rfl, ⟨gx, h, hi⟩, hr⟩

/-! ### Facts that follow -/

theorem GL.fact {ops : Array Oper} {Q : Post0} {l : List Oper} (f : Fact) (hf : ∀ m w, (∀ (i : Nat) {x : Fact}, fs[i]? = some x → x.p m w) → f.p m w) (h : GL cx ops Q env (f :: fs) os l) : GL cx ops Q env fs os l :=
  fun a w m hs => h a w m (hs.addFact (hf m w fun _ _ hi => hs.fact hi))
theorem GH.fact {ops : Array Oper} {Q : Post0} {p : Plan} (f : Fact) (hf : ∀ m w, (∀ (i : Nat) {x : Fact}, fs[i]? = some x → x.p m w) → f.p m w) (h : GH cx X ops Q env (f :: fs) os p) : GH cx X ops Q env fs os p :=
  fun a w m hs => h a w m (hs.addFact (hf m w fun _ _ hi => hs.fact hi))

theorem GT.fact {ops : Array Oper} {Q : Post0} {l : List Nat} (f : Fact) (hf : ∀ m w, (∀ (i : Nat) {x : Fact}, fs[i]? = some x → x.p m w) → f.p m w) (h : GT cx X ops Q env (f :: fs) os l) : GT cx X ops Q env fs os l :=
  fun a w m hs => h a w m (hs.addFact (hf m w fun _ _ hi => hs.fact hi))
theorem GT.nilTip {ops : Array Oper} {Q : Post0} {l : List Nat} (t size : Nat) (h : GT cx X ops Q env fs (tp t size 0 none 0 :: os) l) : GT cx X ops Q env fs os l := fun a w m hs => h a w m (hs.nilTip t size)
theorem GC.fact {Q : Post0} {c : Code} (f : Fact) (hf : ∀ m w, (∀ (i : Nat) {x : Fact}, fs[i]? = some x → x.p m w) → f.p m w) (h : GC cx Q env (f :: fs) os c) : GC cx Q env fs os c :=
  fun a w m hs => h a w m (hs.addFact (hf m w fun _ _ hi => hs.fact hi))
theorem GH.nilTip {ops : Array Oper} {Q : Post0} {p : Plan} (t size : Nat) (h : GH cx X ops Q env fs (tp t size 0 none 0 :: os) p) : GH cx X ops Q env fs os p := fun a w m hs => h a w m (hs.nilTip t size)

/-- max, min of two ints -/
theorem QE.max2 {x y : Operand} {gx gy : Bool} {ts : Array TypeId} {k k' : IntKind} {a b : Int} (hx : ev env x = some (gx, .int k a)) (hy : ev env y = some (gy, .int k' b))
    (hi : g = true → gx = true := by first | exact fun _ => rfl | exact fun h => h | exact and1) (hj : g = true → gy = true := by first | exact fun _ => rfl | exact fun h => h | exact and1) :
    QE cx X env fs os g (.call ⟨.builtin .max, #[x, y], ts⟩) T (.int k (if b > a then b else a)) :=
  fun A w m hs hg w' _ _ _ _ _ => by
    simp only [execOp, resolve, invoke, builtin, Sem.run_bind, Sem.run_pure, Result.andThen_ok, List.map_toArray, List.map_cons, List.map_nil, hs.ev hx (hi hg), hs.ev hy (hj hg), run_max_int2]
theorem QE.min2 {x y : Operand} {gx gy : Bool} {ts : Array TypeId} {k k' : IntKind} {a b : Int} (hx : ev env x = some (gx, .int k a)) (hy : ev env y = some (gy, .int k' b))
    (hi : g = true → gx = true := by first | exact fun _ => rfl | exact fun h => h | exact and1) (hj : g = true → gy = true := by first | exact fun _ => rfl | exact fun h => h | exact and1) :
    QE cx X env fs os g (.call ⟨.builtin .min, #[x, y], ts⟩) T (.int k (if b < a then b else a)) :=
  fun A w m hs hg w' _ _ _ _ _ => by
    simp only [execOp, resolve, invoke, builtin, Sem.run_bind, Sem.run_pure, Result.andThen_ok, List.map_toArray, List.map_cons, List.map_nil, hs.ev hx (hi hg), hs.ev hy (hj hg), run_min_int2]

/-! ### Results -/

def RVat (P : Program) (a : Act) (w : World) (v : Value) : ResultVar → Prop
  | .tmp t => a.tmps[t]?.getD undef = v
  | .cell c t => ∃ ad, a.tmps[c]?.getD undef = .pointer (some ad) ∧ (loadVar t ad).run P w = .ok v w

def RV (P : Program) (env : Env) (fs : List Fact) (os : List Own) (rv : ResultVar) (v : Value) : Prop :=
  ∀ n w0 m0 X a w m, St ⟨P, n, w0, m0, X⟩ env fs os a w m → RVat P a w v rv

theorem RV.tmp {P : Program} {t : Nat} {v : Value} (he : look env t = some (true, v)) : RV P env fs os (.tmp t) v := fun n w0 m0 X a w m hs => by
  have := hs.sees t _ _ he
  simp only [cond_true, Array.getD_eq_getD_getElem?] at this
  exact this

theorem RV.cell {P : Program} {c t b T0 : Nat} {α : Type} [R α] [ht : Ty P t α] {y : α} {r : R.Raw α} (i : Nat) (he : look env c = some (true, .pointer (some ⟨b, 0, none⟩))) (hi : os[i]? = some (bx y r b T0)) : RV P env fs os (.cell c t) (V y r) := fun n w0 m0 X a w m hs => by
  have := hs.sees c _ _ he
  simp only [cond_true, Array.getD_eq_getD_getElem?] at this
  refine ⟨_, this, run_loadVar_cells fun j hj => ?_⟩
  have hq := (hs.own hi).1
  rw [cell_of_row w b (0 + j) _ T0 (0, 0) hq]
  simp

def RO (P : Program) (env : Env) (fs : List Fact) (os : List Own) (q : WM → World → Prop) : Prop := ∀ n w0 m0 X a w m, St ⟨P, n, w0, m0, X⟩ env fs os a w m → q m w
theorem RO.flat {P : Program} {q : WM → World → Prop} (h : ∀ m w, (True → q m w)) : RO P env fs os q := fun _ _ _ _ _ w m _ => h m w trivial
theorem RO.fact {P : Program} {α : Type} [R α] {y : α} {r : R.Raw α} (i : Nat) (hi : fs[i]? = some (Fk true y r)) : RO P env fs os (fun m w => R.ok m w y r) := fun _ _ _ _ _ _ _ hs => hs.fact hi rfl

section ret
variable {P : Program} {fn : Func} {w0 : World} {m0 : WM} {n : Nat}

theorem ret0 {K : Unit → Prop} (hr : fn.results = #[]) (hk : K ()) : ∀ a w m, St ⟨P, n, w0, m0, fun _ => False⟩ env fs os a w m → bodyPost P fn (Post w0 m0 K) .ret a w := fun a w m hs =>
  ⟨hs.defers, .tuple #[], by simp [results, hr], (), (), m, hk, rfl, hs.below.none fun _ h => h, fun b hb => hs.old b hb fun h => h, hs.fresh, trivial⟩

theorem ret1 {α : Type} [R α] {K : α → Prop} {r1 : ResultVar} (hr : fn.results = #[r1]) {y1 : α} {s1 : R.Raw α} (h1 : RV P env fs os r1 (V y1 s1)) (o1 : RO P env fs os (fun m w => R.ok m w y1 s1)) (hk : K y1) :
    ∀ a w m, St ⟨P, n, w0, m0, fun _ => False⟩ env fs os a w m → bodyPost P fn (Post w0 m0 K) .ret a w := fun a w m hs => by
  refine ⟨hs.defers, V y1 s1, ?_, y1, s1, m, hk, rfl, hs.below.none fun _ h => h, fun b hb => hs.old b hb fun h => h, hs.fresh, o1 _ _ _ _ _ _ _ hs⟩
  have e1 := h1 _ _ _ _ _ _ _ hs
  cases r1 with
  | tmp => simp only [RVat] at e1; simp [results, hr, e1]
  | cell => obtain ⟨ad, p1, q1⟩ := e1; simp [results, hr, p1, q1, asAddr]

theorem ret2 {α β : Type} [R α] [R β] {K : α × β → Prop} {r1 r2 : ResultVar} (hr : fn.results = #[r1, r2]) {y1 : α} {s1 : R.Raw α} {y2 : β} {s2 : R.Raw β} (h1 : RV P env fs os r1 (V y1 s1)) (h2 : RV P env fs os r2 (V y2 s2))
    (o1 : RO P env fs os (fun m w => R.ok m w y1 s1)) (o2 : RO P env fs os (fun m w => R.ok m w y2 s2)) (hk : K (y1, y2)) :
    ∀ a w m, St ⟨P, n, w0, m0, fun _ => False⟩ env fs os a w m → bodyPost P fn (Post w0 m0 K) .ret a w := fun a w m hs => by
  refine ⟨hs.defers, .tuple #[V y1 s1, V y2 s2], ?_, (y1, y2), (s1, s2), m, hk, rfl, hs.below.none fun _ h => h, fun b hb => hs.old b hb fun h => h, hs.fresh, o1 _ _ _ _ _ _ _ hs, o2 _ _ _ _ _ _ _ hs⟩
  have e1 := h1 _ _ _ _ _ _ _ hs
  have e2 := h2 _ _ _ _ _ _ _ hs
  cases r1 <;> cases r2 <;> simp only [RVat] at e1 e2 <;> (try obtain ⟨ad1, p1, q1⟩ := e1) <;> (try obtain ⟨ad2, p2, q2⟩ := e2) <;> simp [results, hr, asAddr, *]

theorem ret3 {α β γ : Type} [R α] [R β] [R γ] {K : α × β × γ → Prop} {r1 r2 r3 : ResultVar} (hr : fn.results = #[r1, r2, r3]) {y1 : α} {s1 : R.Raw α} {y2 : β} {s2 : R.Raw β} {y3 : γ} {s3 : R.Raw γ} (h1 : RV P env fs os r1 (V y1 s1)) (h2 : RV P env fs os r2 (V y2 s2)) (h3 : RV P env fs os r3 (V y3 s3))
    (o1 : RO P env fs os (fun m w => R.ok m w y1 s1)) (o2 : RO P env fs os (fun m w => R.ok m w y2 s2)) (o3 : RO P env fs os (fun m w => R.ok m w y3 s3)) (hk : K (y1, y2, y3)) :
    ∀ a w m, St ⟨P, n, w0, m0, fun _ => False⟩ env fs os a w m → bodyPost P fn (Post w0 m0 K) .ret a w := fun a w m hs => by
  refine ⟨hs.defers, .tuple #[V y1 s1, V y2 s2, V y3 s3], ?_, (y1, y2, y3), (s1, s2, s3), m, hk, rfl, hs.below.none fun _ h => h, fun b hb => hs.old b hb fun h => h, hs.fresh, o1 _ _ _ _ _ _ _ hs, o2 _ _ _ _ _ _ _ hs, o3 _ _ _ _ _ _ _ hs⟩
  have e1 := h1 _ _ _ _ _ _ _ hs
  have e2 := h2 _ _ _ _ _ _ _ hs
  have e3 := h3 _ _ _ _ _ _ _ hs
  cases r1 <;> cases r2 <;> cases r3 <;> simp only [RVat] at e1 e2 e3 <;> (try obtain ⟨ad1, p1, q1⟩ := e1) <;> (try obtain ⟨ad2, p2, q2⟩ := e2) <;> (try obtain ⟨ad3, p3, q3⟩ := e3) <;> simp [results, hr, asAddr, *]
end ret
end ops

/-! ### Ways that meet, loops of several variables -/

def WJ {τ : Sort _} (A : τ → Prop) (J : τ) : Prop := A J
theorem WJ.open {τ : Sort _} {A : τ → Prop} {J0 : τ} (h : WJ A J0) : ∃ J : τ, J = J0 ∧ A J := ⟨J0, rfl, h⟩

/-- Ways that meet: what comes behind is shown once. -/
theorem GC.joinAt {cx : Cx} {Q : Post0} {env : Env} {fs : List Fact} {os : List Own} {c c' : Code} {Q2 : Post0} (hQ : ∀ a w, Q .normal a w = c'.wp cx.P Q2 a w) (S : Cx → Post0 → Code → Prop) (hk : S cx Q2 c') (hb : S cx Q2 c' → GC cx Q env fs os c) : GC cx Q env fs os c := hb hk

def Lfp1 {α : Type} (step : α → (α → Prop) → Prop) (a : α) : Prop := ∀ I : α → Prop, (∀ a, step a I → I a) → I a
def Lfp2 {α β : Type} (step : α → β → (α → β → Prop) → Prop) (a : α) (b : β) : Prop := ∀ I : α → β → Prop, (∀ a b, step a b I → I a b) → I a b
def Lfp3 {α β γ : Type} (step : α → β → γ → (α → β → γ → Prop) → Prop) (a : α) (b : β) (c : γ) : Prop := ∀ I : α → β → γ → Prop, (∀ a b c, step a b c I → I a b c) → I a b c
def Lfp4 {α β γ δ : Type} (step : α → β → γ → δ → (α → β → γ → δ → Prop) → Prop) (a : α) (b : β) (c : γ) (d : δ) : Prop := ∀ I : α → β → γ → δ → Prop, (∀ a b c d, step a b c d I → I a b c d) → I a b c d
def Lfp5 {α β γ δ ε : Type} (step : α → β → γ → δ → ε → (α → β → γ → δ → ε → Prop) → Prop) (a : α) (b : β) (c : γ) (d : δ) (e : ε) : Prop := ∀ I : α → β → γ → δ → ε → Prop, (∀ a b c d e, step a b c d e I → I a b c d e) → I a b c d e
def Lfp6 {α β γ δ ε ζ : Type} (step : α → β → γ → δ → ε → ζ → (α → β → γ → δ → ε → ζ → Prop) → Prop) (a : α) (b : β) (c : γ) (d : δ) (e : ε) (f : ζ) : Prop := ∀ I : α → β → γ → δ → ε → ζ → Prop, (∀ a b c d e f, step a b c d e f I → I a b c d e f) → I a b c d e f

theorem Lfp1.intro {α : Type} {step : α → (α → Prop) → Prop} (Inv : α → Prop) (μ : α → Nat) {a : α} (h0 : Inv a) (h : ∀ a (I : α → Prop), Inv a → (∀ a', Inv a' → μ a' < μ a → I a') → step a I) : Lfp1 step a := by
  intro I hI
  have key : ∀ n a, μ a = n → Inv a → I a := by
    intro n
    induction n using Nat.strongRecOn with
    | _ n ih => exact fun a hn hs => hI a (h a I hs fun a' hs' hlt => ih (μ a') (hn ▸ hlt) a' rfl hs')
  exact key _ a rfl h0
theorem Lfp2.intro {α β : Type} {step : α → β → (α → β → Prop) → Prop} (Inv : α → β → Prop) (μ : α → β → Nat) {a : α} {b : β} (h0 : Inv a b) (h : ∀ a b (I : α → β → Prop), Inv a b → (∀ a' b', Inv a' b' → μ a' b' < μ a b → I a' b') → step a b I) : Lfp2 step a b := by
  intro I hI
  have key : ∀ n a b, μ a b = n → Inv a b → I a b := by
    intro n
    induction n using Nat.strongRecOn with
    | _ n ih => exact fun a b hn hs => hI a b (h a b I hs fun a' b' hs' hlt => ih (μ a' b') (hn ▸ hlt) a' b' rfl hs')
  exact key _ a b rfl h0
theorem Lfp3.intro {α β γ : Type} {step : α → β → γ → (α → β → γ → Prop) → Prop} (Inv : α → β → γ → Prop) (μ : α → β → γ → Nat) {a : α} {b : β} {c : γ} (h0 : Inv a b c) (h : ∀ a b c (I : α → β → γ → Prop), Inv a b c → (∀ a' b' c', Inv a' b' c' → μ a' b' c' < μ a b c → I a' b' c') → step a b c I) : Lfp3 step a b c := by
  intro I hI
  have key : ∀ n a b c, μ a b c = n → Inv a b c → I a b c := by
    intro n
    induction n using Nat.strongRecOn with
    | _ n ih => exact fun a b c hn hs => hI a b c (h a b c I hs fun a' b' c' hs' hlt => ih (μ a' b' c') (hn ▸ hlt) a' b' c' rfl hs')
  exact key _ a b c rfl h0
theorem Lfp4.intro {α β γ δ : Type} {step : α → β → γ → δ → (α → β → γ → δ → Prop) → Prop} (Inv : α → β → γ → δ → Prop) (μ : α → β → γ → δ → Nat) {a : α} {b : β} {c : γ} {d : δ} (h0 : Inv a b c d) (h : ∀ a b c d (I : α → β → γ → δ → Prop), Inv a b c d → (∀ a' b' c' d', Inv a' b' c' d' → μ a' b' c' d' < μ a b c d → I a' b' c' d') → step a b c d I) : Lfp4 step a b c d := by
  intro I hI
  have key : ∀ n a b c d, μ a b c d = n → Inv a b c d → I a b c d := by
    intro n
    induction n using Nat.strongRecOn with
    | _ n ih => exact fun a b c d hn hs => hI a b c d (h a b c d I hs fun a' b' c' d' hs' hlt => ih (μ a' b' c' d') (hn ▸ hlt) a' b' c' d' rfl hs')
  exact key _ a b c d rfl h0
theorem Lfp5.intro {α β γ δ ε : Type} {step : α → β → γ → δ → ε → (α → β → γ → δ → ε → Prop) → Prop} (Inv : α → β → γ → δ → ε → Prop) (μ : α → β → γ → δ → ε → Nat) {a : α} {b : β} {c : γ} {d : δ} {e : ε} (h0 : Inv a b c d e) (h : ∀ a b c d e (I : α → β → γ → δ → ε → Prop), Inv a b c d e → (∀ a' b' c' d' e', Inv a' b' c' d' e' → μ a' b' c' d' e' < μ a b c d e → I a' b' c' d' e') → step a b c d e I) : Lfp5 step a b c d e := by
  intro I hI
  have key : ∀ n a b c d e, μ a b c d e = n → Inv a b c d e → I a b c d e := by
    intro n
    induction n using Nat.strongRecOn with
    | _ n ih => exact fun a b c d e hn hs => hI a b c d e (h a b c d e I hs fun a' b' c' d' e' hs' hlt => ih (μ a' b' c' d' e') (hn ▸ hlt) a' b' c' d' e' rfl hs')
  exact key _ a b c d e rfl h0
end Go.Cw
