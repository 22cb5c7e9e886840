/- Slices that are turned in place; copies into arrays; results over blocks of the caller's. Conditions: none; no program is named. -/
import Derived.Test.YtcckclbpajegnaaCwL
set_option linter.all false
set_option linter.unusedVariables false
set_option linter.unusedSimpArgs false
namespace Go.Cw
open Go Go.RowKit

/-- A slice of the call's own, whose elements may be stored to. -/
def sv {α : Type} [R α] (T : TypeId) (n : Nat) (xs : List α) (rs : List (R.Raw α)) (a : Option Addr) (cap : Nat) : Own :=
  ⟨fun b => a.map (·.block) = some b, fun m w => (a = none ∧ xs = [] ∧ rs = [] ∧ n = 0) ∨ ∃ b arr, a = some ⟨b, 0, none⟩ ∧ w.heap[b]? = some (.cells arr T (0, 0)) ∧ arr.toList.take (xs.length * R.size α) = flat xs rs ∧ rs.length = xs.length ∧ (xs.length ≤ cap ∧ xs.length = n) ∧ m b = 0,
   fun h hq => hq.imp id fun ⟨b, arr, ha, hb, hs, hl, hc, hm⟩ => ⟨b, arr, ha, ((h b (by rw [ha]; rfl)).1).trans hb, hs, hl, hc, ((h b (by rw [ha]; rfl)).2).trans hm⟩⟩
/-- What its elements are. -/
def Okl {α : Type} [R α] (xs : List α) (rs : List (R.Raw α)) : Fact := ⟨fun m w => okl m w xs rs, fun he h => okl.stable he h⟩

def eptr (a : Option Addr) (k : Nat) : Value := .pointer (a.map (·.add k))
def rat {ρ : Type} (rs : List ρ) (d : ρ) (i : Int) : ρ := rs.getD i.toNat d

theorem okl.get {α : Type} [R α] {m w} : ∀ {xs : List α} {rs : List (R.Raw α)}, okl m w xs rs → ∀ {i : Nat} (hi : i < xs.length), R.ok m w xs[i] (rs.getD i R.dflt)
  | [], _, _, i, hi => absurd hi (by simp)
  | _ :: _, [], h, _, _ => h.elim
  | _ :: _, _ :: _, h, 0, _ => h.1
  | _ :: _, _ :: _, h, i + 1, hi => okl.get h.2 (by simpa using hi)
theorem okl.set {α : Type} [R α] {m w} {y : α} {s : R.Raw α} (hy : R.ok m w y s) : ∀ {xs : List α} {rs : List (R.Raw α)} (i : Nat), okl m w xs rs → okl m w (xs.set i y) (rs.set i s)
  | [], [], _, _ => trivial
  | _ :: _, _ :: _, 0, h => ⟨hy, h.2⟩
  | _ :: _, _ :: _, i + 1, h => ⟨h.1, okl.set hy i h.2⟩
  | [], _ :: _, _, h => h.elim
  | _ :: _, [], _, h => h.elim
theorem okl.take {α : Type} [R α] {m w} : ∀ {xs : List α} {rs : List (R.Raw α)} (i : Nat), okl m w xs rs → okl m w (xs.take i) (rs.take i)
  | [], [], _, _ => by simp [okl]
  | _ :: _, _ :: _, 0, _ => trivial
  | _ :: _, _ :: _, i + 1, h => ⟨h.1, okl.take i h.2⟩
  | [], _ :: _, _, h => h.elim
  | _ :: _, [], _, h => h.elim
theorem okl.rep {α : Type} [R α] {m w} {z : α} {zr : R.Raw α} (h : R.ok m w z zr) : ∀ n, okl m w (List.replicate n z) (List.replicate n zr)
  | 0 => trivial
  | n + 1 => ⟨h, okl.rep h n⟩
theorem flat_get {α : Type} [R α] : ∀ {xs : List α} {rs : List (R.Raw α)}, rs.length = xs.length → ∀ {i : Nat} (hi : i < xs.length), ((flat xs rs).drop (i * R.size α)).take (R.size α) = R.cells xs[i] (rs.getD i R.dflt)
  | [], _, _, i, hi => absurd hi (by simp)
  | _ :: _, [], h, _, _ => by simp at h
  | x :: xs, r :: rs, h, 0, _ => by
    have := R.len x r
    simp [flat, ← this]
  | x :: xs, r :: rs, h, i + 1, hi => by
    have ih := flat_get (xs := xs) (rs := rs) (by simpa using h) (i := i) (by simpa using hi)
    simp only [List.getElem_cons_succ, List.getD_cons_succ]
    rw [← ih, Nat.succ_mul, Nat.add_comm, flat, List.drop_append, List.drop_of_length_le (l := R.cells x r) (by rw [R.len]; omega), R.len]
    simp
theorem flat_set {α : Type} [R α] {y : α} {s : R.Raw α} : ∀ {xs : List α} {rs : List (R.Raw α)}, rs.length = xs.length → ∀ {i : Nat}, i < xs.length → flat (xs.set i y) (rs.set i s) = (flat xs rs).take (i * R.size α) ++ (R.cells y s ++ (flat xs rs).drop (i * R.size α + R.size α))
  | [], _, _, i, hi => absurd hi (by simp)
  | _ :: _, [], h, _, _ => by simp at h
  | x :: xs, r :: rs, h, 0, _ => by
    have := R.len x r
    simp [flat, ← this]
  | x :: xs, r :: rs, h, i + 1, hi => by
    have ih := flat_set (xs := xs) (rs := rs) (y := y) (s := s) (by simpa using h) (i := i) (by simpa using hi)
    simp only [List.set_cons_succ, flat]
    rw [ih]
    have e1 : (i + 1) * R.size α = (R.cells x r).length + i * R.size α := by rw [R.len, Nat.succ_mul, Nat.add_comm]
    rw [e1, List.take_length_add_append, Nat.add_assoc, List.drop_length_add_append, List.append_assoc]
theorem flat_take {α : Type} [R α] : ∀ {xs : List α} {rs : List (R.Raw α)} (i : Nat), rs.length = xs.length → flat (xs.take i) (rs.take i) = (flat xs rs).take (i * R.size α)
  | [], [], i, _ => by simp [flat]
  | [], _ :: _, _, h => by simp at h
  | _ :: _, [], _, h => by simp at h
  | x :: xs, r :: rs, 0, _ => by simp [flat]
  | x :: xs, r :: rs, i + 1, h => by
    simp only [List.take_succ_cons, flat]
    rw [flat_take i (by simpa using h), show (i + 1) * R.size α = (R.cells x r).length + i * R.size α by rw [R.len, Nat.succ_mul, Nat.add_comm], List.take_length_add_append]

section ops
variable {cx : Cx} {X : Nat → Prop} {env : Env} {fs : List Fact} {os : List Own} {g : Bool} {T : TypeId} {Q : Post0} {ops : Array Oper}
variable {α : Type} [R α]

theorem QE.iaS {x y : Operand} {gx gy : Bool} {t T0 n : Nat} {xs : List α} {rs : List (R.Raw α)} {r : Option Addr × Nat} {k : IntKind} {i : Int} [ha : Slc cx.P t α] (j : Nat) (hx : ev env x = some (gx, .slice r.1 n r.2)) (hy : ev env y = some (gy, .int k i)) (ho : os[j]? = some (sv T0 n xs rs r.1 r.2)) (hb : g = true → 0 ≤ i ∧ i < xs.length)
    (hi : g = true → gx = true := by first | exact fun _ => rfl | exact fun h => h | exact and1) (hj : g = true → gy = true := by first | exact fun _ => rfl | exact fun h => h | exact and1) :
    QE cx X env fs os g (.indexAddr t x y) T (eptr r.1 (i.toNat * R.size α)) :=
  fun A w m hs hg w' hw' _ _ _ _ => qe (s := Instr.indexAt t (A.eval x) (A.eval y)) rfl (by
    obtain ⟨h0, h1⟩ := hb hg
    obtain ⟨E, hE, hsz⟩ := ha.el
    rw [hs.ev hx (hi hg), hs.ev hy (hj hg)]
    show (Instr.indexAt t (.slice r.1 n r.2) (.int k i)).run cx.P w' = _
    rcases hs.own ho with ⟨_, hn, _⟩ | ⟨b, arr, hr, _, _, _, ⟨_, hnn⟩, _⟩
    · rw [hn] at h1; simp at h1; omega
    · rw [hr]
      simp only [Instr.indexAt, asIntOf, Sem.run_bind, Sem.run_pure, Result.andThen_ok, run_underlying hE]
      rw [if_pos ⟨h0, by omega⟩]
      simp [hsz w', eptr])

theorem QE.ldS {x : Operand} {gx : Bool} {t T0 n : Nat} {xs : List α} {rs : List (R.Raw α)} {a : Option Addr} {cap : Nat} {i : Int} [Inhabited α] [ht : Ty cx.P t α] (j : Nat) (hx : ev env x = some (gx, eptr a (i.toNat * R.size α))) (ho : os[j]? = some (sv T0 n xs rs a cap)) (hb : g = true → 0 ≤ i ∧ i < xs.length)
    (hX : ∀ aa w m, St cx env fs os aa w m → ∀ b, a.map (·.block) = some b → ¬ X b := by exact fun _ _ _ _ _ _ h => h) (hi : g = true → gx = true := by first | exact fun _ => rfl | exact fun h => h | exact and1) :
    QE cx X env fs os g (.load t x) T (V (lat xs i) (rat rs R.dflt i)) :=
  fun A w m hs hg w' hw' _ _ _ _ => qe (s := Instr.loadAt t (A.eval x)) rfl (by
    obtain ⟨h0, h1⟩ := hb hg
    have hlt : i.toNat < xs.length := by omega
    rw [hs.ev hx (hi hg)]
    rcases hs.own ho with ⟨_, hn, _⟩ | ⟨b, arr, hr, hh, hcs, hl, hc, hm⟩
    · rw [hn] at h1; simp at h1; omega
    · subst hr
      simp only [eptr, Option.map_some, add_mk, Instr.loadAt, Instr.sureAddr, Sem.run_bind, Sem.run_pure, Result.andThen_ok]
      refine run_loadVar_cells fun q hq => ?_
      have hb := (hs.ids _ (List.mem_of_getElem? ho) b rfl).2
      rw [cell_of_row w' b (0 + i.toNat * R.size α + q) _ T0 (0, 0) ((hw'.block b hb (hX A w m hs b rfl)).trans hh)]
      have hlat : lat xs i = xs[i.toNat] := by simp [lat, hlt]
      rw [show R.cells (lat xs i) (rat rs R.dflt i) = R.cells xs[i.toNat] (rs.getD i.toNat R.dflt) by rw [hlat]; rfl, ← flat_get hl hlt, ← hcs]
      have h3 : (i.toNat + 1) * R.size α ≤ xs.length * R.size α := Nat.mul_le_mul_right _ hlt
      rw [Nat.succ_mul] at h3
      rw [List.getElem?_take, if_pos hq, List.getElem?_drop, List.getElem?_take, if_pos (by omega)]
      simp)

theorem LX.stS {x v : Operand} {t T0 n : Nat} {xs : List α} {rs : List (R.Raw α)} {a : Option Addr} {cap : Nat} {i : Int} {z : α} {s : R.Raw α} [ht : Ty cx.P t α] (j jf : Nat) (hx : ev env x = some (true, eptr a (i.toNat * R.size α))) (hv : ev env v = some (true, V z s)) (ho : os[j]? = some (sv T0 n xs rs a cap)) (hb : 0 ≤ i ∧ i < xs.length) (hjf : fs[jf]? = some (Okl xs rs))
    (hok : ∀ m w, (∀ (i : Nat) {x : Fact}, fs[i]? = some x → x.p m w) → R.ok m w z s) :
    LX cx env fs os true (fun b => a.map (·.block) = some b) none (.store t x v) T (fun _ : Unit => env) (fun _ => Okl (xs.set i.toNat z) (rs.set i.toNat s) :: fs) (fun _ => os.set j (sv T0 n (xs.set i.toNat z) (rs.set i.toNat s) a cap)) := by
  intro A w m hs Q K hK pos af gd
  rw [if_pos rfl]
  unfold Oper.wp
  obtain ⟨h0, h1⟩ := hb
  have hlt : i.toNat < xs.length := by omega
  rcases hs.own ho with ⟨_, hn, _⟩ | ⟨b, arr, hr, hh, hcs, hl, hc, hm⟩
  · rw [hn] at hlt; simp at hlt
  · subst hr
    have hsz : (R.cells z s).length = R.size α := R.len z s
    have h3 : (i.toNat + 1) * R.size α ≤ xs.length * R.size α := Nat.mul_le_mul_right _ hlt
    rw [Nat.succ_mul] at h3
    have harr : xs.length * R.size α ≤ arr.size := by
      have := congrArg List.length hcs
      rw [flat_length hl, List.length_take] at this
      simp at this; omega
    have h2 := run_storeCells_at cx.P b (i.toNat * R.size α) T0 (R.cells z s) 0 arr w hh (by rw [hsz]; omega) (R.ones z s)
    simp only [Nat.add_zero] at h2
    let arr' : Array Value := (arr.toList.take (i.toNat * R.size α) ++ R.cells z s ++ arr.toList.drop (i.toNat * R.size α + (R.cells z s).length)).toArray
    have hrun : (execOp A.eval ⟨none, .store t x v, T, pos, af, gd⟩).run cx.P w = .ok .skip (w.setRow b arr') := by
      have h1 : (R.cells z s).toArray.size = R.size α := by simp [R.len]
      simp only [execOp, Instr.storeAt, Instr.sureAddr, hs.ev hx rfl, hs.ev hv rfl, eptr, Option.map_some, add_mk, Nat.zero_add, Sem.run_bind, Sem.run_pure, Result.andThen_ok, storeVar, ht.size w, V_cells]
      rw [if_neg (fun h => h h1)]
      simp only [h2, Result.andThen_ok, Sem.run_pure]
      rfl
    rw [hrun]
    have hrow := setRow_heap w b arr arr' T0 (0, 0) hh
    have hflat : arr'.toList.take ((xs.set i.toNat z).length * R.size α) = flat (xs.set i.toNat z) (rs.set i.toNat s) := by
      rw [flat_set hl hlt, ← hcs]
      simp only [arr', List.toList_toArray, List.length_set]
      have e : (arr.toList.take (i.toNat * R.size α)).length = i.toNat * R.size α := by rw [List.length_take]; simp; omega
      rw [List.append_assoc, List.take_append, List.take_take, List.take_append, e, hsz]
      rw [Nat.min_eq_right (by omega), List.take_of_length_le (l := R.cells z s) (by rw [hsz]; omega), List.take_take, Nat.min_eq_left (by omega), List.take_drop]
      rw [show i.toNat * R.size α + R.size α + (xs.length * R.size α - i.toNat * R.size α - R.size α) = xs.length * R.size α by omega]
    have hne : ∀ b', ¬ ((some (⟨b, 0, none⟩ : Addr)).map (·.block) = some b') → b' ≠ b := fun b' h e => h (by rw [e]; rfl)
    refine hK () _ _ m ?_ ⟨rfl, rfl, rfl, by simp, fun k _ hk => setRow_other _ _ _ _ (hne k hk)⟩
    refine St.addFact (hs.turn (o' := sv T0 n (xs.set i.toNat z) (rs.set i.toNat s) (some ⟨b, 0, none⟩) cap) ho rfl (fun b' hb' => ⟨setRow_other _ _ _ _ (hne b' hb'), rfl⟩) (by simp) rfl rfl rfl ⟨fun b' i' hlt => ?_, fun _ => Nat.le_refl _, fun b' es c hlt hh' => ?_⟩ (.inr ⟨b, arr', rfl, hrow, hflat, by simp [hl], by simpa using hc, hm⟩)) ?_
    · have hne : b' ≠ b := fun e => by rw [e, hm] at hlt; exact absurd hlt (Nat.not_lt_zero _)
      exact World.cell?_of_block (w := w) (setRow_other w b b' _ hne)
    · have hne : b' ≠ b := fun e => by rw [e, hm] at hlt; exact absurd hlt (Nat.not_lt_zero _)
      exact (setRow_other w b b' _ hne).trans hh'
    · have he : Ext m w m (w.setRow b arr') := ⟨fun b' i' hlt => by
        have hne : b' ≠ b := fun e => by rw [e, hm] at hlt; exact absurd hlt (Nat.not_lt_zero _)
        exact World.cell?_of_block (w := w) (setRow_other w b b' _ hne), fun _ => Nat.le_refl _, fun b' es c hlt hh' => by
        have hne : b' ≠ b := fun e => by rw [e, hm] at hlt; exact absurd hlt (Nat.not_lt_zero _)
        exact (setRow_other w b b' _ hne).trans hh'⟩
      have h5 : okl m w xs rs := hs.fact hjf
      exact (h5.set (hok m w fun _ _ hx => hs.fact hx) i.toNat).stable he

/-- What is handed back does not turn any more: a front piece. -/
theorem Via.frzSv {T0 n : Nat} {xs : List α} {rs : List (R.Raw α)} {a : Option Addr} {cap : Nat} (k : Int) (i j : Nat) (hi : os[i]? = some (sv T0 n xs rs a cap)) (hj : fs[j]? = some (Okl xs rs)) (hk : 0 ≤ k ∧ k ≤ xs.length) :
    Via cx env fs os (Fk true (cut xs 0 k) ((a, cap) : Option Addr × Nat) :: fs) (os.eraseIdx i) :=
  Via.frz (N := xs.length * R.size α) hi (fun {m w b'} h e => by
    rcases h with ⟨rfl, _⟩ | ⟨b, arr, rfl, _, _, _, _, hm⟩
    · cases e
    · cases e; exact hm) fun m w m' hfs ho he hm _ => by
    rcases ho with ⟨rfl, hn, _⟩ | ⟨b, arr, rfl, hh, hcs, hl, hc, hm0⟩
    · exact .inl (by rw [hn]; simp [cut])
    · have hok : okl m w xs rs := hfs j hj
      have hmb := hm b rfl
      refine .inr ⟨b, 0, rs.take k.toNat, rfl, ?_, ?_⟩
      · show okl m' w ((xs.drop (0 : Int).toNat).take (k.toNat - (0 : Int).toNat)) _
        simpa using (hok.take k.toNat).stable he
      · have hlen : xs.length * R.size α ≤ arr.size := by
          have := congrArg List.length hcs
          rw [flat_length hl, List.length_take] at this
          simp at this; omega
        have hkm : k.toNat * R.size α ≤ xs.length * R.size α := Nat.mul_le_mul_right _ (by omega)
        rw [show cut xs 0 k = xs.take k.toNat by simp [cut], flat_take _ hl]
        refine ⟨by rw [List.length_take, flat_length hl, hmb]; omega, fun q hq => ?_⟩
        rw [List.length_take, flat_length hl] at hq
        rw [Nat.zero_add, cell_of_row w b q _ T0 (0, 0) hh, ← hcs, List.getElem?_take, if_pos (by omega), List.getElem?_take, if_pos (by omega)]
        simp

/-- A front piece, the own thing still there. -/
theorem QE.cutF {x : Operand} {gx : Bool} {t T0 n : Nat} {xs : List α} {rs : List (R.Raw α)} {r : Option Addr × Nat} {hi : Option Operand} {h : Option Int} [ha : Slc cx.P t α] (j : Nat) (hx : ev env x = some (gx, .slice r.1 n r.2)) (ho : os[j]? = some (sv T0 n xs rs r.1 r.2)) (hh : ob env g hi h)
    (hb : g = true → 0 ≤ h.getD xs.length ∧ h.getD xs.length ≤ xs.length)
    (hi1 : g = true → gx = true := by first | exact fun _ => rfl | exact fun h => h | exact and1) :
    QE cx X env fs os g (.slice t x none hi none) T (V (cut xs 0 (h.getD xs.length)) r) :=
  fun A w m hs hg w' hw' d pos af gd => qe (s := Instr.sliceAt t (A.eval x) none (hi.map A.eval) none) rfl (by
    obtain ⟨b1, b2⟩ := hb hg
    obtain ⟨E, hE, hsz⟩ := ha.el
    rw [hs.ev hx (hi1 hg)]
    show (Instr.sliceAt t (.slice r.1 n r.2) none (hi.map A.eval) none).run cx.P w' = _
    have hcap : xs.length ≤ r.2 ∧ xs.length = n := by
      rcases hs.own ho with ⟨_, hn, _, hn0⟩ | ⟨b, arr, hr, hh, hcs, hl, hc, hm⟩
      · rw [hn]; simp [*]
      · exact hc
    obtain ⟨hcap, hnn⟩ := hcap
    subst hnn
    have hlen : (cut xs 0 (h.getD xs.length)).length = (h.getD xs.length).toNat := by rw [cut_length ⟨by omega, by omega, by omega⟩]; simp
    have hbd := run_bounds (cx := cx) (w' := w') hs hg (lo := none) (l := none) ob.none hh (is := true) (n := xs.length) (cap := r.2) ⟨by simp, by simpa using b1, by omega⟩
    simp only [Option.map_none] at hbd
    simp only [Instr.sliceAt, Instr.slice, run_underlying hE, Sem.run_bind, Sem.run_pure, Result.andThen_ok, hbd, hsz w']
    show _ = Result.ok (Value.slice r.1 (cut xs 0 (h.getD xs.length)).length r.2) w'
    rw [hlen]
    have hadd : (if r.2 = (Option.getD (none : Option Int) 0).toNat then r.1 else r.1.map fun p => p.add ((Option.getD (none : Option Int) 0).toNat * R.size α)) = r.1 := by
      split
      · rfl
      · rcases hs.own ho with ⟨hn, _, _⟩ | ⟨b, arr, hr, _⟩
        · rw [hn]; rfl
        · rw [hr]; simp [add_mk]
    simp only [Option.getD_none, Int.toNat_zero, Nat.sub_zero] at hadd ⊢
    rw [hadd])

/-- clear of a back piece: the cut and the clearing as one. -/
def cutV (a : Option Addr) (n cap l size : Nat) : Value := .slice (if cap = l then a else a.map (·.add (l * size))) (n - l) (cap - l)
theorem QE.cutB {x : Operand} {gx : Bool} {t T0 n : Nat} {xs : List α} {rs : List (R.Raw α)} {r : Option Addr × Nat} {lo : Option Operand} {l : Option Int} [ha : Slc cx.P t α] (j : Nat) (hx : ev env x = some (gx, .slice r.1 n r.2)) (ho : os[j]? = some (sv T0 n xs rs r.1 r.2)) (hl : ob env g lo l)
    (hb : g = true → 0 ≤ l.getD 0 ∧ l.getD 0 ≤ xs.length)
    (hi1 : g = true → gx = true := by first | exact fun _ => rfl | exact fun h => h | exact and1) :
    QE cx X env fs os g (.slice t x lo none none) T (cutV r.1 xs.length r.2 (l.getD 0).toNat (R.size α)) :=
  fun A w m hs hg w' hw' d pos af gd => qe (s := Instr.sliceAt t (A.eval x) (lo.map A.eval) none none) rfl (by
    obtain ⟨b1, b2⟩ := hb hg
    obtain ⟨E, hE, hsz⟩ := ha.el
    rw [hs.ev hx (hi1 hg)]
    show (Instr.sliceAt t (.slice r.1 n r.2) (lo.map A.eval) none none).run cx.P w' = _
    have hcap : xs.length ≤ r.2 ∧ xs.length = n := by
      rcases hs.own ho with ⟨_, hn, _, hn0⟩ | ⟨b, arr, hr, hh, hcs, hl, hc, hm⟩
      · rw [hn]; simp [*]
      · exact hc
    obtain ⟨hcap, hnn⟩ := hcap
    subst hnn
    have hbd := run_bounds (cx := cx) (w' := w') hs hg (hi := none) (h := none) hl ob.none (is := true) (n := xs.length) (cap := r.2) ⟨b1, by simpa using b2, by simpa using hcap⟩
    simp only [Option.map_none] at hbd
    simp only [Instr.sliceAt, Instr.slice, run_underlying hE, Sem.run_bind, Sem.run_pure, Result.andThen_ok, hbd, hsz w']
    simp [cutV])

theorem flat_rep {z : α} {zr : R.Raw α} : ∀ n, flat (List.replicate n z) (List.replicate n zr) = (List.replicate n (R.cells z zr)).flatten
  | 0 => rfl
  | n + 1 => by simp [List.replicate_succ, flat, flat_rep n]

theorem zeroCells_rep (z : α) (zr : R.Raw α) (n : Nat) : (Builtin.zeroCells (R.cells z zr).toArray n).toList = flat (List.replicate n z) (List.replicate n zr) := by
  rw [flat_rep]
  simp only [Builtin.zeroCells, Array.toList_map, Array.toList_range, List.size_toArray]
  have hlen : (R.cells z zr).length = R.size α := R.len z zr
  refine List.ext_getElem? fun i => ?_
  by_cases h : i < n * (R.cells z zr).length
  · have h2 : (List.replicate n (R.cells z zr)).flatten[i]? = (R.cells z zr)[i % (R.cells z zr).length]? := by
      clear hlen
      induction n generalizing i with
      | zero => simp at h
      | succ n ih =>
        rw [List.replicate_succ, List.flatten_cons]
        by_cases h1 : i < (R.cells z zr).length
        · rw [List.getElem?_append_left h1, Nat.mod_eq_of_lt h1]
        · rw [List.getElem?_append_right (by omega), ih (i - (R.cells z zr).length) (by rw [Nat.succ_mul] at h; omega), Nat.mod_eq_sub_mod (by omega : i ≥ (R.cells z zr).length)]
    have hpos : 0 < (R.cells z zr).length := by
      rcases Nat.eq_zero_or_pos (R.cells z zr).length with h0 | h0
      · rw [h0] at h; simp at h
      · exact h0
    have hm := Nat.mod_lt i hpos
    rw [h2, List.getElem?_map, List.getElem?_range h]
    simp [hm]
  · rw [List.getElem?_eq_none (by simpa using h), List.getElem?_eq_none (by simp [List.length_flatten]; omega)]

theorem LX.clr {x : Operand} {t T0 E n : Nat} {xs : List α} {rs : List (R.Raw α)} {a : Option Addr} {cap l : Nat} {z : α} {zr : R.Raw α} {d : Option Tmp} [hz : Zr cx.P E z zr] (hu : cx.P.underlying t = some (.slice E)) (j jf : Nat) (hx : ev env x = some (true, cutV a xs.length cap l (R.size α))) (ho : os[j]? = some (sv T0 n xs rs a cap)) (hb : l ≤ xs.length) (hjf : fs[jf]? = some (Okl xs rs)) (hzo : ∀ m w, R.ok m w z zr) (hd : d = none := by rfl) :
    LX cx env fs os true (fun b => a.map (·.block) = some b) d (.call ⟨.builtin .clear, #[x], #[t]⟩) T (fun _ : Unit => env) (fun _ => Okl (xs.take l ++ List.replicate (xs.length - l) z) (rs.take l ++ List.replicate (xs.length - l) zr) :: fs) (fun _ => os.set j (sv T0 n (xs.take l ++ List.replicate (xs.length - l) z) (rs.take l ++ List.replicate (xs.length - l) zr) a cap)) := by
  subst hd
  intro A w m hs Q K hK pos af gd
  rw [if_pos rfl]
  unfold Oper.wp
  have hokx : okl m w xs rs := hs.fact hjf
  have hokn : okl m w (xs.take l ++ List.replicate (xs.length - l) z) (rs.take l ++ List.replicate (xs.length - l) zr) := (hokx.take l).append (okl.rep (hzo m w) _)
  have hsame : os.set j (sv T0 n xs rs a cap) = os := List.ext_getElem? fun q => by
    rw [List.getElem?_set]
    split
    · rename_i e; subst e
      split
      · exact ho.symm
      · rename_i hne; rw [List.getElem?_eq_none (by omega)]
    · rfl
  have hrunof : ∀ w', (Builtin.clear_ #[t] T #[cutV a xs.length cap l (R.size α)]).run cx.P w = .ok (.tuple #[]) w' → (execOp A.eval ⟨none, .call ⟨.builtin .clear, #[x], #[t]⟩, T, pos, af, gd⟩).run cx.P w = .ok (.value (.tuple #[])) w' := fun w' h => by
    simp only [execOp, resolve, invoke, builtin, Sem.run_bind, Sem.run_pure, Result.andThen_ok, List.map_toArray, List.map_cons, List.map_nil, hs.ev hx rfl, h]
  by_cases hl : l = xs.length
  · subst hl
    have e1 : xs.take xs.length ++ List.replicate (xs.length - xs.length) z = xs := by simp
    have e2 : rs.take xs.length ++ List.replicate (xs.length - xs.length) zr = rs := by
      rw [← hokx.length]; simp
    rw [e1, e2] at hokn hK
    rw [hrunof w (by
      simp only [cutV, Nat.sub_self, Builtin.clear_, List.getElem?_toArray, List.getElem?_cons_zero, Sem.run_bind, Sem.run_pure, Result.andThen_ok, run_underlying hu]
      generalize (if cap = xs.length then a else a.map (·.add (xs.length * R.size α))) = p
      cases p <;> rfl)]
    rw [hsame] at hK
    exact hK () _ w m ((hs.put_none _).addFact hokn) (BelowX.refl _ _ _)
  · rcases hs.own ho with ⟨_, hn, _⟩ | ⟨b, arr, hr, hh, hcs, hln, hc, hm⟩
    · rw [hn] at hb hl; simp at hb hl; omega
    · subst hr
      have hcl : ¬ cap = l := by omega
      have hzl : (flat (List.replicate (xs.length - l) z) (List.replicate (xs.length - l) zr)).length = (xs.length - l) * R.size α := by rw [flat_length (by simp)]; simp
      have hmul : l * R.size α + (xs.length - l) * R.size α = xs.length * R.size α := by rw [← Nat.add_mul]; congr 1; omega
      have harr : xs.length * R.size α ≤ arr.size := by
        have := congrArg List.length hcs
        rw [flat_length hln, List.length_take] at this
        simp at this; omega
      have h2 := run_storeCells_at cx.P b (l * R.size α) T0 (flat (List.replicate (xs.length - l) z) (List.replicate (xs.length - l) zr)) 0 arr w hh (by rw [hzl]; omega) (fun v hv => flat_ones v hv)
      simp only [Nat.add_zero] at h2
      let arr' : Array Value := (arr.toList.take (l * R.size α) ++ flat (List.replicate (xs.length - l) z) (List.replicate (xs.length - l) zr) ++ arr.toList.drop (l * R.size α + (flat (List.replicate (xs.length - l) z) (List.replicate (xs.length - l) zr)).length)).toArray
      rw [hrunof (w.setRow b arr') (by
        obtain ⟨k, hk⟩ : ∃ k, xs.length - l = k + 1 := ⟨xs.length - l - 1, by omega⟩
        simp only [cutV, if_neg hcl, Option.map_some, add_mk, Nat.zero_add, Builtin.clear_, List.getElem?_toArray, List.getElem?_cons_zero, Sem.run_bind, Sem.run_pure, Result.andThen_ok, run_underlying hu]
        rw [hk] at h2 ⊢
        simp only [Sem.run_bind, hz.zero w, Result.andThen_ok, V_cells, zeroCells_rep, h2, Sem.run_pure]
        simp only [arr', hk])]
      have hrow := setRow_heap w b arr arr' T0 (0, 0) hh
      have hflat : arr'.toList.take ((xs.take l ++ List.replicate (xs.length - l) z).length * R.size α) = flat (xs.take l ++ List.replicate (xs.length - l) z) (rs.take l ++ List.replicate (xs.length - l) zr) := by
        have e : (xs.take l ++ List.replicate (xs.length - l) z).length = xs.length := by simp; omega
        rw [e, flat_append (by simp [hln]), flat_take _ hln, ← hcs]
        simp only [arr', List.toList_toArray]
        have e2 : (arr.toList.take (l * R.size α)).length = l * R.size α := by rw [List.length_take]; simp; omega
        rw [List.take_left' (by rw [List.length_append, e2, hzl]; omega), List.take_take, Nat.min_eq_left (by omega)]
      have hne : ∀ b', ¬ ((some (⟨b, 0, none⟩ : Addr)).map (·.block) = some b') → b' ≠ b := fun b' h e => h (by rw [e]; rfl)
      have hne2 : ∀ b', 0 < m b' → b' ≠ b := fun b' h e => by rw [e, hm] at h; exact absurd h (Nat.not_lt_zero _)
      have he : Ext m w m (w.setRow b arr') := ⟨fun b' i' hlt => World.cell?_of_block (w := w) (setRow_other w b b' _ (hne2 b' (by omega))), fun _ => Nat.le_refl _, fun b' es c hlt hh' => (setRow_other w b b' _ (hne2 b' hlt)).trans hh'⟩
      refine hK () _ _ m ?_ ⟨rfl, rfl, rfl, by simp, fun k _ hk => setRow_other _ _ _ _ (hne k hk)⟩
      exact St.addFact (St.put_none (hs.turn (o' := sv T0 n (xs.take l ++ List.replicate (xs.length - l) z) (rs.take l ++ List.replicate (xs.length - l) zr) (some ⟨b, 0, none⟩) cap) ho rfl (fun b' hb' => ⟨setRow_other _ _ _ _ (hne b' hb'), rfl⟩) (by simp) rfl rfl rfl he (.inr ⟨b, arr', rfl, hrow, hflat, by simp [hln], by simp; omega, hm⟩)) _) (hokn.stable he)
end ops
end Go.Cw
