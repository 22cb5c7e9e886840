/- Copies of slices into arrays and into new slices; results over blocks of the caller's. Conditions: none; no program is named. -/
import Derived.Test.YtcckclbpajegnaaCwM
set_option linter.all false
set_option linter.unusedVariables false
set_option linter.unusedSimpArgs false
namespace Go.Cw
open Go Go.RowKit

section ops
variable {cx : Cx} {X : Nat → Prop} {env : Env} {fs : List Fact} {os : List Own} {g : Bool} {T : TypeId} {Q : Post0} {ops : Array Oper}

/-- append to an empty literal: a slice whose elements may be stored to. -/
theorem LX.appendS {α : Type} [R α] {d : Tmp} {x y : Operand} {t t2 E E0 bytes : TypeId} {ys : List α} {r s : Option Addr × Nat} [ha : Apd cx.P t α E] [hb : Byt cx.P E bytes] (h2 : cx.P.underlying t2 = some (.slice E0)) (i k : Nat)
    (hx : ev env x = some (true, V ([] : List α) r)) (hy : ev env y = some (true, V ys s)) (hi : os[i]? = some (tp E (R.size α) 0 r.1 r.2)) (hk : fs[k]? = some (Fk true ys s)) (hr0 : r.2 = 0)
    (hn : ys.length ≤ 2 ^ 30) (hd : Nat.blt d cx.n = true := by rfl) :
    LX cx env fs os true (fun _ => False) (some d) (.call ⟨.builtin .append, #[x, y], #[t, t2]⟩) T (fun q : (Option Addr × Nat) × List (R.Raw α) => (d, true, V ys q.1) :: env) (fun q => Okl ys q.2 :: fs) (fun q => os.set i (sv E ys.length ys q.2 q.1.1 q.1.2)) := by
  intro A w m hs Q K hK pos af gd
  rw [if_pos rfl]
  unfold Oper.wp
  obtain ⟨info, hinfo, hbytes, hble, hbne⟩ := hb.info
  obtain ⟨z, hz⟩ := ha.zero
  have hsly : Sl m w ys s.1 := hs.fact hk rfl
  obtain ⟨rsy, hoky, hcy⟩ := run_slice_cells (P := cx.P) hsly
  have hargs : (execOp A.eval ⟨some d, .call ⟨.builtin .append, #[x, y], #[t, t2]⟩, T, pos, af, gd⟩) = (do let d ← resolve A.eval ⟨.builtin .append, #[x, y], #[t, t2]⟩ T; invoke d.target d.args) := rfl
  have hu2 := run_underlying h2 w
  have hu1 := run_underlying ha.und w
  by_cases hfit : ys = []
  · subst hfit
    have hrun' : (execOp A.eval ⟨some d, .call ⟨.builtin .append, #[x, y], #[t, t2]⟩, T, pos, af, gd⟩).run cx.P w = .ok (.value (V ([] : List α) r)) w := by
      rw [hargs]
      simp only [resolve, invoke, builtin, Sem.run_bind, Sem.run_pure, Result.andThen_ok, List.map_toArray, List.map_cons, List.map_nil, hs.ev hx rfl, hs.ev hy rfl]
      rw [show (V ([] : List α) r) = .slice r.1 ([] : List α).length r.2 from rfl, show (V ([] : List α) s) = .slice s.1 ([] : List α).length s.2 from rfl]
      have h3 := hcy w rfl s.2
      simp only [List.length_nil] at h3
      have hfl : flat ([] : List α) rsy = [] := by cases rsy <;> rfl
      cases hr1 : r.1 with
      | none => simp [Builtin.append_, hu1, hu2, ha.size w, Builtin.lenOf, h3]
      | some p => simp [Builtin.append_, hu1, hu2, ha.size w, Builtin.lenOf, h3, hfl, storeCells]
    rw [hrun']
    refine hK (r, []) _ w m ?_ (BelowX.refl _ _ _)
    have hs1 := (hs.put (d := d) (g := true) (v := V ([] : List α) r) (v' := V ([] : List α) r) hd rfl)
    refine (hs1.turn (o' := sv E 0 ([] : List α) [] r.1 r.2) hi rfl (fun _ _ => ⟨rfl, rfl⟩) rfl rfl rfl rfl (Ext.refl _ _) ?_).addFact trivial
    rcases hs.own hi with ⟨h1, _, _⟩ | ⟨b, arr, h1, hh, hsz, hm⟩
    · exact .inl ⟨h1, rfl, rfl, rfl⟩
    · exact .inr ⟨b, arr, h1, hh, by simp [flat], rfl, ⟨Nat.zero_le _, rfl⟩, by simpa using hm⟩
  · have hpos : 0 < ys.length := List.length_pos_iff.2 hfit
    have hcap : Builtin.nextslicecap (0 + ys.length) r.2 * bytes ≤ 2 ^ 48 := by
      have h1 := cap_le (0 + ys.length) r.2 (by omega)
      have h3 : Builtin.nextslicecap (0 + ys.length) r.2 ≤ 2 ^ 32 := by omega
      calc _ ≤ 2 ^ 32 * 2 ^ 16 := Nat.mul_le_mul h3 hble
        _ = 2 ^ 48 := by decide
    obtain ⟨c, hc, hrun⟩ : ∃ c, ys.length ≤ c ∧
        (Builtin.append_ #[t, t2] T #[.slice r.1 0 r.2, .slice s.1 ys.length s.2]).run cx.P w =
          .ok (.slice (some ⟨w.heap.size, 0, none⟩) ys.length c) { w with drawn := w.drawn + 1, heap := w.heap.push (.cells ((flat ys rsy).toArray ++ Builtin.zeroCells z.cells (c - ys.length)) E) } := by
      refine ⟨(Question.appendCap (0 + ys.length) r.2 E).cut (w.tape w.drawn (.appendCap (0 + ys.length) r.2 E)), ?_, ?_⟩
      · have : 0 + ys.length ≤ (Question.appendCap (0 + ys.length) r.2 E).cut (w.tape w.drawn (.appendCap (0 + ys.length) r.2 E)) := Nat.le_add_right _ _
        omega
      · have hcy' := hcy w.drew rfl s.2
        have hti : ∀ w, (typeInfo E).run cx.P w = .ok info w := fun w => by simp [typeInfo, hinfo]
        have hfirst : ∀ w' : World, (Builtin.firstCells (R.size α) 0 (.slice r.1 0 r.2)).run cx.P w' = .ok #[] w' := fun w' => by
          cases r.1 <;> simp [Builtin.firstCells, loadCells, loadCellsFrom]
        have hnf : ¬ (0 + ys.length ≤ r.2) := by omega
        simp only [Builtin.append_, hu1, hu2, Sem.run_bind, Result.andThen_ok, ha.size w, Builtin.lenOf, Sem.run_pure, List.getElem?_toArray, List.getElem?_cons_zero, List.getElem?_cons_succ]
        simp only [Nat.zero_add] at hcap hnf ⊢
        simp [hnf, hti, hbytes, hbne, Nat.not_lt.2 hcap, hfirst, hcy', (hz _).1, newRow, Question.forced]
        rfl
    have hrun' : (execOp A.eval ⟨some d, .call ⟨.builtin .append, #[x, y], #[t, t2]⟩, T, pos, af, gd⟩).run cx.P w = .ok (.value (V ys (some ⟨w.heap.size, 0, none⟩, c)))
        { w with drawn := w.drawn + 1, heap := w.heap.push (.cells ((flat ys rsy).toArray ++ Builtin.zeroCells z.cells (c - ys.length)) E) } := by
      rw [hargs]
      simp only [resolve, invoke, builtin, Sem.run_bind, Sem.run_pure, Result.andThen_ok, List.map_toArray, List.map_cons, List.map_nil, hs.ev hx rfl, hs.ev hy rfl]
      rw [show (V ([] : List α) r) = .slice r.1 0 r.2 from rfl, show (V ys s) = .slice s.1 ys.length s.2 from rfl, hrun]
      rfl
    rw [hrun']
    let arr : Array Value := (flat ys rsy).toArray ++ Builtin.zeroCells z.cells (c - ys.length)
    let w2 : World := { w with drawn := w.drawn + 1, heap := w.heap.push (.cells arr E) }
    have hfy : (flat ys rsy).length = ys.length * R.size α := flat_length hoky.length
    have hnew : w2.heap[w.heap.size]? = some (.cells arr E (0, 0)) := by simp [w2]
    have hbel : Below w.heap.size w w2 := ⟨rfl, rfl, rfl, by simp [w2], fun q hq => by
      show (w.heap.push _)[q]? = _
      rw [Array.getElem?_push, if_neg (by omega)]⟩
    have hlt : ∀ q iq, iq < m q → q < w.heap.size := fun q iq hq => by
      rcases Nat.lt_or_ge q w.heap.size with h1 | h1
      · exact h1
      · rw [hs.fresh q h1] at hq; exact absurd hq (Nat.not_lt_zero _)
    have hext : Ext m w m w2 := ⟨fun q iq hq => hbel.cell (p := ⟨q, iq, none⟩) (hlt q iq hq), fun q => Nat.le_refl _, fun q es c hq hh => (hbel.block q (hlt q 0 hq)).trans hh⟩
    have hw2s : w2.heap.size = w.heap.size + 1 := by simp [w2]
    refine hK ((some ⟨w.heap.size, 0, none⟩, c), rsy) _ w2 m ?_ (.of hbel)
    have hs1 := (hs.put (d := d) (g := true) (v := V ys (some (⟨w.heap.size, 0, none⟩ : Addr), c)) (v' := V ys (some (⟨w.heap.size, 0, none⟩ : Addr), c)) hd rfl)
    refine (hs1.turnX (o' := sv E ys.length ys rsy (some ⟨w.heap.size, 0, none⟩) c) hi (fun b hb => ?_) (fun b hb _ => ⟨hbel.block b hb, rfl⟩) hbel.size rfl rfl rfl (fun b hb => hs.fresh b (by omega)) hext ?_).addFact (hoky.stable hext)
    · cases hb
      exact ⟨.inr (Nat.le_refl _), by show w.heap.size < _; omega⟩
    · refine .inr ⟨w.heap.size, arr, rfl, hnew, ?_, hoky.length, ⟨hc, rfl⟩, hs.fresh _ (Nat.le_refl _)⟩
      simp only [arr, Array.toList_append]
      rw [List.take_left' (by simpa using hfy)]

/-! ### Copies into arrays -/

def vcopy {β : Type} [Inhabited β] {n : Nat} (v : Vector β n) (lo : Int) (k : Int) (src : List β) : Vector β n :=
  Vector.ofFn fun i => if lo.toNat ≤ i.val ∧ i.val < lo.toNat + min src.length k.toNat then src.getD (i.val - lo.toNat) default else v.toArray.getD i.val default

/-- A cut of an array of the call's own. -/
theorem QE.cutO {x : Operand} {gx : Bool} {t n E b o : Nat} {lo hi : Option Operand} {l h : Option Int} [ha : ArrS cx.P t n E] (hx : ev env x = some (gx, .pointer (some ⟨b, o, none⟩))) (hl : ob env g lo l) (hh : ob env g hi h)
    (hb : g = true → 0 ≤ l.getD 0 ∧ l.getD 0 ≤ h.getD n ∧ h.getD n ≤ n) (hlt : g = true → l.getD 0 < n)
    (hi1 : g = true → gx = true := by first | exact fun _ => rfl | exact fun h => h | exact and1) :
    QE cx X env fs os g (.slice t x lo hi none) T (.slice (some ⟨b, o + (l.getD 0).toNat, none⟩) ((h.getD n).toNat - (l.getD 0).toNat) (n - (l.getD 0).toNat)) :=
  fun A w m hs hg w' hw' d pos af gd => qe (s := Instr.sliceAt t (A.eval x) (lo.map A.eval) (hi.map A.eval) none) rfl (by
    have hb' := hb hg
    have h3 := hlt hg
    rw [hs.ev hx (hi1 hg)]
    simp only [Instr.sliceAt, run_underlying ha.und, Instr.sureAddr, Sem.run_bind, Sem.run_pure, Result.andThen_ok, run_bounds hs hg hl hh hb', ha.one w']
    rw [if_neg (by omega), Nat.mul_one, add_mk])

theorem vcopy_cells {β : Type} [C1 β] [Inhabited β] {n : Nat} (v : Vector β n) (lo k : Int) (src : List β) (h0 : 0 ≤ lo) (hk : 0 ≤ k) (hn : lo + k ≤ n) :
    (vcopy v lo k src).toList.map C1.c1 = (v.toList.map C1.c1).take lo.toNat ++ ((src.take k.toNat).map C1.c1 ++ (v.toList.map C1.c1).drop (lo.toNat + (min src.length k.toNat))) := by
  refine List.ext_getElem? fun i => ?_
  rw [List.getElem?_append, List.getElem?_append]
  simp only [List.length_take, List.length_map, Vector.length_toList, List.getElem?_take, List.getElem?_map, List.getElem?_drop]
  rw [Nat.min_eq_left (by omega : lo.toNat ≤ n)]
  have hget : (vcopy v lo k src).toList[i]? = if i < n then some (if lo.toNat ≤ i ∧ i < lo.toNat + min src.length k.toNat then src.getD (i - lo.toNat) default else v.toArray.getD i default) else none := by
    by_cases hi : i < n
    · simp [vcopy, hi]
    · rw [if_neg hi]; exact List.getElem?_eq_none (by simp; omega)
  rw [hget]
  by_cases h1 : i < lo.toNat
  · rw [if_pos h1, if_pos h1, if_pos (by omega), if_neg (by omega)]
    have hin : i < n := by omega
    simp [Array.getD, hin]
  · rw [if_neg h1]
    by_cases h2 : i - lo.toNat < min k.toNat src.length
    · have h3 : i - lo.toNat < min src.length k.toNat := by omega
      rw [if_pos h2, if_pos (by omega), if_pos (by omega), if_pos (by omega)]
      have : i - lo.toNat < src.length := by omega
      simp [this]
    · rw [if_neg h2]
      have e : lo.toNat + min src.length k.toNat + (i - lo.toNat - min k.toNat src.length) = i := by
        rw [Nat.min_comm k.toNat src.length] at *; omega
      rw [e]
      by_cases hi : i < n
      · rw [if_pos hi, if_neg (by omega)]
        simp [Array.getD, hi]
      · rw [if_neg hi, List.getElem?_eq_none (by simp; omega)]

/-- copy(a[lo:lo+k], src) into an array of the call's own. -/
theorem LX.copyV {α β : Type} [R α] [C1 β] [Inhabited β] {d : Option Tmp} {x z : Operand} {t t2 E T0 b c n : Nat} {y : α} {r : R.Raw α} {src : List β} {s : Option Addr × Nat} {lo k : Int} {o nk : Nat} [ht : Ty cx.P E β] (hu : cx.P.underlying t = some (.slice E)) (i j : Nat) (L : Lens α (Vector β n))
    (hx : ev env x = some (true, .slice (some ⟨b, o, none⟩) nk c)) (hz : ev env z = some (true, V src s)) (hi : os[i]? = some (bx y r b T0)) (hj : fs[j]? = some (Fk true src s)) (hb : 0 ≤ lo ∧ 0 ≤ k ∧ lo + k ≤ n) (ho : L.off + lo.toNat = o := by rfl) (hnk : nk = k.toNat := by rfl) (hd : ∀ t', d = some t' → Nat.blt t' cx.n = true := by intro _ h; cases h <;> rfl) :
    LX cx env fs os true (· = b) d (.call ⟨.builtin .copy, #[x, z], #[t, t2]⟩) T (fun _ : Unit => match d with | some t' => (t', true, .int .i64 (min src.length k.toNat : Nat)) :: env | none => env) (fun _ => fs) (fun _ => os.set i (bx (L.set y (vcopy (L.get y) lo k src)) (L.setR r ()) b T0)) := by
  intro A w m hs Q K hK pos af gd
  rw [if_pos rfl]
  unfold Oper.wp
  obtain ⟨hq1, hq2⟩ := hs.own hi
  subst ho; subst hnk
  obtain ⟨b1, b2, b3⟩ := hb
  have hsl : Sl m w src s.1 := hs.fact hj rfl
  have hcells : (Builtin.firstCells 1 (min src.length k.toNat) (.slice s.1 src.length s.2)).run cx.P w = .ok ((src.take k.toNat).map C1.c1).toArray w := by
    rcases hsl with rfl | ⟨b', off, rs, hs1, hok, hc⟩
    · cases s.1 <;> simp [Builtin.firstCells, loadCells, loadCellsFrom]
    · have := okl_unit hok
      subst this
      rw [flat_c1] at hc
      rw [hs1]
      have hl := run_loadCells_list (P := cx.P) (w := w) ⟨b', off, none⟩ ((src.take k.toNat).map C1.c1) (fun j v hv => by
        have hj := (List.getElem?_eq_some_iff.1 hv).1
        simp only [List.length_map, List.length_take] at hj
        rw [add_mk, hc.2 j (by rw [List.length_map]; omega), ← hv]
        simp only [List.getElem?_map, List.getElem?_take]
        rw [if_pos (by omega)])
      simp only [Builtin.firstCells, Nat.mul_one]
      have e : ((src.take k.toNat).map C1.c1).length = min src.length k.toNat := by simp [Nat.min_comm]
      rw [e] at hl
      exact hl
  have hlen : ((src.take k.toNat).map (C1.c1 (α := β))).length = min src.length k.toNat := by simp [Nat.min_comm]
  have hfits := L.fits
  change L.off + n ≤ _ at hfits
  have h2 := run_storeCells_at cx.P b (L.off + lo.toNat) T0 ((src.take k.toNat).map C1.c1) 0 _ w hq1 (by rw [hlen]; simp [R.len]; omega) (fun v hv => by
    obtain ⟨u, _, rfl⟩ := List.mem_map.1 hv; exact C1.one1 u)
  simp only [Nat.add_zero] at h2
  have hnew : (R.cells y r).take (L.off + lo.toNat) ++ (src.take k.toNat).map C1.c1 ++ (R.cells y r).drop (L.off + lo.toNat + ((src.take k.toNat).map (C1.c1 (α := β))).length) = R.cells (L.set y (vcopy (L.get y) lo k src)) (L.setR r ()) := by
    rw [L.wr, hlen]
    have hv := vcopy_cells (L.get y) lo k src b1 b2 b3
    have hrd := L.rd y r
    change _ = (L.get y).toList.map C1.c1 at hrd
    change ((R.cells y r).drop L.off).take n = _ at hrd
    rw [show R.cells (vcopy (L.get y) lo k src) () = (vcopy (L.get y) lo k src).toList.map C1.c1 from rfl, hv, ← hrd]
    rw [show R.size (Vector β n) = n from rfl]
    have hln : (R.cells y r).length = R.size α := R.len y r
    rw [List.take_take, Nat.min_eq_left (by omega : lo.toNat ≤ n), List.drop_take, List.drop_drop, List.take_add]
    simp only [List.append_assoc]
    congr 3
    have e : ∀ (p q : Nat) (c : List Value), List.drop (p + q) c = List.drop q (List.drop p c) := fun p q c => by rw [List.drop_drop]
    rw [show L.off + n = (L.off + (lo.toNat + min src.length k.toNat)) + (n - (lo.toNat + min src.length k.toNat)) by omega, e (L.off + (lo.toNat + min src.length k.toNat)) (n - (lo.toNat + min src.length k.toNat)), List.take_append_drop, Nat.add_assoc]
  have hrun : (execOp A.eval ⟨d, .call ⟨.builtin .copy, #[x, z], #[t, t2]⟩, T, pos, af, gd⟩).run cx.P w = .ok (.value (.int .i64 (min src.length k.toNat : Nat))) (w.setRow b (R.cells (L.set y (vcopy (L.get y) lo k src)) (L.setR r ())).toArray) := by
    simp only [execOp, resolve, invoke, builtin, Sem.run_bind, Sem.run_pure, Result.andThen_ok, List.map_toArray, List.map_cons, List.map_nil, hs.ev hx rfl, hs.ev hz rfl]
    rw [show V src s = .slice s.1 src.length s.2 from rfl]
    have hsz : (sizeOf E).run cx.P w = .ok 1 w := ht.size w
    rw [← hnew]
    have h2' := h2
    rw [List.map_take] at h2'
    have hcells' := hcells
    rw [List.map_take] at hcells'
    have e : src.length.min k.toNat = min src.length k.toNat := rfl
    simp [Builtin.copy_, run_underlying hu, Builtin.lenOf, hsz, hcells', h2', goInt, e, List.map_take]
  rw [hrun]
  have hne2 : ∀ b', 0 < m b' → b' ≠ b := fun b' h e => by rw [e, hq2] at h; exact absurd h (Nat.not_lt_zero _)
  refine hK () _ _ m ?_ ⟨rfl, rfl, rfl, by simp, fun k' _ hk => setRow_other _ _ _ _ hk⟩
  have ht2 := hs.turn (o' := bx (L.set y (vcopy (L.get y) lo k src)) (L.setR r ()) b T0) hi rfl (fun b' hb' => ⟨setRow_other w b b' (R.cells (L.set y (vcopy (L.get y) lo k src)) (L.setR r ())).toArray hb', rfl⟩) (by simp) rfl rfl rfl
    ⟨fun b' i' hlt => World.cell?_of_block (w := w) (setRow_other w b b' _ (hne2 b' (by omega))), fun _ => Nat.le_refl _, fun b' es c hlt hh' => (setRow_other w b b' _ (hne2 b' hlt)).trans hh'⟩ ⟨setRow_heap w b _ _ T0 _ hq1, hq2⟩
  cases d with
  | none => exact ht2
  | some t' => exact ht2.put (hd t' rfl) rfl
end ops

/-! ### Results -/

def RF (P : Program) (env : Env) (fs : List Fact) (os : List Own) : List Fact → Prop
  | [] => True
  | f :: r => (∀ n w0 m0 X a w m, St ⟨P, n, w0, m0, X⟩ env fs os a w m → f.p m w) ∧ RF P env fs os r
section ret
variable {env : Env} {fs : List Fact} {os : List Own} {P : Program} {fn : Func} {w0 : World} {m0 : WM} {X : Nat → Prop} {n : Nat}
theorem RF.nil : RF P env fs os [] := trivial
theorem RF.ix {f : Fact} {r : List Fact} (i : Nat) (hi : fs[i]? = some f) (h : RF P env fs os r) : RF P env fs os (f :: r) := ⟨fun _ _ _ _ _ _ _ hs => hs.fact hi, h⟩
theorem RF.fl {f : Fact} {r : List Fact} (hf : ∀ m w, (True → f.p m w)) (h : RF P env fs os r) : RF P env fs os (f :: r) := ⟨fun _ _ _ _ _ w m _ => hf m w trivial, h⟩
theorem RF.all : ∀ {l : List Fact}, RF P env fs os l → ∀ {a w m}, St ⟨P, n, w0, m0, X⟩ env fs os a w m → ∀ f ∈ l, f.p m w
  | [], _, _, _, _, _, f, hf => by cases hf
  | g :: l, h, a, w, m, hs, f, hf => by
    rcases List.mem_cons.1 hf with rfl | hf
    · exact h.1 _ _ _ _ _ _ _ hs
    · exact RF.all h.2 hs f hf

def RVs (P : Program) (fn : Func) (env : Env) (fs : List Fact) (os : List Own) (v : Value) : Prop := ∀ n w0 m0 X a w m, St ⟨P, n, w0, m0, X⟩ env fs os a w m → (results fn a.tmps).run P w = .ok v w

theorem RVs.r0 (hr : fn.results = #[]) : RVs P fn env fs os (.tuple #[]) := fun _ _ _ _ a w m hs => by simp [results, hr]
theorem RVs.r1 {r1 : ResultVar} {v : Value} (hr : fn.results = #[r1]) (h1 : RV P env fs os r1 v) : RVs P fn env fs os v := fun _ _ _ _ a w m hs => by
  have e1 := h1 _ _ _ _ _ _ _ hs
  cases r1 with
  | tmp => simp only [RVat] at e1; simp [results, hr, e1]
  | cell => obtain ⟨ad, p1, q1⟩ := e1; simp [results, hr, p1, q1, asAddr]
theorem RVs.r2 {r1 r2 : ResultVar} {v1 v2 : Value} (hr : fn.results = #[r1, r2]) (h1 : RV P env fs os r1 v1) (h2 : RV P env fs os r2 v2) : RVs P fn env fs os (.tuple #[v1, v2]) := fun _ _ _ _ a w m hs => by
  have e1 := h1 _ _ _ _ _ _ _ hs
  have e2 := h2 _ _ _ _ _ _ _ hs
  cases r1 <;> cases r2 <;> simp only [RVat] at e1 e2 <;> (try obtain ⟨ad1, p1, q1⟩ := e1) <;> (try obtain ⟨ad2, p2, q2⟩ := e2) <;> simp [results, hr, asAddr, *]
theorem RVs.r3 {r1 r2 r3 : ResultVar} {v1 v2 v3 : Value} (hr : fn.results = #[r1, r2, r3]) (h1 : RV P env fs os r1 v1) (h2 : RV P env fs os r2 v2) (h3 : RV P env fs os r3 v3) : RVs P fn env fs os (.tuple #[v1, v2, v3]) := fun _ _ _ _ a w m hs => by
  have e1 := h1 _ _ _ _ _ _ _ hs
  have e2 := h2 _ _ _ _ _ _ _ hs
  have e3 := h3 _ _ _ _ _ _ _ hs
  cases r1 <;> cases r2 <;> cases r3 <;> simp only [RVat] at e1 e2 e3 <;> (try obtain ⟨ad1, p1, q1⟩ := e1) <;> (try obtain ⟨ad2, p2, q2⟩ := e2) <;> (try obtain ⟨ad3, p3, q3⟩ := e3) <;> simp [results, hr, asAddr, *]

theorem retO {σ κ : Type} {K : σ → Prop} {val : σ → κ → Value} {F : σ → κ → List Fact} {O : σ → κ → List Own} (y : σ) (s : κ) (hv : RVs P fn env fs os (val y s)) (hF : RF P env fs os (F y s)) (is : List Nat) (hn : is.Nodup) (hO : SubO is (O y s) os) (hk : K y) :
    ∀ a w m, St ⟨P, n, w0, m0, X⟩ env fs os a w m → bodyPost P fn (PostO X w0 m0 K val F O) .ret a w := fun a w m hs => by
  have hw : St ⟨P, n, w0, m0, X⟩ env fs (O y s) a w m := hs.reown is hn hO
  exact ⟨hs.defers, val y s, hv _ _ _ _ _ _ _ hs, y, s, m, hk, rfl, hs.below, hs.old, hs.fresh, RF.all hF hs, hw.owns, hw.ids, hw.apart⟩
end ret
end Go.Cw
namespace Go.Cw
open Go Go.RowKit
theorem SubO.nil {os : List Own} : SubO [] [] os := trivial
theorem SubO.cons {i : Nat} {is : List Nat} {o : Own} {os' os : List Own} (h : os[i]? = some o) (hr : SubO is os' os) : SubO (i :: is) (o :: os') os := ⟨h, hr⟩
section
variable {cx : Cx} {env : Env} {fs : List Fact} {os : List Own}
/-- A box beside those that the tail turns. -/
theorem notX1 {α β : Type} [R α] [R β] {y : α} {r : R.Raw α} {b T : Nat} {z : β} {s : R.Raw β} {c U : Nat} (i j : Nat) (hi : os[i]? = some (bx y r b T)) (hj : os[j]? = some (bx z s c U)) (hij : (i == j) = false := by rfl) : ∀ a w m, St cx env fs os a w m → ¬ (b = c) := by
  intro a w m hs e
  have hne : i ≠ j := by simpa using hij
  obtain ⟨l1, g1⟩ := List.getElem?_eq_some_iff.1 hi
  obtain ⟨l2, g2⟩ := List.getElem?_eq_some_iff.1 hj
  have hp := List.pairwise_iff_getElem.1 hs.apart
  rcases Nat.lt_or_gt_of_ne hne with h | h
  · exact hp i j (by simpa using l1) (by simpa using l2) h b (by simp [g1, bx]) (by simp [g2, bx, e])
  · exact hp j i (by simpa using l2) (by simpa using l1) h b (by simp [g2, bx, e]) (by simp [g1, bx])
theorem zeroX1 {β : Type} [R β] {z : β} {s : R.Raw β} {c U : Nat} (j : Nat) (hj : os[j]? = some (bx z s c U)) : ∀ a w m, St cx env fs os a w m → ∀ b, b = c → m b = 0 := by
  rintro a w m hs b rfl
  exact (hs.own hj).2
end
end Go.Cw
namespace Go.Cw
open Go Go.RowKit
theorem okl_at {α : Type} [R α] [Inhabited α] {m : WM} {w : World} {xs : List α} {rs : List (R.Raw α)} {i : Int} (h : (Okl xs rs).p m w) (hi : 0 ≤ i ∧ i < xs.length) : R.ok m w (lat xs i) (rat rs R.dflt i) := by
  have hlt : i.toNat < xs.length := by omega
  have := okl.get (m := m) (w := w) (xs := xs) (rs := rs) h hlt
  simpa [lat, rat, hlt] using this
theorem toNat_le {l : Int} {n : Nat} (h : 0 ≤ l ∧ l ≤ n) : l.toNat ≤ n := by omega
def OZ (os : List Own) : Prop := ∀ o ∈ os, ∀ m w b, o.q m w → o.id b → m b = 0
theorem ozN : OZ [] := fun o ho => by cases ho
theorem ozC {o : Own} {os : List Own} (h : ∀ m w b, o.q m w → o.id b → m b = 0) (hr : OZ os) : OZ (o :: os) := fun x hx => by
  rcases List.mem_cons.1 hx with rfl | hx
  · exact h
  · exact hr x hx
theorem oz_bx {α : Type} [R α] {y : α} {r : R.Raw α} {b T : Nat} : ∀ m w c, (bx y r b T).q m w → (bx y r b T).id c → m c = 0 := fun m w c h e => by cases e; exact h.2
theorem oz_sv {α : Type} [R α] {T n : Nat} {xs : List α} {rs : List (R.Raw α)} {a : Option Addr} {cap : Nat} : ∀ m w c, (sv T n xs rs a cap).q m w → (sv T n xs rs a cap).id c → m c = 0 := fun m w c h e => by
  rcases h with ⟨rfl, _⟩ | ⟨b, arr, rfl, _, _, _, _, hm⟩
  · cases e
  · cases e; exact hm
theorem oz_mo {κ β : Type} [R κ] [R β] {l : List (κ × β)} {rs : List (R.Raw β)} {b : Nat} : ∀ m w c, (mo l rs b).q m w → (mo l rs b).id c → m c = 0 := fun m w c h e => by cases e; exact h.2
section
variable {cx : Cx} {env : Env} {fs : List Fact} {os : List Own} {α : Type} [R α]
theorem Via.frzSvAll {T0 n : Nat} {xs : List α} {rs : List (R.Raw α)} {a : Option Addr} {cap : Nat} (i j : Nat) (hi : os[i]? = some (sv T0 n xs rs a cap)) (hj : fs[j]? = some (Okl xs rs)) :
    Via cx env fs os (Fk true xs ((a, cap) : Option Addr × Nat) :: Pr (xs.length = n) :: fs) (os.eraseIdx i) := by
  have h0 : Via cx env fs os (Pr (xs.length = n) :: fs) os := fun aa w m hs => ⟨m, hs.addFact (by
    rcases hs.own hi with ⟨_, h1, _, h2⟩ | ⟨_, _, _, _, _, _, h1, _⟩
    · show xs.length = n
      rw [h1, h2]; rfl
    · exact h1.2)⟩
  refine h0.trans ?_
  have h := Via.frzSv (cx := cx) (env := env) (fs := Pr (xs.length = n) :: fs) (os := os) (T0 := T0) (n := n) (a := a) (cap := cap) (xs.length : Int) i (j + 1) hi hj ⟨by omega, Int.le_refl _⟩
  have e : cut xs 0 (xs.length : Int) = xs := by simp [cut]
  rwa [e] at h
theorem Via.nilSv (T : Nat) : Via cx env fs os (Okl ([] : List α) [] :: fs) (sv T 0 ([] : List α) [] none 0 :: os) := fun a w m hs =>
  ⟨m, (hs.addOwn (o := sv T 0 ([] : List α) [] none 0) (Below.refl _ _) (fun _ _ => rfl) hs.fresh (fun b hb => by cases hb) (.inl ⟨rfl, rfl, rfl, rfl⟩)).addFact trivial⟩
end
end Go.Cw
namespace Go.Cw
open Go Go.RowKit
class FldT (P : Program) (T : TypeId) (i : Nat) (E off : outParam Nat) : Prop where
  f : ∃ fields f, P.underlying T = some (.struct fields) ∧ fields[i]? = some f ∧ f.type = E ∧ f.offset = off
/-- A field of a value. -/
theorem QE.field {cx : Cx} {X : Nat → Prop} {env : Env} {fs : List Fact} {os : List Own} {g : Bool} {T : TypeId} {α β : Type} [R α] [R β] {x : Operand} {gx : Bool} {t i E off : Nat} {y : α} {r : R.Raw α} [hf : FldT cx.P t i E off] [ht : Ty cx.P E β] (L : Lens α β) (hx : ev env x = some (gx, V y r)) (hagg : R.agg α = true := by rfl) (ho : L.off = off := by rfl)
    (hi : g = true → gx = true := by first | exact fun _ => rfl | exact fun h => h | exact and1) :
    QE cx X env fs os g (.field t x i) T (V (L.get y) (L.getR r)) :=
  fun A w m hs hg w' _ _ _ _ _ => qe (s := Instr.field t (A.eval x) i) rfl (by
    obtain ⟨fields, f, hu, hfi, hE, hof⟩ := hf.f
    rw [hs.ev hx (hi hg)]
    rw [show V y r = .agg (R.cells y r).toArray by simp [V, hagg]]
    have p1 := run_part (P := cx.P) (w := w') (E := E) L y r
    rw [ho] at p1
    simp only [Instr.field, Sem.run_bind, run_underlying hu, Result.andThen_ok, hfi, asAgg, Sem.run_pure, hE, hof, p1])
end Go.Cw
namespace Go.Cw
open Go Go.RowKit
theorem okf {α : Type} [R α] {fs : List Fact} {m : WM} {w : World} {y : α} {r : R.Raw α} (hf : ∀ (i : Nat) {x : Fact}, fs[i]? = some x → x.p m w) (i : Nat) (hi : fs[i]? = some (Fk true y r)) : R.ok m w y r := hf i hi rfl
theorem okls {α : Type} [R α] {fs : List Fact} {m : WM} {w : World} {xs : List α} {rs : List (R.Raw α)} (hf : ∀ (i : Nat) {x : Fact}, fs[i]? = some x → x.p m w) (i : Nat) (hi : fs[i]? = some (Okl xs rs)) : (Okl xs rs).p m w := hf i hi
end Go.Cw
namespace Go.Cw
open Go Go.RowKit
theorem RV.tmpS {P : Program} {env : Env} {fs : List Fact} {os : List Own} {α : Type} [R α] {xs : List α} {q : Option Addr × Nat} {t n : Nat} (j : Nat) (he : look env t = some (true, .slice q.1 n q.2)) (hj : fs[j]? = some (Pr (xs.length = n))) : RV P env fs os (.tmp t) (V xs q) := fun _ _ _ _ a w m hs => by
  have := hs.sees t _ _ he
  simp only [cond_true, Array.getD_eq_getD_getElem?] at this
  have h2 : xs.length = n := hs.fact hj
  show _ = Value.slice q.1 xs.length q.2
  rw [h2]; exact this
theorem FP.ix {g : Bool} {fs l : List Fact} {f : Fact} (i : Nat) (hi : fs[i]? = some f) (h : FP g fs l) : FP g fs (f :: l) := ⟨⟨i, _, hi, fun _ _ _ h => h⟩, h⟩
end Go.Cw
namespace Go.Cw
open Go Go.RowKit
theorem Via.nilTipOf {cx : Cx} {env : Env} {fs : List Fact} {os : List Own} {α : Type} [R α] {xs : List α} (t size j : Nat) (hj : fs[j]? = some (Fk true xs ((none, 0) : Option Addr × Nat))) : Via cx env fs os fs (tp t size xs.length none 0 :: os) := fun a w m hs =>
  ⟨m, hs.addOwn (Below.refl _ _) (fun _ _ => rfl) hs.fresh (fun b hb => by cases hb) (.inl ⟨rfl, (by
    rcases hs.fact hj rfl with h | ⟨b, _, _, h, _⟩
    · rw [h]; rfl
    · exact absurd h (fun e => by cases e)), rfl⟩)⟩
end Go.Cw
