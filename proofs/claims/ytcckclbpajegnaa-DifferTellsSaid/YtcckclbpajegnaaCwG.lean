/- Lists that grow, literals of slices, equality of whole data. Conditions: none; no program is named. -/
import Derived.Test.YtcckclbpajegnaaCwF
import Derived.Laws.StructEq
import Derived.ChangeKeysEq
set_option linter.all false
set_option linter.unusedVariables false
set_option linter.unusedSimpArgs false
namespace Go.Cw
open Go Go.RowKit

section grow
variable {cx : Cx} {X : Nat → Prop} {env : Env} {fs : List Fact} {os : List Own} {g : Bool} {T : TypeId}

/-- How many bytes an element takes, and that this is no great number. -/
class Byt (P : Program) (E : TypeId) (bytes : outParam Nat) : Prop where
  info : ∃ i, P.info? E = some i ∧ i.bytes = bytes ∧ bytes ≤ 2 ^ 16 ∧ bytes ≠ 0

theorem grow_le (need : Nat) : ∀ (rounds c : Nat), Builtin.growBy need rounds c ≤ max c (2 * need + 200)
  | 0, c => by simp [Builtin.growBy]; omega
  | n + 1, c => by
    unfold Builtin.growBy
    split
    · omega
    · have := grow_le need n (c + (c + 768) / 4)
      omega

theorem cap_le (need cap : Nat) (h : cap < need) : Builtin.nextslicecap need cap ≤ 2 * need + 200 := by
  unfold Builtin.nextslicecap
  split
  · omega
  · split
    · omega
    · have := grow_le need 4 cap; omega

theorem run_slice_cells {α : Type} [R α] {P : Program} {m : WM} {w : World} {xs : List α} {a : Option Addr} (h : Sl m w xs a) :
    ∃ rs, okl m w xs rs ∧ ∀ w' : World, w'.heap = w.heap → ∀ c, (Builtin.firstCells (R.size α) xs.length (.slice a xs.length c)).run P w' = .ok (flat xs rs).toArray w' := by
  rcases h with rfl | ⟨b, off, rs, rfl, ho, hc⟩
  · refine ⟨[], trivial, fun w' _ c => ?_⟩
    cases a <;> simp [Builtin.firstCells, flat, loadCells, loadCellsFrom]
  · refine ⟨rs, ho, fun w' hw c => ?_⟩
    have hl := run_loadCells_list (P := P) (w := w') ⟨b, off, none⟩ (flat xs rs) (fun j v hv => by
      rw [add_mk, show w'.cell? ⟨b, off + j, none⟩ = w.cell? ⟨b, off + j, none⟩ by simp [World.cell?, hw], hc.2 j (List.getElem?_eq_some_iff.1 hv).1, hv])
    rw [flat_length ho.length] at hl
    simp only [Builtin.firstCells]
    exact hl

/-- The element type of a slice type, for appends. -/
class Apd (P : Program) (T : TypeId) (α : Type) [R α] (E : outParam TypeId) : Prop where
  und : P.underlying T = some (.slice E)
  size : ∀ w, (sizeOf E).run P w = .ok (R.size α) w
  zero : ∃ z, ∀ w, (zeroValue E).run P w = .ok z w ∧ z.cells.size = R.size α

theorem zeroCells_size (z : Array Value) (n : Nat) : (Builtin.zeroCells z n).size = n * z.size := by simp [Builtin.zeroCells]

/-- append to a slice of the call's own. -/
theorem LX.append {α : Type} [R α] {d : Tmp} {x y : Operand} {t t2 E E0 bytes : TypeId} {xs ys : List α} {r s : Option Addr × Nat} [ha : Apd cx.P t α E] [hb : Byt cx.P E bytes] (h2 : cx.P.underlying t2 = some (.slice E0)) (i j k : Nat)
    (hx : ev env x = some (true, V xs r)) (hy : ev env y = some (true, V ys s)) (hi : os[i]? = some (tp E (R.size α) xs.length r.1 r.2)) (hj : fs[j]? = some (Fk true xs r)) (hk : fs[k]? = some (Fk true ys s))
    (hn : xs.length + ys.length ≤ 2 ^ 30) (B : Bool := false) (hB : B = true → r.2 = 0 := by first | exact fun _ => rfl | (intro h; cases h)) (hd : Nat.blt d cx.n = true := by rfl) :
    LX cx env fs os true (fun q => B = false ∧ r.1.map (·.block) = some q) (some d) (.call ⟨.builtin .append, #[x, y], #[t, t2]⟩) T (fun q : Option Addr × Nat => (d, true, V (xs ++ ys) q) :: env) (fun q => Fk true (xs ++ ys) q :: fs) (fun q => os.set i (tp E (R.size α) (xs ++ ys).length q.1 q.2)) := by
  intro A w m hs Q K hK pos af gd
  rw [if_pos rfl]
  unfold Oper.wp
  obtain ⟨info, hinfo, hbytes, hble, hbne⟩ := hb.info
  obtain ⟨z, hz⟩ := ha.zero
  have hslx : Sl m w xs r.1 := hs.fact hj rfl
  have hsly : Sl m w ys s.1 := hs.fact hk rfl
  obtain ⟨rsy, hoky, hcy⟩ := run_slice_cells (P := cx.P) hsly
  obtain ⟨rsx, hokx, hcx⟩ := run_slice_cells (P := cx.P) hslx
  have hlen : (xs ++ ys).length = xs.length + ys.length := List.length_append
  have hargs : (execOp A.eval ⟨some d, .call ⟨.builtin .append, #[x, y], #[t, t2]⟩, T, pos, af, gd⟩) = (do let d ← resolve A.eval ⟨.builtin .append, #[x, y], #[t, t2]⟩ T; invoke d.target d.args) := rfl
  have hu2 := run_underlying h2 w
  have hu1 := run_underlying ha.und w
  by_cases hfit : xs.length + ys.length ≤ r.2
  · -- there is room
    have hq := hs.own hi
    rcases hq with ⟨hr0, hn0, hc0⟩ | ⟨b, arr, hrb, hheap, harr, hm⟩
    · have hy0 : ys = [] := by
        have : ys.length = 0 := by omega
        exact List.eq_nil_of_length_eq_zero this
      have hx0 : xs = [] := List.eq_nil_of_length_eq_zero hn0
      subst hy0; subst hx0
      have hrun' : (execOp A.eval ⟨some d, .call ⟨.builtin .append, #[x, y], #[t, t2]⟩, T, pos, af, gd⟩).run cx.P w = .ok (.value (V ([] ++ [] : List α) r)) w := by
        rw [hargs]
        simp only [resolve, invoke, builtin, Sem.run_bind, Sem.run_pure, Result.andThen_ok, List.map_toArray, List.map_cons, List.map_nil, hs.ev hx rfl, hs.ev hy rfl]
        rw [show (V ([] : List α) r) = .slice r.1 ([] : List α).length r.2 from rfl, show (V ([] : List α) s) = .slice s.1 ([] : List α).length s.2 from rfl, hr0]
        have h3 := hcy w rfl s.2
        simp only [List.length_nil] at h3
        simp [Builtin.append_, hu1, hu2, ha.size w, Builtin.lenOf, h3, V, R.agg, R.cells, hr0]
      rw [hrun']
      refine hK r _ w m ?_ (BelowX.refl _ _ _)
      have e : os.set i (tp E (R.size α) ([] ++ [] : List α).length r.1 r.2) = os := List.ext_getElem? fun q => by
        rw [List.getElem?_set]
        split
        · rename_i e; subst e
          split
          · exact hi.symm
          · rename_i hne; rw [List.getElem?_eq_none (by omega)]
        · rfl
      show St cx _ _ (os.set i (tp E (R.size α) ([] ++ [] : List α).length r.1 r.2)) _ _ _
      rw [e]
      exact (hs.put hd rfl).addFact (fun _ => .inl rfl)
    · have hstore := run_storeCells_at cx.P b (xs.length * R.size α) E (flat ys rsy) 0 arr w hheap (by
        rw [flat_length hoky.length, harr, Nat.add_zero, ← Nat.add_mul]; exact Nat.mul_le_mul_right _ hfit) (fun v hv => flat_ones v hv)
      simp only [Nat.add_zero] at hstore
      have hrun' : (execOp A.eval ⟨some d, .call ⟨.builtin .append, #[x, y], #[t, t2]⟩, T, pos, af, gd⟩).run cx.P w = .ok (.value (V (xs ++ ys) r)) (w.setRow b (arr.toList.take (xs.length * R.size α) ++ flat ys rsy ++ arr.toList.drop (xs.length * R.size α + (flat ys rsy).length)).toArray) := by
        rw [hargs]
        simp only [resolve, invoke, builtin, Sem.run_bind, Sem.run_pure, Result.andThen_ok, List.map_toArray, List.map_cons, List.map_nil, hs.ev hx rfl, hs.ev hy rfl]
        rw [show (V xs r) = .slice r.1 xs.length r.2 from rfl, show (V ys s) = .slice s.1 ys.length s.2 from rfl, show V (xs ++ ys) r = .slice r.1 (xs ++ ys).length r.2 from rfl, hlen, hrb]
        have := hcy w rfl s.2
        simp [Builtin.append_, hu1, hu2, ha.size w, Builtin.lenOf, hfit, this, add_mk, hstore]
      rw [hrun']
      have hxcells : okl m w xs rsx ∧ flat xs rsx = arr.toList.take (xs.length * R.size α) := by
        refine ⟨hokx, ?_⟩
        have h1 := hcx w rfl r.2
        have h3 := run_loadCells_list (P := cx.P) (w := w) ⟨b, 0, none⟩ (arr.toList.take (xs.length * R.size α)) (fun j v hv => by
          rw [add_mk, Nat.zero_add, cell_of_row w b j arr E (0, 0) hheap]
          rw [List.getElem?_take] at hv
          split at hv
          · simpa using hv
          · cases hv)
        have hl : (arr.toList.take (xs.length * R.size α)).length = xs.length * R.size α := by
          have h5 : xs.length * R.size α ≤ arr.size := by rw [harr]; exact Nat.mul_le_mul_right _ (by omega)
          rw [List.length_take]
          exact Nat.min_eq_left (by simpa using h5)
        rw [hl] at h3
        rw [hrb] at h1
        simp only [Builtin.firstCells] at h1
        rw [h3] at h1
        have := Result.ok.inj h1
        simpa using this.1.symm
      let m' : WM := fun q => if q = b then (xs ++ ys).length * R.size α else m q
      have hm' : ∀ q, q ≠ b → m' q = m q := fun q hq => by simp [m', hq]
      have hmb : m' b = (xs ++ ys).length * R.size α := by simp [m']
      have hrow := setRow_heap w b arr (arr.toList.take (xs.length * R.size α) ++ flat ys rsy ++ arr.toList.drop (xs.length * R.size α + (flat ys rsy).length)).toArray E (0, 0) hheap
      have hext : Ext m w m' (w.setRow b (arr.toList.take (xs.length * R.size α) ++ flat ys rsy ++ arr.toList.drop (xs.length * R.size α + (flat ys rsy).length)).toArray) := by
        refine ⟨fun q iq hq => ?_, fun q => ?_, fun q es c hq hh => ?_⟩
        · by_cases e : q = b
          · subst e
            rw [cell_of_row _ q iq _ E (0, 0) hrow, cell_of_row w q iq arr E (0, 0) hheap]
            rw [hm] at hq
            have hle : xs.length * R.size α ≤ arr.size := by rw [harr]; exact Nat.mul_le_mul_right _ (by omega)
            simp only [List.getElem?_toArray]
            rw [List.append_assoc, List.getElem?_append_left (by simp; omega), List.getElem?_take, if_pos hq]
            simp
          · exact World.cell?_of_block (w := w) (setRow_other w b q _ e)
        · by_cases e : q = b
          · subst e; rw [hmb, hm, hlen]; exact Nat.mul_le_mul_right _ (by omega)
          · rw [hm' q e]; exact Nat.le_refl _
        · by_cases e : q = b
          · subst e; rw [hheap] at hh; cases hh
          · exact (setRow_other w b q _ e).trans hh
      refine hK r _ _ m' ?_ (by
        cases hBv : B with
        | false => exact ⟨rfl, rfl, rfl, by simp, fun k _ hk => setRow_other _ _ _ _ fun e => hk ⟨rfl, by rw [hrb, e]; rfl⟩⟩
        | true =>
          have hr0 := hB hBv
          have hy0 : ys.length = 0 := by omega
          have hyn : ys = [] := List.eq_nil_of_length_eq_zero hy0
          have hfy0 : flat ys rsy = [] := by subst hyn; cases rsy <;> rfl
          rw [hfy0]
          simp only [List.append_nil, List.length_nil, Nat.add_zero, List.take_append_drop]
          have : w.setRow b arr.toList.toArray = w := by rw [Array.toArray_toList]; exact setRow_self w b arr E (0, 0) hheap
          rw [this]
          exact BelowX.refl _ _ _)
      have hturn := (hs.put (d := d) (g := true) (v := V (xs ++ ys) r) (v' := V (xs ++ ys) r) hd rfl).turn (w' := w.setRow b (arr.toList.take (xs.length * R.size α) ++ flat ys rsy ++ arr.toList.drop (xs.length * R.size α + (flat ys rsy).length)).toArray) (m' := m') (o' := tp E (R.size α) (xs ++ ys).length r.1 r.2) hi rfl
        (fun b' hb' => by
          have hne : b' ≠ b := fun e => hb' (by show r.1.map _ = _; rw [hrb, e]; rfl)
          exact ⟨setRow_other w b b' _ hne, hm' b' hne⟩) (by simp) rfl rfl rfl hext
        (.inr ⟨b, _, hrb, hrow, by
          rw [← harr]
          have hle : xs.length * R.size α + (flat ys rsy).length ≤ arr.size := by
            rw [flat_length hoky.length, harr, ← Nat.add_mul]; exact Nat.mul_le_mul_right _ hfit
          simp; omega, hmb⟩)
      refine hturn.addFact (fun _ => .inr ⟨b, 0, rsx ++ rsy, hrb, (hokx.append hoky).stable hext, ?_, fun q hq => ?_⟩)
      · rw [flat_length (by simp [hokx.length, hoky.length]), hmb]; omega
      · rw [Nat.zero_add, cell_of_row _ b q _ E (0, 0) hrow, flat_append hokx.length, hxcells.2]
        have hfl : (flat xs rsx).length = xs.length * R.size α := flat_length hokx.length
        rw [flat_append hokx.length, hxcells.2] at hq
        simp only [List.getElem?_toArray]
        rw [List.getElem?_append_left hq]
  · -- a new array
    have hq := hs.own hi
    have hcap : Builtin.nextslicecap (xs.length + ys.length) r.2 * bytes ≤ 2 ^ 48 := by
      have h1 := cap_le (xs.length + ys.length) r.2 (by omega)
      have h3 : Builtin.nextslicecap (xs.length + ys.length) r.2 ≤ 2 ^ 32 := by omega
      calc _ ≤ 2 ^ 32 * 2 ^ 16 := Nat.mul_le_mul h3 hble
        _ = 2 ^ 48 := by decide
    have hmax : ¬ (((xs.length + ys.length : Nat) : Int) > IntKind.i64.max ∧ (false = true ∨ bytes = 0)) := fun h => h.2.elim (fun h => by cases h) hbne
    obtain ⟨c, hc, hw1⟩ : ∃ c, xs.length + ys.length ≤ c ∧ ∃ w1 : World, w1 = { w with drawn := w.drawn + 1 } ∧
        (Builtin.append_ #[t, t2] T #[.slice r.1 xs.length r.2, .slice s.1 ys.length s.2]).run cx.P w =
          .ok (.slice (some ⟨w1.heap.size, 0, none⟩) (xs.length + ys.length) c) { w1 with heap := w1.heap.push (.cells ((flat xs rsx).toArray ++ (flat ys rsy).toArray ++ Builtin.zeroCells z.cells (c - (xs.length + ys.length))) E) } := by
      refine ⟨(Question.appendCap (xs.length + ys.length) r.2 E).cut (w.tape w.drawn (.appendCap (xs.length + ys.length) r.2 E)), Nat.le_add_right _ _, _, rfl, ?_⟩
      have hcx' := hcx w.drew rfl r.2
      have hcy' := hcy w.drew rfl s.2
      have hti : ∀ w, (typeInfo E).run cx.P w = .ok info w := fun w => by simp [typeInfo, hinfo]
      simp only [Builtin.append_, hu1, hu2, Sem.run_bind, Result.andThen_ok, ha.size w, Builtin.lenOf, Sem.run_pure, List.getElem?_toArray, List.getElem?_cons_zero, List.getElem?_cons_succ]
      simp [hfit, hti, hbytes, hbne, Nat.not_lt.2 hcap, hcx', hcy', (hz _).1, newRow, Question.forced]
      show w.drew.alloc _ = w.drew.alloc _
      congr 2
      rw [← Array.append_assoc]
      simp
    obtain ⟨w1, rfl, hrun⟩ := hw1
    have hrun' : (execOp A.eval ⟨some d, .call ⟨.builtin .append, #[x, y], #[t, t2]⟩, T, pos, af, gd⟩).run cx.P w = .ok (.value (V (xs ++ ys) (some ⟨w.heap.size, 0, none⟩, c)))
        { w with drawn := w.drawn + 1, heap := w.heap.push (.cells ((flat xs rsx).toArray ++ (flat ys rsy).toArray ++ Builtin.zeroCells z.cells (c - (xs.length + ys.length))) E) } := by
      rw [hargs]
      simp only [resolve, invoke, builtin, Sem.run_bind, Sem.run_pure, Result.andThen_ok, List.map_toArray, List.map_cons, List.map_nil, hs.ev hx rfl, hs.ev hy rfl]
      rw [show (V xs r) = .slice r.1 xs.length r.2 from rfl, show (V ys s) = .slice s.1 ys.length s.2 from rfl, hrun]
      rw [show V (xs ++ ys) (some (⟨w.heap.size, 0, none⟩ : Addr), c) = .slice (some ⟨w.heap.size, 0, none⟩) (xs ++ ys).length c from rfl, hlen]
      rfl
    rw [hrun']
    let arr : Array Value := (flat xs rsx).toArray ++ (flat ys rsy).toArray ++ Builtin.zeroCells z.cells (c - (xs.length + ys.length))
    let w2 : World := { w with drawn := w.drawn + 1, heap := w.heap.push (.cells arr E) }
    have hfx : (flat xs rsx).length = xs.length * R.size α := flat_length hokx.length
    have hfy : (flat ys rsy).length = ys.length * R.size α := flat_length hoky.length
    have harr : arr.size = c * R.size α := by
      simp only [arr, Array.size_append, List.size_toArray, hfx, hfy, zeroCells_size, (hz w).2]
      rw [← Nat.add_mul, ← Nat.add_mul]
      congr 1; omega
    have hnew : w2.heap[w.heap.size]? = some (.cells arr E (0, 0)) := by simp [w2]
    let m' : WM := fun q => if q = w.heap.size then (xs ++ ys).length * R.size α else m q
    have hbel : Below w.heap.size w w2 := ⟨rfl, rfl, rfl, by simp [w2], fun q hq => by
      show (w.heap.push _)[q]? = _
      rw [Array.getElem?_push, if_neg (by omega)]⟩
    have hext : Ext m w m' w2 := by
      have hlt : ∀ q iq, iq < m q → q < w.heap.size := fun q iq hq => by
        rcases Nat.lt_or_ge q w.heap.size with h1 | h1
        · exact h1
        · rw [hs.fresh q h1] at hq; exact absurd hq (Nat.not_lt_zero _)
      refine ⟨fun q iq hq => hbel.cell (p := ⟨q, iq, none⟩) (hlt q iq hq), fun q => ?_, fun q es c hq hh => (hbel.block q (hlt q 0 hq)).trans hh⟩
      by_cases e : q = w.heap.size
      · rw [e, hs.fresh _ (Nat.le_refl _)]; exact Nat.zero_le _
      · simp [m', e]
    refine hK (some ⟨w.heap.size, 0, none⟩, c) _ w2 m' ?_ (.of hbel)
    have hs1 := (hs.put (d := d) (g := true) (v := V (xs ++ ys) (some (⟨w.heap.size, 0, none⟩ : Addr), c)) (v' := V (xs ++ ys) (some (⟨w.heap.size, 0, none⟩ : Addr), c)) hd rfl)
    have hm'o : ∀ b, b < w.heap.size → m' b = m b := fun b hb => by simp [m', Nat.ne_of_lt hb]
    have hs2 := hs1.grow (w' := w2) (m' := m') hbel hm'o (fun b hb => by
      have hsz : w2.heap.size = w.heap.size + 1 := by simp [w2]
      rw [hsz] at hb
      simp only [m']
      rw [if_neg (by omega)]
      exact hs.fresh b (by omega))
    have hilt : i < os.length := (List.getElem?_eq_some_iff.1 hi).1
    have howner : (tp E (R.size α) (xs ++ ys).length (some ⟨w.heap.size, 0, none⟩) c).q m' w2 :=
      .inr ⟨w.heap.size, arr, rfl, hnew, harr, by simp [m']⟩
    refine St.addFact ?_ (fun _ => .inr ⟨w.heap.size, 0, rsx ++ rsy, rfl, (hokx.append hoky).stable hext, ?_, fun q hq => ?_⟩)
    · refine { hs2 with owns := ?_, ids := ?_, apart := ?_ }
      · intro o ho
        rcases List.mem_or_eq_of_mem_set ho with h1 | rfl
        · exact hs2.owns o h1
        · exact howner
      · intro o ho b hb'
        rcases List.mem_or_eq_of_mem_set ho with h1 | rfl
        · exact hs2.ids o h1 b hb'
        · cases hb'
          exact ⟨.inl hs.below.size, by simp [w2]⟩
      · rw [List.map_set]
        have hp := hs.apart
        rw [List.pairwise_iff_getElem] at hp ⊢
        intro p q hpl hql hpq
        simp only [List.length_set, List.length_map] at hpl hql
        rw [List.getElem_set, List.getElem_set]
        intro b hb1 hb2
        split at hb1
        · split at hb2
          · omega
          · cases hb1
            have := (hs.ids os[q] (List.getElem_mem hql) _ (by simpa using hb2)).2
            omega
        · split at hb2
          · cases hb2
            have := (hs.ids os[p] (List.getElem_mem hpl) _ (by simpa using hb1)).2
            omega
          · exact hp p q (by simpa using hpl) (by simpa using hql) hpq b hb1 hb2
    · rw [flat_length (by simp [hokx.length, hoky.length])]; simp [m']
    · rw [Nat.zero_add, cell_of_row _ _ q _ E (0, 0) hnew, flat_append hokx.length]
      rw [flat_append hokx.length] at hq
      simp only [arr]
      rw [Array.getElem?_append_left (by simpa using hq)]
      simp [List.getElem?_append, Array.getElem?_append]
end grow
end Go.Cw
