/- Readings of arguments: what the row's reader reads stands for a datum. Conditions: none; no program is named. -/
import Derived.Test.YtcckclbpajegnaaCwO
set_option linter.all false
set_option linter.unusedVariables false
set_option linter.unusedSimpArgs false
namespace Go.Cw
open Go Go.RowKit

/-- All that there is, as what does not turn. -/
def mAll (w : World) : WM := fun b => match w.heap[b]? with
  | some (.cells c _ _) => c.size
  | some (.map _ _) => 1
  | _ => 0

class Rd (P : Program) (T : TypeId) (α : Type) [R α] : Prop where
  rd : ∀ {H : Type} (enc : TypeId × Value → H) w sp hd fuel cs d ps, DataW.trod enc P w 0 sp hd fuel T cs = some (d, ps) → ∃ (x : α) (r : R.Raw α), cs = R.cells x r ∧ R.ok (mAll w) w x r

theorem rd_int {P : Program} {T : TypeId} (h : P.underlying T = some (.int .i64)) : Rd P T Int := ⟨fun enc w sp hd fuel cs d ps ht => by
  cases fuel with
  | zero => simp [DataW.trod] at ht
  | succ n =>
    obtain ⟨m, h1, _⟩ := DataW.trod_int h ht
    exact ⟨m, (), h1, trivial⟩⟩

theorem rd_ui {P : Program} {T : TypeId} {α : Type} [C1 α] {k : IntKind} [hu : UI α k] (h : P.underlying T = some (.int k)) (hs : k.signed = false := by rfl) : Rd P T α := ⟨fun enc w sp hd fuel cs d ps ht => by
  cases fuel with
  | zero => simp [DataW.trod] at ht
  | succ n =>
    obtain ⟨m, h1, _, hw⟩ := DataW.trod_int h ht
    have hr : 0 ≤ m ∧ m ≤ k.max := by
      simp only [Lit.wf, Bool.and_eq_true, decide_eq_true_eq] at hw
      have : k.min = 0 := by simp [IntKind.min, hs]
      omega
    exact ⟨UI.of m, (), by rw [h1]; show _ = [C1.c1 (UI.of m : α)]; rw [hu.c1_of m hr.1 hr.2], trivial⟩⟩

theorem rd_bool {P : Program} {T : TypeId} (h : P.underlying T = some .bool) : Rd P T Bool := ⟨fun enc w sp hd fuel cs d ps ht => by
  cases fuel with
  | zero => simp [DataW.trod] at ht
  | succ n =>
    unfold DataW.trod at ht
    rw [h] at ht
    split at ht <;> first | (cases ht; done) | skip
    all_goals first | exact ⟨_, (), rfl, trivial⟩ | simp_all⟩

theorem mapM_inv {α β : Type} {f : α → Option β} : ∀ {l : List α} {ys : List β}, l.mapM f = some ys → ys.length = l.length ∧ ∀ (i : Nat) (x : α), l[i]? = some x → f x = ys[i]? ∧ i < ys.length
  | [], ys, h => by
    simp at h; subst h
    exact ⟨rfl, fun i x hx => by simp at hx⟩
  | a :: l, ys, h => by
    rw [List.mapM_cons] at h
    cases hf : f a with
    | none => rw [hf] at h; simp at h
    | some y =>
      rw [hf] at h
      cases hl : l.mapM f with
      | none => rw [hl] at h; simp at h
      | some zs =>
        rw [hl] at h
        simp at h; subst h
        obtain ⟨h1, h2⟩ := mapM_inv hl
        refine ⟨by simp [h1], fun i x hx => ?_⟩
        cases i with
        | zero => simp at hx; subst hx; simp [hf]
        | succ i => simpa using h2 i x (by simpa using hx)

theorem c1_list {α : Type} [C1 α] : ∀ (cs : List Value), (∀ (i : Nat) (v : Value), cs[i]? = some v → ∃ x : α, v = C1.c1 x) → ∃ xs : List α, cs = xs.map C1.c1
  | [], _ => ⟨[], rfl⟩
  | v :: cs, h => by
    obtain ⟨x, rfl⟩ := h 0 v rfl
    obtain ⟨xs, rfl⟩ := c1_list cs (fun i u hu => h (i + 1) u (by simpa using hu))
    exact ⟨x :: xs, rfl⟩

theorem rd_vec {P : Program} {T E n : Nat} {α : Type} [C1 α] [he : Rd P E α] (h : P.underlying T = some (.array n E)) (hc : P.cellsOf T = n) (h1 : P.cellsOf E = 1) : Rd P T (Vector α n) := ⟨fun enc w sp hd fuel cs d ps ht => by
  cases fuel with
  | zero => simp [DataW.trod] at ht
  | succ k =>
    unfold DataW.trod at ht
    simp only [h, hc, h1, Nat.mul_one] at ht
    split at ht
    · rename_i hlen
      obtain ⟨ys, hys, _⟩ := Option.map_eq_some_iff.1 ht
      obtain ⟨_, hat⟩ := mapM_inv hys
      obtain ⟨xs, rfl⟩ := c1_list (α := α) cs (fun i v hv => by
        have hi := (List.getElem?_eq_some_iff.1 hv).1
        obtain ⟨h2, h3⟩ := hat i i (by rw [List.getElem?_range (by omega)])
        have h4 := List.getElem?_eq_getElem h3
        rw [h4] at h2
        obtain ⟨x, r, hx, _⟩ := he.rd enc w sp hd k _ _ _ h2
        refine ⟨x, ?_⟩
        have h5 : (cs.drop i).take 1 = [v] := by
          rw [List.drop_eq_getElem_cons hi]
          have := (List.getElem?_eq_some_iff.1 hv).2
          simp [this]
        rw [h5] at hx
        simpa [R.cells] using hx)
      refine ⟨⟨xs.toArray, by simpa using hlen⟩, (), ?_, trivial⟩
      show _ = (Vector.toList _).map C1.c1
      simp [Vector.toList]
    · cases ht⟩

theorem rd_list {P : Program} {T E : Nat} {α : Type} [R α] [he : Rd P E α] (h : P.underlying T = some (.slice E)) (hc : P.cellsOf E = R.size α) (hp : 0 < R.size α) : Rd P T (List α) := ⟨fun enc w sp hd fuel cs d ps ht => by
  cases fuel with
  | zero => simp [DataW.trod] at ht
  | succ k =>
    unfold DataW.trod at ht
    rw [h] at ht
    split at ht <;> first | (cases ht; done) | skip
    all_goals first | (simp_all; done) | skip
    all_goals (rename_i e1; cases e1)
    · exact ⟨[], (none, 0), rfl, .inl rfl⟩
    · rename_i a len cap
      simp only at ht
      split at ht
      · obtain ⟨els, hels, _⟩ := Option.bind_eq_some_iff.1 ht
        obtain ⟨hl, hat⟩ := mapM_inv hels
        have step : ∀ i, i < len → ∃ (x : α) (r : R.Raw α), R.ok (mAll w) w x r ∧ ∀ j, j < R.size α → w.cell? ((a.add (i * R.size α)).add j) = (R.cells x r)[j]? := by
          intro i hi
          obtain ⟨h2, h3⟩ := hat i i (by rw [List.getElem?_range hi])
          rw [List.getElem?_eq_getElem h3] at h2
          obtain ⟨ci, hci, htr⟩ := Option.bind_eq_some_iff.1 h2
          obtain ⟨x, r, hx, hok⟩ := he.rd enc w sp hd k _ _ _ htr
          refine ⟨x, r, hok, fun j hj => ?_⟩
          unfold World.cells? at hci
          rw [if_pos (Nat.zero_le _)] at hci
          obtain ⟨_, hcat⟩ := mapM_inv hci
          rw [hc] at hcat
          have := (hcat j j (by rw [List.getElem?_range hj])).1
          rw [this, hx]
        by_cases h0 : len = 0
        · subst h0
          exact ⟨[], (some a, cap), rfl, .inl rfl⟩
        · obtain ⟨b, off, spot⟩ := a
          have hspot : spot = none := by
            obtain ⟨x, r, _, hcell⟩ := step 0 (by omega)
            have h1 := hcell 0 hp
            have hlen := R.len x r
            rw [List.getElem?_eq_getElem (by rw [hlen]; exact hp)] at h1
            unfold World.cell? at h1
            split at h1
            · split at h1
              · cases h1
              · rename_i hsp
                simp [Addr.add] at hsp
                cases spot with
                | none => rfl
                | some s => simp at hsp
            · cases h1
          subst hspot
          simp only [add_mk] at step
          have all : ∀ n, n ≤ len → ∃ (xs : List α) (rs : List (R.Raw α)), xs.length = n ∧ okl (mAll w) w xs rs ∧ ∀ j, j < n * R.size α → w.cell? ⟨b, off + j, none⟩ = (flat xs rs)[j]? := by
            intro n
            induction n with
            | zero => exact fun _ => ⟨[], [], rfl, trivial, fun j hj => by simp at hj⟩
            | succ n ih =>
              intro hn
              obtain ⟨xs, rs, hxl, hok, hcell⟩ := ih (by omega)
              obtain ⟨x, r, hx, hxc⟩ := step n (by omega)
              refine ⟨xs ++ [x], rs ++ [r], by simp [hxl], hok.append ⟨hx, trivial⟩, fun j hj => ?_⟩
              have hfl := flat_length hok.length
              rw [flat_append hok.length]
              rw [hxl] at hfl
              by_cases hj2 : j < n * R.size α
              · rw [List.getElem?_append_left (by omega)]
                exact hcell j hj2
              · rw [List.getElem?_append_right (by omega), hfl]
                rw [Nat.succ_mul] at hj
                have := hxc (j - n * R.size α) (by omega)
                simp only [flat, List.append_nil]
                rw [← this]
                congr 2
                omega
          obtain ⟨xs, rs, hxl, hok, hcell⟩ := all len (Nat.le_refl _)
          refine ⟨xs, (some ⟨b, off, none⟩, cap), by show _ = [Value.slice _ xs.length _]; rw [hxl], .inr ⟨b, off, rs, rfl, hok, ?_⟩⟩
          have hfl := flat_length hok.length
          rw [hxl] at hfl
          have hpos : 0 < len * R.size α := Nat.mul_pos (by omega) hp
          refine ⟨?_, fun j hj => hcell j (by omega)⟩
          have h1 := hcell (len * R.size α - 1) (by omega)
          rw [List.getElem?_eq_getElem (by omega)] at h1
          unfold World.cell? at h1
          unfold mAll
          split at h1
          · rename_i c E0 fz hb
            simp only at hb
            rw [hb]
            simp only [Option.isSome_none, Bool.false_eq_true, if_false] at h1
            have := (Array.getElem?_eq_some_iff.1 h1).1
            simp only
            rw [hfl]
            omega
          · cases h1
      · cases ht⟩
end Go.Cw
namespace Go.Cw
open Go Go.RowKit
/-- What the reader says of a struct's fields. -/
def RdS {H : Type} (enc : TypeId × Value → H) (P : Program) (w : World) (sp : Nat → Bool) (hd : Bool) (k : Nat) (fs : Array Field) (cs : List Value) : Prop :=
  ∀ (i : Nat) (f : Field), fs[i]? = some f → ∃ y, DataW.trod enc P w 0 sp hd k f.type ((cs.drop f.offset).take (P.cellsOf f.type)) = some y

theorem rd_str {P : Program} {T n : Nat} {fs : Array Field} {H : Type} {enc : TypeId × Value → H} {w : World} {sp : Nat → Bool} {hd : Bool} {fuel : Nat} {cs : List Value} {d : DataW H} {ps : List MemPlace} (h : P.underlying T = some (.struct fs)) (hc : P.cellsOf T = n)
    (ht : DataW.trod enc P w 0 sp hd fuel T cs = some (d, ps)) : cs.length = n ∧ ∃ k, RdS enc P w sp hd k fs cs := by
  cases fuel with
  | zero => simp [DataW.trod] at ht
  | succ k =>
    unfold DataW.trod at ht
    simp only [h, hc] at ht
    split at ht
    · rename_i hlen
      obtain ⟨ys, hys, _⟩ := Option.map_eq_some_iff.1 ht
      obtain ⟨_, hat⟩ := mapM_inv hys
      refine ⟨hlen, k, fun i f hf => ?_⟩
      obtain ⟨h2, h3⟩ := hat i f (by rw [Array.getElem?_toList]; exact hf)
      rw [List.getElem?_eq_getElem h3] at h2
      exact ⟨_, h2⟩
    · cases ht

theorem rd_fld {β : Type} [R β] {P : Program} {H : Type} {enc : TypeId × Value → H} {w : World} {sp : Nat → Bool} {hd : Bool} {k : Nat} {fs : Array Field} {cs : List Value} (h : RdS enc P w sp hd k fs cs) (i : Nat) {f : Field} (hf : fs[i]? = some f) {E off s : Nat} [he : Rd P E β] (hE : f.type = E := by rfl) (ho : f.offset = off := by rfl) (hs : P.cellsOf E = s) :
    ∃ (x : β) (r : R.Raw β), (cs.drop off).take s = R.cells x r ∧ R.ok (mAll w) w x r := by
  obtain ⟨y, hy⟩ := h i f hf
  subst hE; subst ho; subst hs
  exact he.rd enc w sp hd k _ _ _ hy

theorem seg_cut (cs : List Value) (o s : Nat) (b c : List Value) (h1 : (cs.drop o).take s = b) (h2 : cs.drop (o + s) = c) : cs.drop o = b ++ c := by
  rw [← h1, ← h2, ← List.drop_drop, List.take_append_drop]
end Go.Cw
