/- Maps: of the call's own, and such as do not turn any more. Conditions: none; no program is named. -/
import Derived.Test.YtcckclbpajegnaaCwI
import Derived.MapKept
set_option linter.all false
set_option linter.unusedVariables false
set_option linter.unusedSimpArgs false
namespace Go.Cw
open Go Go.RowKit

/-- A key as a value. -/
def kv {κ : Type} [R κ] (k : κ) : Value := V k R.dflt

/-- The type of a map's keys. -/
class Ky (P : Program) (K : TypeId) (κ : Type) [R κ] [DecidableEq κ] : Prop where
  sub : ∀ r s : R.Raw κ, r = s
  ck : ∀ e w (k : κ), (Instr.checkKey e 10000 K (kv k)).run P w = .ok () w
  same : ∀ w (k : κ) (es : List MapEntry) (l : List κ), es.map (·.key) = l.map kv → (Instr.findKey K (kv k) es).run P w = .ok ((l.findIdx? (fun x => decide (k = x))).bind fun i => es[i]?.map fun e => (i, e.val)) w
  stay : ∀ w (k : κ), (Instr.keyThatStays (kv k) (kv k)).run P w = .ok (kv k) w

theorem Ky.kv {P : Program} {K : TypeId} {κ : Type} [R κ] [DecidableEq κ] [hk : Ky P K κ] (k : κ) (r : R.Raw κ) : V k r = kv k := by rw [hk.sub r R.dflt]; rfl

/-! ### Maps as lists -/
section data
variable {κ β : Type} [DecidableEq κ]
def mfind (l : List (κ × β)) (k : κ) : Option Nat := l.findIdx? (fun e => decide (k = e.1))
def mget (l : List (κ × β)) (k : κ) : Option β := (mfind l k).bind fun i => (l[i]?).map (·.2)
def mput (l : List (κ × β)) (k : κ) (v : β) : List (κ × β) := match mfind l k with
  | some i => l.set i (k, v)
  | none => l ++ [(k, v)]
def mdel (l : List (κ × β)) (k : κ) : List (κ × β) := match mfind l k with
  | some i => l.eraseIdx i
  | none => l
def rput {ρ : Type} (l : List (κ × β)) (rs : List ρ) (k : κ) (r : ρ) : List ρ := match mfind l k with
  | some i => rs.set i r
  | none => rs ++ [r]
def rdel {ρ : Type} (l : List (κ × β)) (rs : List ρ) (k : κ) : List ρ := match mfind l k with
  | some i => rs.eraseIdx i
  | none => rs
end data

def Ents {κ β : Type} [R κ] [R β] : List MapEntry → List (κ × β) → List (R.Raw β) → Prop
  | [], [], [] => True
  | e :: es, x :: l, r :: rs => e.key = kv x.1 ∧ e.val = V x.2 r ∧ Ents es l rs
  | _, _, _ => False

def okm {κ β : Type} [R β] (m : WM) (w : World) : List (κ × β) → List (R.Raw β) → Prop
  | [], [] => True
  | x :: l, r :: rs => R.ok m w x.2 r ∧ okm m w l rs
  | _, _ => False

section maps
variable {κ β : Type} [R κ] [R β]

theorem okm.stable {m w m' w'} (he : Ext m w m' w') : ∀ {l : List (κ × β)} {rs : List (R.Raw β)}, okm m w l rs → okm m' w' l rs
  | [], [], _ => trivial
  | _ :: _, _ :: _, h => ⟨R.stable he h.1, okm.stable he h.2⟩
  | [], _ :: _, h => h.elim
  | _ :: _, [], h => h.elim
theorem okm.get {m w} : ∀ {l : List (κ × β)} {rs : List (R.Raw β)}, okm m w l rs → ∀ {i : Nat} {x : κ × β}, l[i]? = some x → ∃ r, rs[i]? = some r ∧ R.ok m w x.2 r
  | [], _, _, i, x, hx => by simp at hx
  | y :: l, r :: rs, h, 0, x, hx => by simp at hx; subst hx; exact ⟨r, rfl, h.1⟩
  | y :: l, r :: rs, h, i + 1, x, hx => by obtain ⟨s, h1, h2⟩ := okm.get h.2 (i := i) (by simpa using hx); exact ⟨s, by simpa using h1, h2⟩
  | _ :: _, [], h, _, _, _ => h.elim
theorem okm.set {m w} {k : κ} {v : β} {s : R.Raw β} (hv : R.ok m w v s) : ∀ {l : List (κ × β)} {rs : List (R.Raw β)} (i : Nat), okm m w l rs → okm m w (l.set i (k, v)) (rs.set i s)
  | [], [], _, _ => trivial
  | _ :: _, _ :: _, 0, h => ⟨hv, h.2⟩
  | _ :: _, _ :: _, i + 1, h => ⟨h.1, okm.set hv i h.2⟩
  | [], _ :: _, _, h => h.elim
  | _ :: _, [], _, h => h.elim
theorem okm.push {m w} {k : κ} {v : β} {s : R.Raw β} (hv : R.ok m w v s) : ∀ {l : List (κ × β)} {rs : List (R.Raw β)}, okm m w l rs → okm m w (l ++ [(k, v)]) (rs ++ [s])
  | [], [], _ => ⟨hv, trivial⟩
  | _ :: _, _ :: _, h => ⟨h.1, okm.push hv h.2⟩
  | [], _ :: _, h => h.elim
  | _ :: _, [], h => h.elim
theorem okm.erase {m w} : ∀ {l : List (κ × β)} {rs : List (R.Raw β)} (i : Nat), okm m w l rs → okm m w (l.eraseIdx i) (rs.eraseIdx i)
  | [], [], _, _ => trivial
  | _ :: _, _ :: _, 0, h => h.2
  | _ :: _, _ :: _, i + 1, h => ⟨h.1, okm.erase i h.2⟩
  | [], _ :: _, _, h => h.elim
  | _ :: _, [], _, h => h.elim
theorem okm.put [DecidableEq κ] {m w} {k : κ} {v : β} {s : R.Raw β} (hv : R.ok m w v s) {l : List (κ × β)} {rs : List (R.Raw β)} (h : okm m w l rs) : okm m w (mput l k v) (rput l rs k s) := by
  unfold mput rput
  cases mfind l k with
  | some i => exact h.set hv i
  | none => exact h.push hv
theorem okm.del [DecidableEq κ] {m w} {k : κ} {l : List (κ × β)} {rs : List (R.Raw β)} (h : okm m w l rs) : okm m w (mdel l k) (rdel l rs k) := by
  unfold mdel rdel
  cases mfind l k with
  | some i => exact h.erase i
  | none => exact h

theorem Ents.length : ∀ {es : List MapEntry} {l : List (κ × β)} {rs : List (R.Raw β)}, Ents es l rs → es.length = l.length
  | [], [], [], _ => rfl
  | _ :: _, _ :: _, _ :: _, h => by simp [Ents.length h.2.2]
  | [], [], _ :: _, h => h.elim
  | [], _ :: _, _, h => h.elim
  | _ :: _, [], _, h => h.elim
  | _ :: _, _ :: _, [], h => h.elim
theorem Ents.keys : ∀ {es : List MapEntry} {l : List (κ × β)} {rs : List (R.Raw β)}, Ents es l rs → es.map (·.key) = (l.map (·.1)).map kv
  | [], [], [], _ => rfl
  | _ :: _, _ :: _, _ :: _, h => by simp [h.1, Ents.keys h.2.2]
  | [], [], _ :: _, h => h.elim
  | [], _ :: _, _, h => h.elim
  | _ :: _, [], _, h => h.elim
  | _ :: _, _ :: _, [], h => h.elim
theorem Ents.at_ : ∀ {es : List MapEntry} {l : List (κ × β)} {rs : List (R.Raw β)}, Ents es l rs → ∀ {i : Nat} {x : κ × β}, l[i]? = some x → ∃ e r, es[i]? = some e ∧ rs[i]? = some r ∧ e.key = kv x.1 ∧ e.val = V x.2 r
  | [], [], [], _, i, x, hx => by simp at hx
  | e :: _, y :: _, r :: _, h, 0, x, hx => by simp at hx; subst hx; exact ⟨e, r, rfl, rfl, h.1, h.2.1⟩
  | _ :: _, _ :: _, _ :: _, h, i + 1, x, hx => by obtain ⟨e, r, h1, h2, h3⟩ := Ents.at_ h.2.2 (i := i) (by simpa using hx); exact ⟨e, r, by simpa using h1, by simpa using h2, h3⟩
  | [], [], _ :: _, h, _, _, _ => h.elim
  | [], _ :: _, _, h, _, _, _ => h.elim
  | _ :: _, [], _, h, _, _, _ => h.elim
  | _ :: _, _ :: _, [], h, _, _, _ => h.elim
theorem Ents.set {k : κ} {v : β} {s : R.Raw β} (n : Nat) : ∀ {es : List MapEntry} {l : List (κ × β)} {rs : List (R.Raw β)} (i : Nat), Ents es l rs → Ents (es.modify i fun e => { e with key := kv k, val := V v s }) (l.set i (k, v)) (rs.set i s)
  | [], [], [], _, _ => by simp [Ents]
  | _ :: _, _ :: _, _ :: _, 0, h => ⟨rfl, rfl, h.2.2⟩
  | _ :: _, _ :: _, _ :: _, i + 1, h => ⟨h.1, h.2.1, Ents.set n i h.2.2⟩
  | [], [], _ :: _, _, h => h.elim
  | [], _ :: _, _, _, h => h.elim
  | _ :: _, [], _, _, h => h.elim
  | _ :: _, _ :: _, [], _, h => h.elim
theorem Ents.push {k : κ} {v : β} {s : R.Raw β} (n : Nat) : ∀ {es : List MapEntry} {l : List (κ × β)} {rs : List (R.Raw β)}, Ents es l rs → Ents (es ++ [{ key := kv k, val := V v s, born := n }]) (l ++ [(k, v)]) (rs ++ [s])
  | [], [], [], _ => ⟨rfl, rfl, trivial⟩
  | _ :: _, _ :: _, _ :: _, h => ⟨h.1, h.2.1, Ents.push n h.2.2⟩
  | [], [], _ :: _, h => h.elim
  | [], _ :: _, _, h => h.elim
  | _ :: _, [], _, h => h.elim
  | _ :: _, _ :: _, [], h => h.elim
theorem Ents.erase : ∀ {es : List MapEntry} {l : List (κ × β)} {rs : List (R.Raw β)} (i : Nat), Ents es l rs → Ents (es.eraseIdx i) (l.eraseIdx i) (rs.eraseIdx i)
  | [], [], [], _, _ => trivial
  | _ :: _, _ :: _, _ :: _, 0, h => h.2.2
  | _ :: _, _ :: _, _ :: _, i + 1, h => ⟨h.1, h.2.1, Ents.erase i h.2.2⟩
  | [], [], _ :: _, _, h => h.elim
  | [], _ :: _, _, _, h => h.elim
  | _ :: _, [], _, _, h => h.elim
  | _ :: _, _ :: _, [], _, h => h.elim

variable [DecidableEq κ]

theorem mfind_lt {l : List (κ × β)} {k : κ} {i : Nat} (h : mfind l k = some i) : ∃ x, l[i]? = some x ∧ x.1 = k := by
  unfold mfind at h
  obtain ⟨hlt, hx, _⟩ := List.findIdx?_eq_some_iff_getElem.1 h
  exact ⟨l[i], List.getElem?_eq_getElem hlt, by simpa [eq_comm] using hx⟩

theorem mfind_keys (l : List (κ × β)) (k : κ) : (l.map (·.1)).findIdx? (fun x => decide (k = x)) = mfind l k := by
  unfold mfind
  rw [List.findIdx?_map]
  rfl

theorem run_find {P : Program} {K : TypeId} [hk : Ky P K κ] {w : World} {es : List MapEntry} {l : List (κ × β)} {rs : List (R.Raw β)} (h : Ents es l rs) (k : κ) :
    (mfind l k = none ∧ (Instr.findKey K (kv k) es).run P w = .ok none w) ∨ ∃ i x r e, mfind l k = some i ∧ l[i]? = some x ∧ x.1 = k ∧ rs[i]? = some r ∧ es[i]? = some e ∧ e.key = kv k ∧ (Instr.findKey K (kv k) es).run P w = .ok (some (i, V x.2 r)) w := by
  have h1 := hk.same w k es _ h.keys
  rw [mfind_keys] at h1
  cases hf : mfind l k with
  | none => exact .inl ⟨rfl, by rw [h1, hf]; rfl⟩
  | some i =>
    obtain ⟨x, hx, hxk⟩ := mfind_lt hf
    obtain ⟨e, r, he, hr, hek, hev⟩ := h.at_ hx
    exact .inr ⟨i, x, r, e, rfl, hx, hxk, hr, he, by rw [hek, hxk], by rw [h1, hf]; simp [he, hev]⟩
end maps

/-! ### A map that does not turn -/

structure Mp (κ β : Type) where
  l : List (κ × β)
  deriving DecidableEq, Inhabited

instance instMp {κ β : Type} [R κ] [R β] : R (Mp κ β) where
  Raw := Option Nat × List (R.Raw β)
  dflt := (none, [])
  agg := false
  size := 1
  cells _ r := [.map r.1]
  ok m w x r := (r.1 = none ∧ x.l = []) ∨ ∃ b es c, r.1 = some b ∧ w.heap[b]? = some (.map es c) ∧ 0 < m b ∧ Ents es.toList x.l r.2 ∧ okm m w x.l r.2
  len _ _ := rfl
  one _ := rfl
  ones x r v hv := by simp at hv; rw [hv]; rfl
  stable he h := h.imp id fun ⟨b, es, c, h1, h2, h3, h4, h5⟩ => ⟨b, es, c, h1, he.obj b es c h3 h2, Nat.lt_of_lt_of_le h3 (he.mono b), h4, h5.stable he⟩

/-- A map of the call's own. -/
def mo {κ β : Type} [R κ] [R β] (l : List (κ × β)) (rs : List (R.Raw β)) (b : Nat) : Own :=
  ⟨(· = b), fun m w => (∃ es c, w.heap[b]? = some (.map es c) ∧ Ents es.toList l rs) ∧ m b = 0, fun h ⟨⟨es, c, h1, h2⟩, h3⟩ => ⟨⟨es, c, (h _ rfl).1.trans h1, h2⟩, (h _ rfl).2.trans h3⟩⟩
/-- What its values are. -/
def Mok {κ β : Type} [R κ] [R β] (l : List (κ × β)) (rs : List (R.Raw β)) : Fact := ⟨fun m w => okm m w l rs, fun he h => okm.stable he h⟩

/-- The types of a map type. -/
class MapT (P : Program) (T : TypeId) (K E : outParam TypeId) : Prop where
  und : P.underlying T = some (.map K E)

def mval {κ β : Type} [DecidableEq κ] (l : List (κ × β)) (k : κ) (z : β) : β := (mget l k).getD z

section ops
variable {cx : Cx} {X : Nat → Prop} {env : Env} {fs : List Fact} {os : List Own} {g : Bool} {T : TypeId}
variable {κ β : Type} [R κ] [R β] [DecidableEq κ]

def lookV {β : Type} [R β] (ok : Bool) (v : β) (r : R.Raw β) (is : Bool) : Value := bif ok then .tuple #[V v r, .bool is] else V v r

theorem run_lookup {P : Program} {w : World} {m : WM} {t K E : TypeId} [hm : MapT P t K E] [hk : Ky P K κ] {z : β} {zr : R.Raw β} [hz : Zr P E z zr] {es : Array MapEntry} {l : List (κ × β)} {rs : List (R.Raw β)} (he : Ents es.toList l rs) (ho : okm m w l rs) (hzo : R.ok m w z zr) (k : κ) (c : Bool) :
    ∃ r, R.ok m w (mval l k z) r ∧ ∀ b w' cl, w'.heap[b]? = some (.map es cl) → (Instr.lookup t (.map (some b)) (kv k) c).run P w' = .ok (lookV c (mval l k z) r (mget l k).isSome) w' := by
  have hf := fun w' => run_find (hk := hk) (w := w') he k
  cases hfi : mfind l k with
  | none =>
    refine ⟨zr, by simp [mval, mget, hfi]; exact hzo, fun b w' cl hb => ?_⟩
    rcases hf w' with ⟨_, h1⟩ | ⟨i, x, r, e, h0, _⟩
    · simp only [Instr.lookup, Sem.run_bind, run_underlying hm.und, Result.andThen_ok, MapKept.run_getObj_map hb, Sem.run_pure, hk.ck, h1, hz.zero]
      cases c <;> simp [lookV, mval, mget, hfi]
    · rw [hfi] at h0; cases h0
  | some i =>
    obtain ⟨x, hx, hxk⟩ := mfind_lt hfi
    obtain ⟨r, hr, hro⟩ := ho.get hx
    refine ⟨r, by simp [mval, mget, hfi, hx]; exact hro, fun b w' cl hb => ?_⟩
    rcases hf w' with ⟨h0, _⟩ | ⟨i', x', r', e, h0, h1, _, h3, _, _, h6⟩
    · rw [hfi] at h0; cases h0
    · rw [hfi] at h0; obtain rfl := Option.some.inj h0
      rw [hx] at h1; obtain rfl := Option.some.inj h1
      rw [hr] at h3; obtain rfl := Option.some.inj h3
      simp only [Instr.lookup, Sem.run_bind, run_underlying hm.und, Result.andThen_ok, MapKept.run_getObj_map hb, Sem.run_pure, hk.ck, h6]
      cases c <;> simp [lookV, mval, mget, hfi, hx]

/-- A lookup in a map of the call's own. -/
theorem QX.lookO {x y : Operand} {gx gy : Bool} {t K E b : TypeId} {l : List (κ × β)} {rs : List (R.Raw β)} {k : κ} {kr : R.Raw κ} {z : β} {zr : R.Raw β} {c : Bool} [hm : MapT cx.P t K E] [hk : Ky cx.P K κ] [hz : Zr cx.P E z zr] (i j : Nat)
    (hx : ev env x = some (gx, .map (some b))) (hy : ev env y = some (gy, V k kr)) (hi : os[i]? = some (mo l rs b)) (hj : fs[j]? = some (Mok l rs)) (hzo : ∀ m w, R.ok m w z zr) (hX : ∀ a w m, St cx env fs os a w m → ¬ X b := by exact fun _ _ _ _ h => h)
    (h1 : g = true → gx = true := by first | exact fun _ => rfl | exact fun h => h | exact and1) (h2 : g = true → gy = true := by first | exact fun _ => rfl | exact fun h => h | exact and1) :
    QX cx X env fs os g (.lookup t x y c) T (fun r => lookV c (mval l k z) r (mget l k).isSome) (fun r => Fk g (mval l k z) r) := by
  intro A w m hs
  obtain ⟨⟨es, cl, hb, hen⟩, hm0⟩ := hs.own hi
  have hok : okm m w l rs := hs.fact hj
  obtain ⟨r, hr, hrun⟩ := run_lookup (hm := hm) (hk := hk) (hz := hz) (z := z) (zr := zr) hen hok (hzo m w) k c
  refine ⟨r, fun hg w' hw' d pos af gd => qe (s := Instr.lookup t (A.eval x) (A.eval y) c) rfl ?_, fun _ => hr⟩
  rw [hs.ev hx (h1 hg), hs.ev hy (h2 hg), Ky.kv (P := cx.P) (K := K) k kr]
  exact hrun b w' cl ((hw'.block b (hs.ids _ (List.mem_of_getElem? hi) b rfl).2 (hX A w m hs)).trans hb)

/-- A lookup in a map that does not turn. -/
theorem QX.lookF {x y : Operand} {gx gy gp : Bool} {t K E : TypeId} {mp : Mp κ β} {mr : Option Nat × List (R.Raw β)} {k : κ} {kr : R.Raw κ} {z : β} {zr : R.Raw β} {c : Bool} [hm : MapT cx.P t K E] [hk : Ky cx.P K κ] [hz : Zr cx.P E z zr] (j : Nat)
    (hx : ev env x = some (gx, V mp mr)) (hy : ev env y = some (gy, V k kr)) (hj : fs[j]? = some (Fk gp mp mr)) (hzo : ∀ m w, R.ok m w z zr) (hX : ∀ a w m, St cx env fs os a w m → ∀ b, X b → m b = 0 := by exact fun _ _ _ _ _ h => h.elim)
    (h1 : g = true → gx = true := by first | exact fun _ => rfl | exact fun h => h | exact and1) (h2 : g = true → gy = true := by first | exact fun _ => rfl | exact fun h => h | exact and1) (h3 : g = true → gp = true := by first | exact fun _ => rfl | exact fun h => h | exact and1) :
    QX cx X env fs os g (.lookup t x y c) T (fun r => lookV c (mval mp.l k z) r (mget mp.l k).isSome) (fun r => Fk g (mval mp.l k z) r) := by
  intro A w m hs
  cases hg : g with
  | false => exact ⟨R.dflt, (fun h => by cases h), (fun h => by cases h)⟩
  | true =>
    rcases hs.fact hj (h3 hg) with ⟨hn, hl⟩ | ⟨b, es, cl, hb0, hb, hpos, hen, hok⟩
    · refine ⟨zr, fun _ w' hw' d pos af gd => qe (s := Instr.lookup t (A.eval x) (A.eval y) c) rfl ?_, fun _ => ?_⟩
      · rw [hs.ev hx (h1 hg), hs.ev hy (h2 hg), Ky.kv (P := cx.P) (K := K) k kr, show (V mp mr) = .map mr.1 from rfl, hn]
        have h0 := hk.same w' k [] [] rfl
        simp only [List.findIdx?_nil, Option.bind_none] at h0
        simp only [Instr.lookup, Sem.run_bind, run_underlying hm.und, Result.andThen_ok, Sem.run_pure, hk.ck, h0, hz.zero, hl]
        cases c <;> simp [lookV, mval, mget, mfind]
      · rw [hl]
        simp only [mval, mget, mfind, List.findIdx?_nil, Option.bind_none, Option.getD_none]
        exact hzo m w
    · obtain ⟨r, hr, hrun⟩ := run_lookup (hm := hm) (hk := hk) (hz := hz) (z := z) (zr := zr) hen hok (hzo m w) k c
      refine ⟨r, fun _ w' hw' d pos af gd => qe (s := Instr.lookup t (A.eval x) (A.eval y) c) rfl ?_, fun _ => hr⟩
      rw [hs.ev hx (h1 hg), hs.ev hy (h2 hg), Ky.kv (P := cx.P) (K := K) k kr, show (V mp mr) = .map mr.1 from rfl, hb0]
      have hlt := (Array.getElem?_eq_some_iff.1 hb).1
      refine hrun b w' cl ((hw'.block b hlt fun e => ?_).trans hb)
      rw [hX A w m hs b e] at hpos
      exact absurd hpos (Nat.not_lt_zero _)

/-- How many there are. -/
theorem QE.lenO {x : Operand} {gx : Bool} {t K E b : TypeId} {l : List (κ × β)} {rs : List (R.Raw β)} [hm : MapT cx.P t K E] (i : Nat) (hx : ev env x = some (gx, .map (some b))) (hi : os[i]? = some (mo l rs b)) (hX : ∀ a w m, St cx env fs os a w m → ¬ X b := by exact fun _ _ _ _ h => h)
    (h1 : g = true → gx = true := by first | exact fun _ => rfl | exact fun h => h | exact and1) :
    QE cx X env fs os g (.call ⟨.builtin .len, #[x], #[t]⟩) T (.int .i64 l.length) :=
  fun A w m hs hg w' hw' _ _ _ _ => by
    obtain ⟨⟨es, cl, hb, hen⟩, hm0⟩ := hs.own hi
    have hb' := (hw'.block b (hs.ids _ (List.mem_of_getElem? hi) b rfl).2 (hX A w m hs)).trans hb
    have hlen : es.size = l.length := by rw [← Array.length_toList, hen.length]
    simp only [execOp, resolve, invoke, builtin, Sem.run_bind, Builtin.len_]
    simp [hs.ev hx (h1 hg), run_underlying hm.und, MapKept.run_getObj_map hb', goInt, hlen]

/-- make(map) -/
theorem LX.mkMap {d : Tmp} {t : TypeId} (hd : Nat.blt d cx.n = true := by rfl) :
    LX cx env fs os true (fun _ => False) (some d) (.makeMap t none) T (fun b : Nat => (d, true, .map (some b)) :: env) (fun _ => Mok ([] : List (κ × β)) [] :: fs) (fun b => mo ([] : List (κ × β)) [] b :: os) := by
  intro a w m hs Q K hK pos af gd
  rw [if_pos rfl]
  unfold Oper.wp
  have hrun : (execOp a.eval ⟨some d, .makeMap t none, T, pos, af, gd⟩).run cx.P w = .ok (.value (.map (some w.heap.size))) { w with heap := w.heap.push (.map #[] 0) } := by
    simp [execOp, Instr.makeMap]
  rw [hrun]
  have h1 := below_push w (.map #[] 0)
  refine hK w.heap.size _ _ m ?_ (.of h1)
  refine St.addFact ?_ trivial
  refine (hs.put hd rfl).addOwn h1 (fun _ _ => rfl) (m_same hs.fresh h1.size) (fun b hb => ?_) ⟨⟨#[], 0, by simp, trivial⟩, hs.fresh _ (Nat.le_refl _)⟩
  cases hb
  exact ⟨Nat.le_refl _, by simp⟩

theorem setObj_map_world {w : World} {b : Nat} {es es' : Array MapEntry} {c c' : Nat} (hb : w.heap[b]? = some (.map es c)) : ({ w with heap := w.heap.setIfInBounds b (.map es' c') } : World).heap[b]? = some (.map es' c') ∧ ∀ b', b' ≠ b → ({ w with heap := w.heap.setIfInBounds b (.map es' c') } : World).heap[b']? = w.heap[b']? := by
  have := MapKept.heap_set (o' := .map es' c') hb
  exact ⟨this.1, fun b' h => this.2 b' h⟩

theorem St.mapTurn {a : Act} {w : World} {m : WM} (hs : St cx env fs os a w m) {i b : Nat} {l l' : List (κ × β)} {rs rs' : List (R.Raw β)} (hi : os[i]? = some (mo l rs b)) {es es' : Array MapEntry} {c c' : Nat} (hb : w.heap[b]? = some (.map es c)) (he : Ents es'.toList l' rs') :
    St cx env fs (os.set i (mo l' rs' b)) a { w with heap := w.heap.setIfInBounds b (.map es' c') } m ∧ BelowX (· = b) w.heap.size w { w with heap := w.heap.setIfInBounds b (.map es' c') } := by
  obtain ⟨h1, h2⟩ := setObj_map_world (es' := es') (c' := c') hb
  have hm0 := (hs.own hi).2
  refine ⟨hs.turn hi rfl (fun b' hb' => ⟨h2 b' hb', rfl⟩) (by simp) rfl rfl rfl ⟨fun b' i' hlt => ?_, fun _ => Nat.le_refl _, fun b' es0 c0 hlt hh => ?_⟩ ⟨⟨es', c', h1, he⟩, hm0⟩, ⟨rfl, rfl, rfl, by simp, fun k _ hk => h2 k hk⟩⟩
  · have hne : b' ≠ b := fun e => by rw [e, hm0] at hlt; exact absurd hlt (Nat.not_lt_zero _)
    exact World.cell?_of_block (w := w) (h2 b' hne)
  · have hne : b' ≠ b := fun e => by rw [e, hm0] at hlt; exact absurd hlt (Nat.not_lt_zero _)
    exact (h2 b' hne).trans hh

theorem run_mapUpdate {P : Program} {w : World} {t K E b c : Nat} [hm : MapT P t K E] [hk : Ky P K κ] {es : Array MapEntry} {l : List (κ × β)} {rs : List (R.Raw β)} (hb : w.heap[b]? = some (.map es c)) (he : Ents es.toList l rs) (k : κ) (v : β) (s : R.Raw β) :
    ∃ es' c', (Instr.mapUpdate t (.map (some b)) (kv k) (V v s)).run P w = .ok () { w with heap := w.heap.setIfInBounds b (.map es' c') } ∧ Ents es'.toList (mput l k v) (rput l rs k s) := by
  rcases run_find (hk := hk) (w := w) he k with ⟨h0, h1⟩ | ⟨i, x, r, e, h0, hx, hxk, hr, hei, hek, h1⟩
  · refine ⟨es.push { key := kv k, val := V v s, born := c }, c + 1, ?_, ?_⟩
    · simp only [Instr.mapUpdate, Sem.run_bind, run_underlying hm.und, Result.andThen_ok, MapKept.run_getObj_map hb, hk.ck, h1, MapKept.run_setObj_map _ hb]
    · simp only [mput, rput, h0, Array.toList_push]
      exact he.push c
  · refine ⟨es.modify i fun e => { e with key := kv k, val := V v s }, c, ?_, ?_⟩
    · have : (es[i]?.map (·.key)).getD (kv k) = kv k := by
        rw [← Array.getElem?_toList, hei]
        simp [hek]
      simp only [Instr.mapUpdate, Sem.run_bind, run_underlying hm.und, Result.andThen_ok, MapKept.run_getObj_map hb, hk.ck, h1, this, hk.stay, MapKept.run_setObj_map _ hb]
    · simp only [mput, rput, h0, Array.toList_modify]
      exact he.set c i

/-- m[k] = v -/
theorem LX.mput {x y v : Operand} {t K E b : TypeId} {l : List (κ × β)} {rs : List (R.Raw β)} {k : κ} {kr : R.Raw κ} {z : β} {s : R.Raw β} [hm : MapT cx.P t K E] [hk : Ky cx.P K κ] (i j : Nat)
    (hx : ev env x = some (true, .map (some b))) (hy : ev env y = some (true, V k kr)) (hv : ev env v = some (true, V z s)) (hi : os[i]? = some (mo l rs b)) (hj : fs[j]? = some (Mok l rs)) (hok : ∀ m w, (∀ (i : Nat) {x : Fact}, fs[i]? = some x → x.p m w) → R.ok m w z s) (op : Op) (hop : op = .mapUpdate t x y v ∨ op = .insert t x y v) :
    LX cx env fs os true (· = b) none op T (fun _ : Unit => env) (fun _ => Mok (Cw.mput l k z) (rput l rs k s) :: fs) (fun _ => os.set i (mo (Cw.mput l k z) (rput l rs k s) b)) := by
  intro a w m hs Q K' hK pos af gd
  rw [if_pos rfl]
  unfold Oper.wp
  obtain ⟨⟨es, c, hb, hen⟩, hm0⟩ := hs.own hi
  obtain ⟨es', c', hrun, hen'⟩ := run_mapUpdate (hm := hm) (hk := hk) hb hen k z s
  have hex : (execOp a.eval ⟨none, op, T, pos, af, gd⟩).run cx.P w = .ok .skip { w with heap := w.heap.setIfInBounds b (.map es' c') } := by
    rcases hop with rfl | rfl <;>
    · simp only [execOp, hs.ev hx rfl, hs.ev hy rfl, hs.ev hv rfl, Ky.kv (P := cx.P) (K := K) k kr, Sem.run_bind, hrun, Result.andThen_ok]
      rfl
  rw [hex]
  obtain ⟨h1, h2⟩ := hs.mapTurn hi hb hen' (c' := c')
  refine hK () _ _ m (h1.addFact ?_) h2
  exact (h1.facts _ (List.mem_of_getElem? hj) : okm _ _ l rs).put (hok _ _ fun i _ hx => h1.fact hx)

/-- delete -/
theorem LX.mdel {x y : Operand} {t t2 K E b : TypeId} {l : List (κ × β)} {rs : List (R.Raw β)} {k : κ} {kr : R.Raw κ} [hm : MapT cx.P t K E] [hk : Ky cx.P K κ] {d : Option Tmp} (i j : Nat)
    (hx : ev env x = some (true, .map (some b))) (hy : ev env y = some (true, V k kr)) (hi : os[i]? = some (mo l rs b)) (hj : fs[j]? = some (Mok l rs)) (hd : d = none := by rfl) :
    LX cx env fs os true (· = b) d (.call ⟨.builtin .delete, #[x, y], #[t, t2]⟩) T (fun _ : Unit => env) (fun _ => Mok (Cw.mdel l k) (rdel l rs k) :: fs) (fun _ => os.set i (mo (Cw.mdel l k) (rdel l rs k) b)) := by
  subst hd
  intro a w m hs Q K' hK pos af gd
  rw [if_pos rfl]
  unfold Oper.wp
  obtain ⟨⟨es, c, hb, hen⟩, hm0⟩ := hs.own hi
  have : ∃ es' c', (Builtin.delete_ #[t, t2] T #[.map (some b), kv k]).run cx.P w = .ok (.tuple #[]) { w with heap := w.heap.setIfInBounds b (.map es' c') } ∧ Ents es'.toList (Cw.mdel l k) (rdel l rs k) := by
    rcases run_find (hk := hk) (w := w) hen k with ⟨h0, h1⟩ | ⟨i, x, r, e, h0, hx, hxk, hr, hei, hek, h1⟩
    · refine ⟨es, c, ?_, by simp only [Cw.mdel, rdel, h0]; exact hen⟩
      simp only [Builtin.delete_, Sem.run_bind, Sem.run_pure, run_underlying hm.und, Result.andThen_ok, MapKept.run_getObj_map hb, hk.ck, h1, MapKept.run_setObj_map _ hb, List.getElem?_toArray, List.getElem?_cons_zero, List.getElem?_cons_succ]
    · refine ⟨es.eraseIdxIfInBounds i, c, ?_, by simp only [Cw.mdel, rdel, h0]; rw [Array.toList_eraseIdxIfInBounds]; exact hen.erase i⟩
      simp only [Builtin.delete_, Sem.run_bind, Sem.run_pure, run_underlying hm.und, Result.andThen_ok, MapKept.run_getObj_map hb, hk.ck, h1, MapKept.run_setObj_map _ hb, List.getElem?_toArray, List.getElem?_cons_zero, List.getElem?_cons_succ]
  obtain ⟨es', c', hrun, hen'⟩ := this
  have hex : (execOp a.eval ⟨none, .call ⟨.builtin .delete, #[x, y], #[t, t2]⟩, T, pos, af, gd⟩).run cx.P w = .ok (.value (.tuple #[])) { w with heap := w.heap.setIfInBounds b (.map es' c') } := by
    simp only [execOp, resolve, invoke, builtin, Sem.run_bind, Sem.run_pure, Result.andThen_ok, List.map_toArray, List.map_cons, List.map_nil, hs.ev hx rfl, hs.ev hy rfl, Ky.kv (P := cx.P) (K := K) k kr, hrun]
  rw [hex]
  obtain ⟨h1, h2⟩ := hs.mapTurn hi hb hen' (c' := c')
  refine hK () _ _ m ((St.put_none h1 _).addFact ?_) h2
  exact (h1.facts _ (List.mem_of_getElem? hj) : okm _ _ l rs).del
end ops
end Go.Cw
