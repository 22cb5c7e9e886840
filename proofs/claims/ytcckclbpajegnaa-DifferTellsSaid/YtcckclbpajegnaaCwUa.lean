/- Plain laws of loops over lists, and of tests. Conditions: none; no program is named. -/
import Derived.Test.YtcckclbpajegnaaCwU
import Derived.Test.YtcckclbpajegnaaCwJ
set_option linter.all false
set_option linter.unusedVariables false
namespace Go.Cw
open Go

theorem lss_t {i n : Nat} (h : i < n) : cmpI .lss (i : Int) (n : Int) = true := by simp [cmpI]; omega
theorem lss_f {i n : Nat} (h : n ≤ i) : cmpI .lss (i : Int) (n : Int) = false := by simp [cmpI]; omega
theorem inb {i n : Nat} (h : i < n) : (0 : Int) ≤ (i : Int) ∧ (i : Int) < (n : Int) := by omega
theorem lat_get {α : Type} [Inhabited α] {xs : List α} {i : Nat} (h : i < xs.length) : lat xs (i : Int) = xs[i] := by simp [lat, List.getD, h]
theorem lat_drop {α : Type} [Inhabited α] {xs l : List α} {x : α} {i : Nat} (h : xs.drop i = x :: l) : lat xs (i : Int) = x := by
  have hi : i < xs.length := by
    rcases Nat.lt_or_ge i xs.length with h1 | h1
    · exact h1
    · rw [List.drop_of_length_le h1] at h; cases h
  rw [lat_get hi]
  rw [List.drop_eq_getElem_cons hi] at h
  exact (List.cons.inj h).1

theorem drop_lt {α : Type} {xs l : List α} {x : α} {i : Nat} (h : xs.drop i = x :: l) : i < xs.length ∧ xs.drop (i + 1) = l := by
  have hi : i < xs.length := by
    rcases Nat.lt_or_ge i xs.length with h1 | h1
    · exact h1
    · rw [List.drop_of_length_le h1] at h; cases h
  rw [List.drop_eq_getElem_cons hi] at h
  exact ⟨hi, (List.cons.inj h).2⟩

theorem Lfp1.over {α : Type} [Inhabited α] (xs : List α) (hn : xs.length ≤ 2 ^ 40) {step : Int → (Int → Prop) → Prop} (Inv : Nat → List α → Prop) (h0 : Inv 0 xs)
    (hend : ∀ I, Inv xs.length [] → step (xs.length : Int) I)
    (h : ∀ (i : Nat) (x : α) (l : List α) (I : Int → Prop), i < xs.length → xs.drop i = x :: l → lat xs (i : Int) = x → Inv i (x :: l) → (Inv (i + 1) l → I (arI .add .i64 (i : Int) 1)) → step (i : Int) I) : Lfp1 step 0 := by
  refine Lfp1.up (k := 0) xs.length (fun i => Inv i (xs.drop i)) (Nat.zero_le _) (by simpa using h0) ?_
  intro i I hi hv hI
  by_cases hlt : i < xs.length
  · have hd := List.drop_eq_getElem_cons hlt
    rw [hd] at hv
    refine h i _ _ I hlt hd (lat_get hlt) hv fun hv' => ?_
    rw [add1 hlt hn]
    exact hI hlt hv'
  · obtain rfl : i = xs.length := by omega
    rw [List.drop_length] at hv
    exact hend I hv

theorem Lfp2.over {α β : Type} [Inhabited α] (xs : List α) (hn : xs.length ≤ 2 ^ 40) {step : Int → β → (Int → β → Prop) → Prop} (Inv : Nat → List α → β → Prop) {b : β} (h0 : Inv 0 xs b)
    (hend : ∀ b I, Inv xs.length [] b → step (xs.length : Int) b I)
    (h : ∀ (i : Nat) (x : α) (l : List α) (b : β) (I : Int → β → Prop), i < xs.length → xs.drop i = x :: l → lat xs (i : Int) = x → Inv i (x :: l) b → (∀ b', Inv (i + 1) l b' → I (arI .add .i64 (i : Int) 1) b') → step (i : Int) b I) : Lfp2 step 0 b := by
  refine Lfp2.up (k := 0) xs.length (fun i b => Inv i (xs.drop i) b) (Nat.zero_le _) (by simpa using h0) ?_
  intro i b I hi hv hI
  by_cases hlt : i < xs.length
  · have hd := List.drop_eq_getElem_cons hlt
    rw [hd] at hv
    refine h i _ _ b I hlt hd (lat_get hlt) hv fun b' hv' => ?_
    rw [add1 hlt hn]
    exact hI b' hlt hv'
  · obtain rfl : i = xs.length := by omega
    rw [List.drop_length] at hv
    exact hend b I hv

/-- The counter behind what turns. -/
theorem Lfp2.swap {α β : Type} {step : α → β → (α → β → Prop) → Prop} {a : α} {b : β} (h : Lfp2 (fun b a (I : β → α → Prop) => step a b (fun a b => I b a)) b a) : Lfp2 step a b :=
  fun I hI => h (fun b a => I a b) fun b a => hI a b
theorem Lfp2.overS {α β : Type} [Inhabited α] (xs : List α) (hn : xs.length ≤ 2 ^ 40) {step : β → Int → (β → Int → Prop) → Prop} (Inv : Nat → List α → β → Prop) {b : β} (h0 : Inv 0 xs b)
    (hend : ∀ b I, Inv xs.length [] b → step b (xs.length : Int) I)
    (h : ∀ (i : Nat) (x : α) (l : List α) (b : β) (I : β → Int → Prop), i < xs.length → xs.drop i = x :: l → lat xs (i : Int) = x → Inv i (x :: l) b → (∀ b', Inv (i + 1) l b' → I b' (arI .add .i64 (i : Int) 1)) → step b (i : Int) I) : Lfp2 step b 0 :=
  Lfp2.swap (Lfp2.over xs hn Inv h0 (fun b I => hend b _) (fun i x l b I h1 h2 h3 h4 h5 => h i x l b _ h1 h2 h3 h4 h5))

/-- Two things that turn. -/
theorem Lfp3.pair {α β γ : Type} {step : α → β → γ → (α → β → γ → Prop) → Prop} {a : α} {b : β} {c : γ} (h : Lfp2 (fun a (p : β × γ) (I : α → β × γ → Prop) => step a p.1 p.2 (fun a b c => I a (b, c))) a (b, c)) : Lfp3 step a b c :=
  fun I hI => h (fun a p => I a p.1 p.2) fun a p => hI a p.1 p.2
theorem Lfp3.over {α β γ : Type} [Inhabited α] (xs : List α) (hn : xs.length ≤ 2 ^ 40) {step : Int → β → γ → (Int → β → γ → Prop) → Prop} (Inv : Nat → List α → β → γ → Prop) {b : β} {c : γ} (h0 : Inv 0 xs b c)
    (hend : ∀ b c I, Inv xs.length [] b c → step (xs.length : Int) b c I)
    (h : ∀ (i : Nat) (x : α) (l : List α) (b : β) (c : γ) (I : Int → β → γ → Prop), i < xs.length → xs.drop i = x :: l → lat xs (i : Int) = x → Inv i (x :: l) b c → (∀ b' c', Inv (i + 1) l b' c' → I (arI .add .i64 (i : Int) 1) b' c') → step (i : Int) b c I) : Lfp3 step 0 b c :=
  Lfp3.pair (Lfp2.over xs hn (fun i l p => Inv i l p.1 p.2) h0 (fun p I h1 => hend _ _ _ h1) (fun i x l p I h1 h2 h3 h4 h5 => h i x l p.1 p.2 _ h1 h2 h3 h4 fun b c h6 => h5 (b, c) h6))

theorem Wif.true {A B : Prop} (h : A) : Wif true A B := ⟨fun _ => h, fun e => by cases e⟩
theorem Wif.false {A B : Prop} (h : B) : Wif false A B := ⟨fun e => (by cases e), fun _ => h⟩
theorem Wif.t {b : Bool} {A B : Prop} (hb : b = Bool.true) (h : A) : Wif b A B := by subst hb; exact Wif.true h
theorem Wif.f {b : Bool} {A B : Prop} (hb : b = Bool.false) (h : B) : Wif b A B := by subst hb; exact Wif.false h
theorem Wif.mk {b : Bool} {A B : Prop} (h1 : b = Bool.true → A) (h2 : b = Bool.false → B) : Wif b A B := ⟨h1, h2⟩
theorem Wif.of {ρ : Type} {b : Bool} {K : ρ → Prop} {x y : ρ} (h : K (bif b then x else y)) : Wif b (K x) (K y) := by
  cases b
  · exact Wif.false h
  · exact Wif.true h
theorem WJ.mk {τ : Sort _} {A : τ → Prop} {J : τ} (h : A J) : WJ A J := h
theorem Wopt.true {ρ : Type} [Inhabited ρ] {A : (ρ → Prop) → Prop} {H : ρ → Prop} (h : A H) : Wopt true A H := ⟨fun _ => h, fun e => by cases e⟩
theorem Wopt.false {ρ : Type} [Inhabited ρ] {A : (ρ → Prop) → Prop} {H : ρ → Prop} (h : H default) : Wopt false A H := ⟨fun e => (by cases e), fun _ => h⟩
theorem Wopt.t {ρ : Type} [Inhabited ρ] {g : Bool} {A : (ρ → Prop) → Prop} {H : ρ → Prop} (hg : g = Bool.true) (h : A H) : Wopt g A H := by subst hg; exact Wopt.true h
theorem Wopt.f {ρ : Type} [Inhabited ρ] {g : Bool} {A : (ρ → Prop) → Prop} {H : ρ → Prop} (hg : g = Bool.false) (h : H default) : Wopt g A H := by subst hg; exact Wopt.false h
/-- A guarded call whose answer is a function's. -/
theorem Wopt.of {ρ : Type} [Inhabited ρ] {g : Bool} {A : (ρ → Prop) → Prop} {H : ρ → Prop} (v : ρ) (hA : ∀ H : ρ → Prop, H v → A H) (h : H (bif g then v else default)) : Wopt g A H := by
  cases g with
  | false => exact Wopt.false h
  | true => exact Wopt.true (hA _ h)
theorem Wopt.mk {ρ : Type} [Inhabited ρ] {g : Bool} {A : (ρ → Prop) → Prop} {H : ρ → Prop} (h1 : g = Bool.true → A H) (h2 : g = Bool.false → H default) : Wopt g A H := ⟨h1, h2⟩

/-! ### Sets, as maps to true -/
section sets
variable {κ : Type} [DecidableEq κ]
def trues (ks : List κ) : List (κ × Bool) := ks.map (·, true)
theorem mfind_none {β : Type} {l : List (κ × β)} {k : κ} (h : k ∉ l.map (·.1)) : mfind l k = none := by
  unfold mfind
  rw [List.findIdx?_eq_none_iff]
  intro e he
  simp only [decide_eq_false_iff_not]
  rintro rfl
  exact h (List.mem_map_of_mem he)
theorem mfind_some {β : Type} {l : List (κ × β)} {k : κ} (h : k ∈ l.map (·.1)) : ∃ i e, mfind l k = some i ∧ l[i]? = some e ∧ e.1 = k := by
  unfold mfind
  cases hf : l.findIdx? (fun e => decide (k = e.1)) with
  | none =>
    rw [List.findIdx?_eq_none_iff] at hf
    obtain ⟨e, he, rfl⟩ := List.mem_map.1 h
    have := hf e he
    simp at this
  | some i =>
    obtain ⟨h1, h2, h3⟩ := List.findIdx?_eq_some_iff_getElem.1 hf
    exact ⟨i, l[i], rfl, List.getElem?_eq_getElem h1, by simpa using (of_decide_eq_true h2).symm⟩
theorem mget_none {β : Type} {l : List (κ × β)} {k : κ} (h : k ∉ l.map (·.1)) : mget l k = none := by unfold mget; rw [mfind_none h]; rfl
theorem mput_new {β : Type} {l : List (κ × β)} {k : κ} {v : β} (h : k ∉ l.map (·.1)) : mput l k v = l ++ [(k, v)] := by unfold mput; rw [mfind_none h]
theorem trues_keys (ks : List κ) : (trues ks).map (·.1) = ks := by
  unfold trues
  rw [List.map_map]
  exact List.map_id' ks
theorem trues_val (ks : List κ) (k : κ) : mval (trues ks) k false = decide (k ∈ ks) := by
  unfold mval
  by_cases h : k ∈ ks
  · obtain ⟨i, e, h1, h2, h3⟩ := mfind_some (l := trues ks) (k := k) (by rw [trues_keys]; exact h)
    unfold mget
    rw [h1]
    simp only [Option.bind_some, h2, Option.map_some, Option.getD_some]
    have := List.mem_of_getElem? h2
    obtain ⟨x, _, rfl⟩ := List.mem_map.1 this
    simp [h]
  · rw [mget_none (by rw [trues_keys]; exact h)]
    simp [h]
theorem trues_put {ks : List κ} {k : κ} (h : k ∉ ks) : mput (trues ks) k true = trues (ks ++ [k]) := by
  rw [mput_new (by rw [trues_keys]; exact h)]
  simp [trues]
theorem trues_length (ks : List κ) : (trues ks).length = ks.length := by simp [trues]
end sets
end Go.Cw
