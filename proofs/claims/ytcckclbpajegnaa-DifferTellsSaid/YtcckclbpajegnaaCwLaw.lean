/- DifferTells (crawlwaylaw35): at every pair of configurations the law returns true, and each argument reads afterwards as it read before. Conditions: none. -/
import Derived.Test.YtcckclbpajegnaaCwVh
import Derived.Test.YtcckclbpajegnaaCwP2
import Derived.Test.YtcckclbpajegnaaCwRd
import Derived.Test.YtcckclbpajegnaaCwS
import Derived.Test.YtcckclbpajegnaaRows
set_option linter.all false
set_option linter.unusedVariables false
namespace Go.Cw
open Go Go.Proofs Go.RowKit Go.ChangeShapes Go.WideShapes Go.ChangeAt Go.Proofs.Ytcckclbpajegnaa

theorem walk (hM : ∀ a b : TConf, l35_DifferTells.W a b (fun y => y = true)) (a b : TConf) (ra : R.Raw TConf) (rb : R.Raw TConf) (w : World) (ha : R.ok (mAll w) w a ra) (hb : R.ok (mAll w) w b rb) :
    Calls P 3 #[V a ra, V b rb] w fun e w' => e = .returned (.bool true) ∧ Below w.heap.size w w' := by
  have h := l35_DifferTells.ok (r0 := ra) (r1 := rb) (hM a b) w (mAll w) (mAll_fresh w) (by
    intro f hf
    simp only [List.mem_cons, List.not_mem_nil, or_false] at hf
    rcases hf with rfl | rfl
    · exact fun _ => ha
    · exact fun _ => hb)
  refine h.mono ?_
  rintro e w' ⟨y, s, m, rfl, rfl, hbel, _⟩
  exact ⟨rfl, hbel⟩

theorem own : ownKnob Try.prog.godebug = none := by kernel_rfl
def zeroConf : Value := .agg ((List.replicate 32 (Value.int .u8 0) ++ [Value.int .i64 0, Value.int .u32 0, Value.slice none 0 0]).toArray)

set_option maxRecDepth 100000 in
theorem lifted (hM : ∀ a b : TConf, l35_DifferTells.W a b (fun y => y = true)) (os : Os) (started : os.Started) (H : Type) (enc : TypeId × Value → H) :
    ReturnsInHanded {} Try.checked os 3 .any (Rows.differTellsSpec.pre6 enc Try.prog Try.f3 Rows.differTellsRow.domain false) (Rows.differTellsSpec.post enc Try.prog Try.f3 false true false false) := by
  refine returnsInHanded_of_change (C := Try.checked) own started (by kernel_rfl) Try.func3
    (ChangeSpec.witness6 (enc := enc) (C := Try.checked) false ⟨#[], #[zeroConf, zeroConf], []⟩ 8 (by kernel_rfl) (by kernel_rfl) (by kernel_rfl) (by kernel_rfl)) ?_
  intro W base args ds gs before hval0 hW hcnd _
  have hval : ∀ (j : Nat) t v, Try.f3.params[j]? = some t → args[j]? = some v → Value.okWide Try.prog W .any base t v := hval0
  have hW' := hW
  obtain ⟨p, q, hA0, hV, rfl, hfz, hnd⟩ := hW
  have hA : DataW.TrodAll enc Try.prog W 0 (fun _ => true) true [27, 27] args.toList ds p := hA0
  obtain ⟨v0, vs0, d0, ds0, p0, q0, hargs, rfl, rfl, h0, r0⟩ := trodAll_cons hA
  obtain ⟨v1, vs1, d1, ds1, p1, q1, rfl, rfl, rfl, h1, r1⟩ := trodAll_cons r0
  obtain ⟨rfl, rfl, rfl⟩ := trodAll_nil r1
  obtain rfl : args = #[v0, v1] := by cases args; simp_all
  obtain ⟨rfl, rfl⟩ := trodVars_none hV
  obtain ⟨a, ra, rfl, hka⟩ := rd_arg (α := TConf) (T := 27) (P := P) rfl Try.underlying27 (hval 0 27 v0 rfl rfl) h0
  obtain ⟨b, rb, rfl, hkb⟩ := rd_arg (α := TConf) (T := 27) (P := P) rfl Try.underlying27 (hval 1 27 v1 rfl rfl) h1
  refine (walk hM a b ra rb W hka hkb).mono fun e W' ⟨he, hb⟩ => ?_
  subst he
  simp only [List.append_nil] at hW'
  have hlt := hW'.lt
  have st : ∀ (sp : Nat → Bool) {v : Value} {d : DataW H} {ps : List MemPlace}, (∀ p ∈ p0 ++ p1, sp p.block = true) → (∀ x ∈ ps, x ∈ p0 ++ p1) → DataW.Trod enc Try.prog W 0 (fun _ => true) true 27 v d ps → DataW.Trod enc Try.prog W' 0 sp true 27 v d ps :=
    fun sp {v d ps} hsp hin h => WideElems.Trod_stays (by kernel_rfl) (by kernel_rfl) (Nat.le_of_ble_eq_true (by kernel_rfl)) h (fun x hx => hb.same (hlt x (hin x hx))) (fun x hx => hsp x (hin x hx))
  refine ⟨_, rfl, post_of_below (pa := p0 ++ p1) (pv := []) hW' (fun _ _ _ => (trodAll_cons_mk (shut_bool Try.underlying4 _) trodAll_mk0)) (fun sp hsp => ?_) (fun _ _ => rfl) (by simp) hb (ok_one (by kernel_rfl) rfl (okWide_bool_mk Try.underlying4 _))⟩
  have := trodAll_cons_mk (st sp hsp (fun x hx => List.mem_append_left _ hx) h0) (trodAll_cons_mk (st sp hsp (fun x hx => List.mem_append_right _ hx) h1) trodAll_mk0)
  simp only [List.append_nil] at this
  exact this

theorem said (hM : ∀ a b : TConf, l35_DifferTells.W a b (fun y => y = true)) : Rows.DifferTellsSaid :=
  OpenClaim.holds_of_wide 3 Try.f3 rfl rfl rfl rfl rfl rfl rfl ⟨rfl, rfl, rfl, rfl, rfl⟩ rfl rfl rfl rfl rfl (by kernel_rfl) Try.func3 (by kernel_rfl)
    (of_decide_eq_true (by kernel_rfl)) (by unfold Func.isWrapper; first | (rw [if_pos (by decide +kernel)]; kernel_rfl) | (rw [if_neg (by decide +kernel)]; exact ⟨rfl, rfl⟩))
    (fun os started H enc _ => lifted hM os started H enc)
end Go.Cw
namespace Go.Proofs.Ytcckclbpajegnaa
theorem differ_tells : Rows.DifferTellsSaid := Go.Cw.said Go.Cw.DifferTells_maths
end Go.Proofs.Ytcckclbpajegnaa
