/- The types and functions of the program by number. Written by gen.py. -/
import Derived.Test.YtcckclbpajegnaaCwT
import Derived.Test.YtcckclbpajegnaaProg
set_option linter.all false
set_option linter.unusedVariables false
set_option linter.unusedSimpArgs false
namespace Go.Cw
open Go Go.Proofs
set_option maxRecDepth 20000
noncomputable abbrev P : Program := Go.Proofs.Try.prog
theorem mixed : P.follows .mixedOrders = true := by kernel_rfl
instance ty3 : Ty P 3 Int := ⟨fun w => by kernel_rfl, fun w => by kernel_rfl⟩
instance ty4 : Ty P 4 Bool := ⟨fun w => by kernel_rfl, fun w => by kernel_rfl⟩
instance ty5 : Ty P 5 UInt8 := ⟨fun w => by kernel_rfl, fun w => by kernel_rfl⟩
instance ty23 : Ty P 23 (Vector UInt8 32) := ⟨fun w => by kernel_rfl, fun w => by kernel_rfl⟩
instance ty24 : Ty P 24 UInt32 := ⟨fun w => by kernel_rfl, fun w => by kernel_rfl⟩
instance ty25 : Ty P 25 (List TPeer) := ⟨fun w => by kernel_rfl, fun w => by kernel_rfl⟩
instance ty27 : Ty P 27 TConf := ⟨fun w => by kernel_rfl, fun w => by kernel_rfl⟩
instance ty30 : Ty P 30 (List TPeerChange) := ⟨fun w => by kernel_rfl, fun w => by kernel_rfl⟩
instance ty32 : Ty P 32 TRequest := ⟨fun w => by kernel_rfl, fun w => by kernel_rfl⟩
instance ty37 : Ty P 37 (Vector UInt8 16) := ⟨fun w => by kernel_rfl, fun w => by kernel_rfl⟩
instance ty39 : Ty P 39 TAddr := ⟨fun w => by kernel_rfl, fun w => by kernel_rfl⟩
instance ty41 : Ty P 41 TEndpoint := ⟨fun w => by kernel_rfl, fun w => by kernel_rfl⟩
instance ty43 : Ty P 43 (List TPrefix) := ⟨fun w => by kernel_rfl, fun w => by kernel_rfl⟩
instance ty45 : Ty P 45 TPeer := ⟨fun w => by kernel_rfl, fun w => by kernel_rfl⟩
instance ty47 : Ty P 47 TPeerChange := ⟨fun w => by kernel_rfl, fun w => by kernel_rfl⟩
instance ty51 : Ty P 51 (Mp (Vector UInt8 32) TPeer) := ⟨fun w => by kernel_rfl, fun w => by kernel_rfl⟩
instance ty57 : Ty P 57 TPrefix := ⟨fun w => by kernel_rfl, fun w => by kernel_rfl⟩
instance ty83 : Ty P 83 (Vector UInt8 4) := ⟨fun w => by kernel_rfl, fun w => by kernel_rfl⟩
instance eqd3 : EqD P 3 Int 1 := eqD_int Try.underlying3
instance zr4 : Zr P 4 (false : Bool) () := ⟨fun w => by kernel_rfl⟩
instance eqd5 : EqD P 5 UInt8 1 := eqD_u8 Try.underlying5
instance slc25 : Slc P 25 TPeer := ⟨_, Try.underlying25, fun w => by kernel_rfl⟩
instance apd25 : Apd P 25 TPeer 45 := ⟨Try.underlying25, fun w => by kernel_rfl, V (TPeer_zero : TPeer) (none, 0), fun w => ⟨by kernel_rfl, by rw [V_cells]; simp [R.len]⟩⟩
instance slc30 : Slc P 30 TPeerChange := ⟨_, Try.underlying30, fun w => by kernel_rfl⟩
instance apd30 : Apd P 30 TPeerChange 47 := ⟨Try.underlying30, fun w => by kernel_rfl, V (TPeerChange_zero : TPeerChange) (none, 0), fun w => ⟨by kernel_rfl, by rw [V_cells]; simp [R.len]⟩⟩
instance slc43 : Slc P 43 TPrefix := ⟨_, Try.underlying43, fun w => by kernel_rfl⟩
instance apd43 : Apd P 43 TPrefix 57 := ⟨Try.underlying43, fun w => by kernel_rfl, V (TPrefix_zero : TPrefix) (), fun w => ⟨by kernel_rfl, by rw [V_cells]; simp [R.len]⟩⟩
instance zr23 : Zr P 23 ((Vector.replicate 32 (0 : UInt8)) : (Vector UInt8 32)) () := ⟨fun w => by kernel_rfl⟩
instance plsv23 : PlsV P 23 32 1 := ⟨_, Try.underlying23, fun w => by kernel_rfl⟩
instance eqd23 : EqD P 23 (Vector UInt8 32) 2 := eqD_vec (i := Try.t5) Try.underlying23 (by kernel_rfl) (by kernel_rfl) (by decide)
instance ng23 : NoGuard P 23 := ⟨by kernel_rfl⟩
instance arr37 : Arr P 37 16 := arr_of Try.underlying37 ty5.size rfl
instance eqd37 : EqD P 37 (Vector UInt8 16) 2 := eqD_vec (i := Try.t5) Try.underlying37 (by kernel_rfl) (by kernel_rfl) (by decide)
instance ng37 : NoGuard P 37 := ⟨by kernel_rfl⟩
instance zr27 : Zr P 27 (TConf_zero : TConf) (none, 0) := ⟨fun w => by kernel_rfl⟩
instance fld27_0 : Fld P 27 0 0 := ⟨fun w b o => by kernel_rfl⟩
instance fld27_1 : Fld P 27 1 32 := ⟨fun w b o => by kernel_rfl⟩
instance fld27_2 : Fld P 27 2 33 := ⟨fun w b o => by kernel_rfl⟩
instance fld27_3 : Fld P 27 3 34 := ⟨fun w b o => by kernel_rfl⟩
instance pls27 : Pls P 27 #[(0, 32), (32, 1), (33, 1), (34, 1)] := ⟨_, Try.underlying27, fun w => by kernel_rfl⟩
instance zr32 : Zr P 32 (TRequest_zero : TRequest) (none, 0) := ⟨fun w => by kernel_rfl⟩
instance fld32_0 : Fld P 32 0 0 := ⟨fun w b o => by kernel_rfl⟩
instance fld32_1 : Fld P 32 1 1 := ⟨fun w b o => by kernel_rfl⟩
instance fld32_2 : Fld P 32 2 33 := ⟨fun w b o => by kernel_rfl⟩
instance fld32_3 : Fld P 32 3 34 := ⟨fun w b o => by kernel_rfl⟩
instance fld32_4 : Fld P 32 4 35 := ⟨fun w b o => by kernel_rfl⟩
instance fld32_5 : Fld P 32 5 36 := ⟨fun w b o => by kernel_rfl⟩
instance fld32_6 : Fld P 32 6 37 := ⟨fun w b o => by kernel_rfl⟩
instance fld32_7 : Fld P 32 7 38 := ⟨fun w b o => by kernel_rfl⟩
instance pls32 : Pls P 32 #[(0, 1), (1, 32), (33, 1), (34, 1), (35, 1), (36, 1), (37, 1), (38, 1)] := ⟨_, Try.underlying32, fun w => by kernel_rfl⟩
instance zr39 : Zr P 39 (TAddr_zero : TAddr) () := ⟨fun w => by kernel_rfl⟩
instance fld39_0 : Fld P 39 0 0 := ⟨fun w b o => by kernel_rfl⟩
instance fld39_1 : Fld P 39 1 1 := ⟨fun w b o => by kernel_rfl⟩
instance pls39 : Pls P 39 #[(0, 1), (1, 16)] := ⟨_, Try.underlying39, fun w => by kernel_rfl⟩
instance eqd39 : EqD P 39 TAddr 3 := ⟨fun d w x y r s => by
    show (Op.equalIn (d + 2 + 1) 39 (.agg (R.cells x r).toArray) (.agg (R.cells y s).toArray)).run P w = _
    rw [run_equalIn_struct w (d + 2) 39 _ _ (by kernel_rfl) (by kernel_rfl)]
    rw [fieldsOf_of Try.underlying39]; refine run_eqF _ _ ?_
    exact eqF_fin (EqF.cons' (by decide) TAddr_l_V rfl ty3 (eqF_at TAddr_l_V (d := d) (by decide)) (EqF.cons' (by decide) TAddr_l_B rfl ty37 (eqF_at TAddr_l_B (d := d) (by decide)) EqF.nil')) (by
      obtain ⟨a0, a1⟩ := x
      obtain ⟨c0, c1⟩ := y
      rw [Bool.eq_iff_iff]; simp only [Bool.and_eq_true, decide_eq_true_eq, and_true]; simp [TAddr_l_V, TAddr_l_B])
    , by decide⟩
instance ng39 : NoGuard P 39 := ⟨by kernel_rfl⟩
instance zr41 : Zr P 41 (TEndpoint_zero : TEndpoint) () := ⟨fun w => by kernel_rfl⟩
instance fld41_0 : Fld P 41 0 0 := ⟨fun w b o => by kernel_rfl⟩
instance fld41_1 : Fld P 41 1 17 := ⟨fun w b o => by kernel_rfl⟩
instance pls41 : Pls P 41 #[(0, 17), (17, 1)] := ⟨_, Try.underlying41, fun w => by kernel_rfl⟩
instance eqd41 : EqD P 41 TEndpoint 4 := ⟨fun d w x y r s => by
    show (Op.equalIn (d + 3 + 1) 41 (.agg (R.cells x r).toArray) (.agg (R.cells y s).toArray)).run P w = _
    rw [run_equalIn_struct w (d + 3) 41 _ _ (by kernel_rfl) (by kernel_rfl)]
    rw [fieldsOf_of Try.underlying41]; refine run_eqF _ _ ?_
    exact eqF_fin (EqF.cons' (by decide) TEndpoint_l_A rfl ty39 (eqF_at TEndpoint_l_A (d := d) (by decide)) (EqF.cons' (by decide) TEndpoint_l_Port rfl ty3 (eqF_at TEndpoint_l_Port (d := d) (by decide)) EqF.nil')) (by
      obtain ⟨a0, a1⟩ := x
      obtain ⟨c0, c1⟩ := y
      rw [Bool.eq_iff_iff]; simp only [Bool.and_eq_true, decide_eq_true_eq, and_true]; simp [TEndpoint_l_A, TEndpoint_l_Port])
    , by decide⟩
instance ng41 : NoGuard P 41 := ⟨by kernel_rfl⟩
instance zr57 : Zr P 57 (TPrefix_zero : TPrefix) () := ⟨fun w => by kernel_rfl⟩
instance fld57_0 : Fld P 57 0 0 := ⟨fun w b o => by kernel_rfl⟩
instance fld57_1 : Fld P 57 1 17 := ⟨fun w b o => by kernel_rfl⟩
instance byt57 : Byt P 57 32 := byt_of (by kernel_rfl) (by decide) (by decide)
instance pls57 : Pls P 57 #[(0, 17), (17, 1)] := ⟨_, Try.underlying57, fun w => by kernel_rfl⟩
instance eqd57 : EqD P 57 TPrefix 4 := ⟨fun d w x y r s => by
    show (Op.equalIn (d + 3 + 1) 57 (.agg (R.cells x r).toArray) (.agg (R.cells y s).toArray)).run P w = _
    rw [run_equalIn_struct w (d + 3) 57 _ _ (by kernel_rfl) (by kernel_rfl)]
    rw [fieldsOf_of Try.underlying57]; refine run_eqF _ _ ?_
    exact eqF_fin (EqF.cons' (by decide) TPrefix_l_A rfl ty39 (eqF_at TPrefix_l_A (d := d) (by decide)) (EqF.cons' (by decide) TPrefix_l_Bits rfl ty3 (eqF_at TPrefix_l_Bits (d := d) (by decide)) EqF.nil')) (by
      obtain ⟨a0, a1⟩ := x
      obtain ⟨c0, c1⟩ := y
      rw [Bool.eq_iff_iff]; simp only [Bool.and_eq_true, decide_eq_true_eq, and_true]; simp [TPrefix_l_A, TPrefix_l_Bits])
    , by decide⟩
instance ng57 : NoGuard P 57 := ⟨by kernel_rfl⟩
instance zr45 : Zr P 45 (TPeer_zero : TPeer) (none, 0) := ⟨fun w => by kernel_rfl⟩
instance fldt45_0 : FldT P 45 0 23 0 := ⟨_, _, Try.underlying45, rfl, rfl, rfl⟩
instance fldt45_1 : FldT P 45 1 23 32 := ⟨_, _, Try.underlying45, rfl, rfl, rfl⟩
instance fldt45_2 : FldT P 45 2 41 64 := ⟨_, _, Try.underlying45, rfl, rfl, rfl⟩
instance fldt45_3 : FldT P 45 3 3 82 := ⟨_, _, Try.underlying45, rfl, rfl, rfl⟩
instance fldt45_4 : FldT P 45 4 42 83 := ⟨_, _, Try.underlying45, rfl, rfl, rfl⟩
instance fldt45_5 : FldT P 45 5 42 84 := ⟨_, _, Try.underlying45, rfl, rfl, rfl⟩
instance fldt45_6 : FldT P 45 6 43 85 := ⟨_, _, Try.underlying45, rfl, rfl, rfl⟩
instance fld45_0 : Fld P 45 0 0 := ⟨fun w b o => by kernel_rfl⟩
instance fld45_1 : Fld P 45 1 32 := ⟨fun w b o => by kernel_rfl⟩
instance fld45_2 : Fld P 45 2 64 := ⟨fun w b o => by kernel_rfl⟩
instance fld45_3 : Fld P 45 3 82 := ⟨fun w b o => by kernel_rfl⟩
instance fld45_4 : Fld P 45 4 83 := ⟨fun w b o => by kernel_rfl⟩
instance fld45_5 : Fld P 45 5 84 := ⟨fun w b o => by kernel_rfl⟩
instance fld45_6 : Fld P 45 6 85 := ⟨fun w b o => by kernel_rfl⟩
instance byt45 : Byt P 45 144 := byt_of (by kernel_rfl) (by decide) (by decide)
instance pls45 : Pls P 45 #[(0, 32), (32, 32), (64, 18), (82, 1), (83, 1), (84, 1), (85, 1)] := ⟨_, Try.underlying45, fun w => by kernel_rfl⟩
instance zr47 : Zr P 47 (TPeerChange_zero : TPeerChange) (none, 0) := ⟨fun w => by kernel_rfl⟩
instance fld47_0 : Fld P 47 0 0 := ⟨fun w b o => by kernel_rfl⟩
instance fld47_1 : Fld P 47 1 32 := ⟨fun w b o => by kernel_rfl⟩
instance fld47_2 : Fld P 47 2 33 := ⟨fun w b o => by kernel_rfl⟩
instance fld47_3 : Fld P 47 3 34 := ⟨fun w b o => by kernel_rfl⟩
instance fld47_4 : Fld P 47 4 35 := ⟨fun w b o => by kernel_rfl⟩
instance fld47_5 : Fld P 47 5 67 := ⟨fun w b o => by kernel_rfl⟩
instance fld47_6 : Fld P 47 6 68 := ⟨fun w b o => by kernel_rfl⟩
instance fld47_7 : Fld P 47 7 86 := ⟨fun w b o => by kernel_rfl⟩
instance fld47_8 : Fld P 47 8 87 := ⟨fun w b o => by kernel_rfl⟩
instance fld47_9 : Fld P 47 9 88 := ⟨fun w b o => by kernel_rfl⟩
instance fld47_10 : Fld P 47 10 89 := ⟨fun w b o => by kernel_rfl⟩
instance byt47 : Byt P 47 152 := byt_of (by kernel_rfl) (by decide) (by decide)
instance pls47 : Pls P 47 #[(0, 32), (32, 1), (33, 1), (34, 1), (35, 32), (67, 1), (68, 18), (86, 1), (87, 1), (88, 1), (89, 1)] := ⟨_, Try.underlying47, fun w => by kernel_rfl⟩
instance arrs37 : ArrS P 37 16 5 := ⟨Try.underlying37, ty5.size⟩
instance arrs83 : ArrS P 83 4 5 := ⟨Try.underlying83, ty5.size⟩
instance ck5 : CK P 5 UInt8 1 := ck_int Try.underlying5
instance ck23 : CK P 23 (Vector UInt8 32) 2 := ck_vec Try.underlying23 (by decide)
instance ky23 : Ky P 23 (Vector UInt8 32) := ky_agg rfl (fun _ _ => rfl) ⟨_, Try.underlying23⟩
instance ck3 : CK P 3 Int 1 := ck_int Try.underlying3
instance ck37 : CK P 37 (Vector UInt8 16) 2 := ck_vec Try.underlying37 (by decide)
instance ck39 : CK P 39 TAddr 3 := ck_struct (k := 2) Try.underlying39 rfl (by decide) fun em d w x r => ⟨by decide, ⟨_, _, TAddr_l_V, rfl, ty3, ck_at TAddr_l_V (by decide)⟩, ⟨by decide, ⟨_, _, TAddr_l_B, rfl, ty37, ck_at TAddr_l_B (by decide)⟩, trivial⟩⟩
instance bits39 : Bits TAddr := ⟨fun x r v hv n => by
    change v ∈ R.cells x.V () ++ (R.cells x.B ()) at hv
    simp only [List.mem_append] at hv
    rcases hv with hv | hv <;> exact Bits.b _ _ v hv n⟩
instance ck57 : CK P 57 TPrefix 4 := ck_struct (k := 3) Try.underlying57 rfl (by decide) fun em d w x r => ⟨by decide, ⟨_, _, TPrefix_l_A, rfl, ty39, ck_at TPrefix_l_A (by decide)⟩, ⟨by decide, ⟨_, _, TPrefix_l_Bits, rfl, ty3, ck_at TPrefix_l_Bits (by decide)⟩, trivial⟩⟩
instance bits57 : Bits TPrefix := ⟨fun x r v hv n => by
    change v ∈ R.cells x.A () ++ (R.cells x.Bits ()) at hv
    simp only [List.mem_append] at hv
    rcases hv with hv | hv <;> exact Bits.b _ _ v hv n⟩
instance ky57 : Ky P 57 TPrefix := ky_agg rfl (fun _ _ => rfl) ⟨_, Try.underlying57⟩
instance mapt51 : MapT P 51 23 45 := ⟨Try.underlying51⟩
instance mapt66 : MapT P 66 23 4 := ⟨Try.underlying66⟩
instance mapt67 : MapT P 67 57 4 := ⟨Try.underlying67⟩
instance fn3 : FnAt P 3 := ⟨_, Try.func3, by kernel_rfl, rfl⟩
instance fn4 : FnAt P 4 := ⟨_, Try.func4, by kernel_rfl, rfl⟩
instance fn5 : FnAt P 5 := ⟨_, Try.func5, by kernel_rfl, rfl⟩
instance fn6 : FnAt P 6 := ⟨_, Try.func6, by kernel_rfl, rfl⟩
instance fn7 : FnAt P 7 := ⟨_, Try.func7, by kernel_rfl, rfl⟩
instance fn8 : FnAt P 8 := ⟨_, Try.func8, by kernel_rfl, rfl⟩
instance fn9 : FnAt P 9 := ⟨_, Try.func9, by kernel_rfl, rfl⟩
instance fn10 : FnAt P 10 := ⟨_, Try.func10, by kernel_rfl, rfl⟩
instance fn11 : FnAt P 11 := ⟨_, Try.func11, by kernel_rfl, rfl⟩
instance fn12 : FnAt P 12 := ⟨_, Try.func12, by kernel_rfl, rfl⟩
instance fn13 : FnAt P 13 := ⟨_, Try.func13, by kernel_rfl, rfl⟩
instance fn14 : FnAt P 14 := ⟨_, Try.func14, by kernel_rfl, rfl⟩
instance fn15 : FnAt P 15 := ⟨_, Try.func15, by kernel_rfl, rfl⟩
instance fn16 : FnAt P 16 := ⟨_, Try.func16, by kernel_rfl, rfl⟩
instance fn17 : FnAt P 17 := ⟨_, Try.func17, by kernel_rfl, rfl⟩
instance fn18 : FnAt P 18 := ⟨_, Try.func18, by kernel_rfl, rfl⟩
instance fn19 : FnAt P 19 := ⟨_, Try.func19, by kernel_rfl, rfl⟩
instance fn20 : FnAt P 20 := ⟨_, Try.func20, by kernel_rfl, rfl⟩
instance fn21 : FnAt P 21 := ⟨_, Try.func21, by kernel_rfl, rfl⟩
instance fn22 : FnAt P 22 := ⟨_, Try.func22, by kernel_rfl, rfl⟩
instance fn23 : FnAt P 23 := ⟨_, Try.func23, by kernel_rfl, rfl⟩
instance fn24 : FnAt P 24 := ⟨_, Try.func24, by kernel_rfl, rfl⟩
instance fn25 : FnAt P 25 := ⟨_, Try.func25, by kernel_rfl, rfl⟩
instance fn26 : FnAt P 26 := ⟨_, Try.func26, by kernel_rfl, rfl⟩
instance fn27 : FnAt P 27 := ⟨_, Try.func27, by kernel_rfl, rfl⟩
instance fn28 : FnAt P 28 := ⟨_, Try.func28, by kernel_rfl, rfl⟩
instance fn29 : FnAt P 29 := ⟨_, Try.func29, by kernel_rfl, rfl⟩
instance fn30 : FnAt P 30 := ⟨_, Try.func30, by kernel_rfl, rfl⟩
instance fn31 : FnAt P 31 := ⟨_, Try.func31, by kernel_rfl, rfl⟩
instance fn32 : FnAt P 32 := ⟨_, Try.func32, by kernel_rfl, rfl⟩
instance fn33 : FnAt P 33 := ⟨_, Try.func33, by kernel_rfl, rfl⟩
instance fn34 : FnAt P 34 := ⟨_, Try.func34, by kernel_rfl, rfl⟩
instance fn35 : FnAt P 35 := ⟨_, Try.func35, by kernel_rfl, rfl⟩
instance fn36 : FnAt P 36 := ⟨_, Try.func36, by kernel_rfl, rfl⟩
instance fn37 : FnAt P 37 := ⟨_, Try.func37, by kernel_rfl, rfl⟩
instance fn38 : FnAt P 38 := ⟨_, Try.func38, by kernel_rfl, rfl⟩
instance fn39 : FnAt P 39 := ⟨_, Try.func39, by kernel_rfl, rfl⟩
instance fn40 : FnAt P 40 := ⟨_, Try.func40, by kernel_rfl, rfl⟩
instance fn41 : FnAt P 41 := ⟨_, Try.func41, by kernel_rfl, rfl⟩
instance fn42 : FnAt P 42 := ⟨_, Try.func42, by kernel_rfl, rfl⟩
instance fn43 : FnAt P 43 := ⟨_, Try.func43, by kernel_rfl, rfl⟩
instance fn44 : FnAt P 44 := ⟨_, Try.func44, by kernel_rfl, rfl⟩
instance fn45 : FnAt P 45 := ⟨_, Try.func45, by kernel_rfl, rfl⟩
instance fn46 : FnAt P 46 := ⟨_, Try.func46, by kernel_rfl, rfl⟩
instance fn47 : FnAt P 47 := ⟨_, Try.func47, by kernel_rfl, rfl⟩
instance fn48 : FnAt P 48 := ⟨_, Try.func48, by kernel_rfl, rfl⟩
instance fn49 : FnAt P 49 := ⟨_, Try.func49, by kernel_rfl, rfl⟩
instance fn50 : FnAt P 50 := ⟨_, Try.func50, by kernel_rfl, rfl⟩
instance fn51 : FnAt P 51 := ⟨_, Try.func51, by kernel_rfl, rfl⟩
end Go.Cw
