/- That the code does it. Written by gen.py. -/
import Derived.Test.YtcckclbpajegnaaCwW
import Derived.Test.YtcckclbpajegnaaCwN
set_option linter.all false
set_option linter.unusedVariables false
set_option linter.unusedSimpArgs false
set_option maxRecDepth 4000
namespace Go.Cw
open Go Go.Proofs
theorem r34_Large.ok {p0 : TConf} {r0 : R.Raw TConf} {K : Bool → Prop} (h : r34_Large.W p0 K) : Ct P 4 [V p0 r0] [Fk (α := TConf) true p0 r0] K := by
  unfold r34_Large.W at h
  refine Ct.of (n := 23) Try.func4 rfl rfl rfl fun w0 m0 => ?_
  refine GC.seq ?_
  refine GC.region (GL.l rfl (LX.box (y := p0) (r := r0) rfl) fun b1 => GL.u (QE.assign rfl) rfl <| GL.nilK (fun _ _ => rfl) ?_)
  refine GC.seq ?_
  refine GC.seq ?_
  refine GC.region (GL.u (QE.fa rfl) rfl <| GL.u (QE.ld 0 TConf_l_Peers rfl rfl) rfl <| GL.fact (Fk (α := (List TPeer)) true p0.Peers r0) (fun _ _ hf _ => (TConf_l_Peers.okg (hf 0 rfl rfl) :)) <| GL.u (QE.len rfl (run_underlying Try.underlying25)) rfl <| GL.u (QE.cmp rfl rfl) rfl <| GL.nilK (fun _ _ => rfl) ?_)
  refine GC.cond rfl (fun hb => ?_) (fun hb => ?_)
  · replace h := h.1 hb
    refine GC.seq ?_
    refine GC.region (GL.u (QE.assign rfl) rfl <| GL.nilK (fun _ _ => rfl) ?_)
    exact GC.ret (ret1 rfl (y1 := true) (s1 := ()) (RV.tmp rfl) (RO.flat fun _ _ _ => trivial) h)
  · replace h := h.2 hb
    refine GC.skipK (fun _ _ => rfl) ?_
    refine GC.seq ?_
    refine GC.seq ?_
    refine GC.region (GL.u (QE.assign rfl) rfl <| GL.nilK (fun _ _ => rfl) ?_)
    refine GC.block ?_
    refine GC.loop ?_
    refine GLoop.weaken (h (fun x1 => GLoop _ _ [(1, true, .pointer (some ⟨b1, 0, none⟩)), (3, true, V (α := Int) x1 ())] [Fk (α := TConf) true p0 r0] [bx (α := TConf) p0 r0 b1 27] _) (fun x1 h => ?_)) ⟨rfl, rfl, trivial⟩ ⟨⟨1, rfl⟩, trivial⟩ [0] (by decide) ⟨rfl, trivial⟩
    refine GLoop.round ?_
    refine GC.seq ?_
    refine GC.seq ?_
    refine GC.region (GL.u (QE.move rfl) rfl <| GL.u (QE.fa rfl) rfl <| GL.u (QE.ld 0 TConf_l_Peers rfl rfl) rfl <| GL.fact (Fk (α := (List TPeer)) true p0.Peers r0) (fun _ _ hf _ => (TConf_l_Peers.okg (hf 0 rfl rfl) :)) <| GL.u (QE.len rfl (run_underlying Try.underlying25)) rfl <| GL.u (QE.cmp rfl rfl) rfl <| GL.nilK (fun _ _ => rfl) ?_)
    refine GC.cond rfl (fun hb => ?_) (fun hb => ?_)
    · replace h := h.1 hb
      refine GC.skipK (fun _ _ => rfl) ?_
      refine GC.seq ?_
      refine GC.block ?_
      refine GC.seq ?_
      refine GC.region (GL.u (QE.fa rfl) rfl <| GL.u (QE.ld 0 TConf_l_Peers rfl rfl) rfl <| GL.u (QE.move rfl) rfl <| GL.ux (QX.ias (xs := p0.Peers) (r := r0) 0 rfl rfl rfl (fun _ => h.1)) rfl fun d1 => GL.ux (QX.fa 0 TPeer_l_Allowed rfl rfl) rfl fun d2 => GL.ux (QX.ld 0 rfl rfl) rfl fun q1 => GL.u (QE.len rfl (run_underlying Try.underlying43)) rfl <| GL.u (QE.cmp rfl rfl) rfl <| GL.nilK (fun _ _ => rfl) ?_)
      refine GC.cond rfl (fun hb => ?_) (fun hb => ?_)
      · replace h := h.2.1 hb
        refine GC.seq ?_
        refine GC.region (GL.u (QE.assign rfl) rfl <| GL.nilK (fun _ _ => rfl) ?_)
        exact GC.ret (ret1 rfl (y1 := true) (s1 := ()) (RV.tmp rfl) (RO.flat fun _ _ _ => trivial) h)
      · replace h := h.2.2 hb
        refine GC.skipK (fun _ _ => rfl) ?_
        exact GC.region (GL.u (QE.move rfl) rfl <| GL.u (QE.ar rfl rfl) rfl <| GL.u (QE.assign rfl) rfl <| GL.nil (GLoop.weaken h ⟨rfl, rfl, trivial⟩ ⟨⟨4, rfl⟩, trivial⟩ [0] (by decide) ⟨rfl, trivial⟩))
    · replace h := h.2 hb
      refine GC.exitK (fun _ _ => rfl) ?_
      refine GC.seq ?_
      refine GC.region (GL.u (QE.assign rfl) rfl <| GL.nilK (fun _ _ => rfl) ?_)
      exact GC.ret (ret1 rfl (y1 := false) (s1 := ()) (RV.tmp rfl) (RO.flat fun _ _ _ => trivial) h)

theorem view_short.ok {p0 : Int} {K : Bool → Prop} (h : view_short.W p0 K) : Ct P 30 [V p0 ()] [] K := by
  unfold view_short.W at h
  refine Ct.of (n := 9) Try.func30 rfl rfl rfl fun w0 m0 => ?_
  refine GC.seq ?_
  refine GC.region (GL.u (QE.assign rfl) rfl <| GL.nilK (fun _ _ => rfl) ?_)
  refine GC.seq ?_
  refine GC.region (GL.u (QE.move rfl) rfl <| GL.u (QE.cmp rfl rfl) rfl <| GL.u (QE.move rfl) rfl <| GL.g ⟨_, _, _, rfl, rfl, rfl⟩ (QE.move rfl) rfl <| GL.g ⟨_, _, _, rfl, rfl, rfl⟩ (QE.cmp rfl rfl) rfl <| GL.u (QE.and rfl rfl) rfl <| GL.u (QE.assign rfl) rfl <| GL.nilK (fun _ _ => rfl) ?_)
  exact GC.ret (ret1 rfl (y1 := (cmpI .geq p0 0) && (cmpI .leq p0 65535)) (s1 := ()) (RV.tmp rfl) (RO.flat fun _ _ _ => trivial) h)

theorem addr_Four.ok {p0 : (Vector UInt8 4)} {K : TAddr → Prop} (h : addr_Four.W p0 K) : Ct P 48 [V p0 ()] [] K := by
  unfold addr_Four.W at h
  refine Ct.of (n := 10) Try.func48 rfl rfl rfl fun w0 m0 => ?_
  refine GC.seq ?_
  refine GC.region (GL.l rfl (LX.box (y := p0) (r := ()) rfl) fun b1 => GL.via (Via.frzBx (T := 83) 0 rfl (fun _ _ _ => trivial)) <| GL.l rfl (LX.alloc (y := TAddr_zero) (r := ())) fun b2 => GL.nilK (fun _ _ => rfl) ?_)
  refine GC.seq ?_
  refine GC.region (GL.u (QE.build (x := ({ V := 4, B := (Vector.replicate 16 (0 : UInt8)) } : TAddr)) (r := ()) (.cons rfl (fun _ => rfl) .nil) (.cons TAddr_l_V (4) () rfl rfl (.nil _ _))) rfl <| GL.l rfl (LX.alloc (y := TAddr_zero) (r := ())) fun b3 => GL.l rfl (LX.st (β := TAddr) (z := ({ V := 4, B := (Vector.replicate 16 (0 : UInt8)) } : TAddr)) (s := ()) 0 Lens.id rfl rfl rfl) fun _ => GL.nilK (fun _ _ => rfl) ?_)
  refine GC.seq ?_
  refine GC.draw (fun _ => True) [3] (.q 0 <| .q 1 <| .q 2 <| .tail [3]) mixed (by kernel_rfl) (GH.g rfl rfl (QE.fa rfl) rfl <| GH.g rfl rfl (QE.cutO (l := none) (h := none) rfl ob.none ob.none (fun _ => by decide) (fun _ => by decide)) rfl <| GH.gx rfl rfl (QX.cutV (v := p0) (l := none) (h := none) 0 rfl rfl ob.none ob.none (fun _ => by decide)) rfl fun q1 => GH.tail <| GT.l rfl rfl (LX.copyV (src := cut p0.toList 0 4) (s := q1) (lo := 0) (k := (16 - 0)) Try.underlying84 0 0 TAddr_l_B rfl rfl rfl rfl (by decide)) fun _ => GT.nilK (fun _ _ => rfl) ?_)
  refine GC.seq ?_
  refine GC.region (GL.u (QE.ld 0 Lens.id rfl rfl) rfl <| GL.l rfl (LX.st (β := TAddr) (z := ({ V := 4, B := vcopy (Vector.replicate 16 (0 : UInt8)) 0 (16 - 0) (cut p0.toList 0 4) } : TAddr)) (s := ()) 1 Lens.id rfl rfl rfl) fun _ => GL.nilK (fun _ _ => rfl) ?_)
  exact GC.ret (ret1 rfl (y1 := ({ V := 4, B := vcopy (Vector.replicate 16 (0 : UInt8)) 0 (16 - 0) (cut p0.toList 0 4) } : TAddr)) (s1 := ()) (RV.cell 1 rfl rfl) (RO.flat fun _ _ _ => trivial) h)

theorem addr_Right.ok {p0 : TAddr} {K : Bool → Prop} (h : addr_Right.W p0 K) : Ct P 43 [V p0 ()] [] K := by
  unfold addr_Right.W at h
  refine Ct.of (n := 20) Try.func43 rfl rfl rfl fun w0 m0 => ?_
  refine GC.seq ?_
  refine GC.region (GL.l rfl (LX.box (y := p0) (r := ()) rfl) fun b1 => GL.via (Via.frzBx (T := 39) 0 rfl (fun _ _ _ => trivial)) <| GL.u (QE.assign rfl) rfl <| GL.nilK (fun _ _ => rfl) ?_)
  refine GC.seq ?_
  refine GC.draw (fun _ => True) [] (.q 0 <| .q 1 <| .q 2 <| .q 3 <| .q 4 <| .q 5 <| .q 6 <| .q 7 <| .q 8 <| .q 9 <| .q 10 <| .q 11 <| .q 12 <| .l 13 <| .q 14 <| .q 15 <| .q 16 <| .q 17 <| .tail []) mixed (by kernel_rfl) (GH.gx rfl rfl (QX.fa 0 TAddr_l_V rfl rfl) rfl fun d1 => GH.gx rfl rfl (QX.ld 0 rfl rfl) rfl fun q1 => GH.g rfl rfl (QE.cmp rfl rfl) rfl <| GH.g rfl rfl (QE.move rfl) rfl <| GH.gx rfl ⟨_, _, _, rfl, rfl, rfl⟩ (QX.fa 2 TAddr_l_V rfl rfl) rfl fun d2 => GH.gx rfl ⟨_, _, _, rfl, rfl, rfl⟩ (QX.ld 0 rfl rfl) rfl fun q2 => GH.g rfl ⟨_, _, _, rfl, rfl, rfl⟩ (QE.cmp rfl rfl) rfl <| GH.g rfl ⟨_, _, _, rfl, rfl, rfl⟩ (QE.move rfl) rfl <| GH.gx rfl ⟨_, _, _, rfl, rfl, rfl⟩ (QX.ld 4 rfl rfl) rfl fun q3 => GH.gx rfl ⟨_, _, _, rfl, rfl, rfl⟩ (QX.fa 5 TAddr_l_B rfl rfl) rfl fun d3 => GH.gx rfl ⟨_, _, _, rfl, rfl, rfl⟩ (QX.cutV (v := p0.B) (l := none) (h := (some (4))) 0 rfl rfl ob.none (ob.some rfl (fun _ => rfl)) (fun _ => by decide)) rfl fun q4 => GH.gx rfl ⟨_, _, _, rfl, rfl, rfl⟩ (QX.arr (xs := cut p0.B.toList 0 4) (r := q4) 0 rfl rfl (by decide) h.1) rfl fun d4 => GH.gx rfl ⟨_, _, _, rfl, rfl, rfl⟩ (QX.ld 0 rfl rfl) rfl fun q5 => GH.l rfl ⟨_, _, _, rfl, rfl, rfl⟩ (LX.call (.cons rfl (fun h => h) .nil) (fun hg => addr_Four.ok (h.2.1 hg)) (fun hg => h.2.2 hg) .nil) fun ⟨⟨y1, h⟩, q6⟩ => GH.g rfl ⟨_, _, _, rfl, rfl, rfl⟩ (QE.eqA (α := TAddr) (a := p0) (b := y1) (r := ()) (s := ()) rfl rfl) rfl <| GH.g rfl ⟨_, _, _, rfl, rfl, rfl⟩ (QE.and rfl rfl) rfl <| GH.g rfl rfl (QE.or rfl rfl) rfl <| GH.g rfl rfl (QE.assign rfl) rfl <| GH.tail <| GT.nilK (fun _ _ => rfl) ?_)
  exact GC.ret (ret1 rfl (y1 := (cmpI .eql p0.V 6) || ((cmpI .eql p0.V 4) && (decide (p0 = y1)))) (s1 := ()) (RV.tmp rfl) (RO.flat fun _ _ _ => trivial) h)

theorem addr_Width.ok {p0 : TAddr} {K : Int → Prop} (h : addr_Width.W p0 K) : Ct P 49 [V p0 ()] [] K := by
  unfold addr_Width.W at h
  refine Ct.of (n := 11) Try.func49 rfl rfl rfl fun w0 m0 => ?_
  refine GC.seq ?_
  refine GC.region (GL.l rfl (LX.box (y := p0) (r := ()) rfl) fun b1 => GL.u (QE.assign rfl) rfl <| GL.nilK (fun _ _ => rfl) ?_)
  refine GC.seq ?_
  refine GC.block ?_
  refine GC.seq ?_
  refine GC.region (GL.u (QE.ld 0 Lens.id rfl rfl) rfl <| GL.l rfl (LX.call (.cons rfl (fun _ => rfl) .nil) (fun _ => addr_Right.ok h) (fun h => by cases h) .nil) fun ⟨⟨y1, h⟩, q1⟩ => GL.u (QE.not rfl) rfl <| GL.u (QE.assign rfl) rfl <| GL.nilK (fun _ _ => rfl) ?_)
  refine GC.cond rfl (fun hb => ?_) (fun hb => ?_)
  · replace h := h.1 hb
    refine GC.seq ?_
    refine GC.region (GL.u (QE.assign rfl) rfl <| GL.nilK (fun _ _ => rfl) ?_)
    exact GC.ret (ret1 rfl (y1 := 0) (s1 := ()) (RV.tmp rfl) (RO.flat fun _ _ _ => trivial) h)
  · replace h := h.2 hb
    refine GC.seq ?_
    refine GC.region (GL.u (QE.fa rfl) rfl <| GL.u (QE.ld 0 TAddr_l_V rfl rfl) rfl <| GL.u (QE.cmp rfl rfl) rfl <| GL.u (QE.assign rfl) rfl <| GL.nilK (fun _ _ => rfl) ?_)
    refine GC.cond rfl (fun hb => ?_) (fun hb => ?_)
    · replace h := h.1 hb
      refine GC.seq ?_
      refine GC.region (GL.u (QE.assign rfl) rfl <| GL.nilK (fun _ _ => rfl) ?_)
      exact GC.ret (ret1 rfl (y1 := 32) (s1 := ()) (RV.tmp rfl) (RO.flat fun _ _ _ => trivial) h)
    · replace h := h.2 hb
      refine GC.skipK (fun _ _ => rfl) ?_
      refine GC.seq ?_
      refine GC.region (GL.u (QE.assign rfl) rfl <| GL.nilK (fun _ _ => rfl) ?_)
      exact GC.ret (ret1 rfl (y1 := 128) (s1 := ()) (RV.tmp rfl) (RO.flat fun _ _ _ => trivial) h)

theorem addr_Mask.ok {p0 : TAddr} {p1 : Int} {K : TAddr → Prop} (h : addr_Mask.W p0 p1 K) : Ct P 50 [V p0 (), V p1 ()] [] K := by
  unfold addr_Mask.W at h
  refine Ct.of (n := 35) Try.func50 rfl rfl rfl fun w0 m0 => ?_
  refine GC.seq ?_
  refine GC.region (GL.l rfl (LX.box (y := p0) (r := ()) rfl) fun b1 => GL.l rfl (LX.alloc (y := TAddr_zero) (r := ())) fun b2 => GL.nilK (fun _ _ => rfl) ?_)
  refine GC.seq ?_
  refine GC.seq ?_
  refine GC.region (GL.u (QE.ld 1 Lens.id rfl rfl) rfl <| GL.l rfl (LX.call (.cons rfl (fun _ => rfl) .nil) (fun _ => addr_Right.ok h) (fun h => by cases h) .nil) fun ⟨⟨y1, h⟩, q1⟩ => GL.u (QE.not rfl) rfl <| GL.nilK (fun _ _ => rfl) ?_)
  refine GC.cond rfl (fun hb => ?_) (fun hb => ?_)
  · replace h := h.1 hb
    refine GC.seq ?_
    refine GC.region (GL.u (QE.build (x := ({ V := (0 : Int), B := (Vector.replicate 16 (0 : UInt8)) } : TAddr)) (r := ()) .nil (.nil _ _)) rfl <| GL.l rfl (LX.st (β := TAddr) (z := ({ V := (0 : Int), B := (Vector.replicate 16 (0 : UInt8)) } : TAddr)) (s := ()) 0 Lens.id rfl rfl rfl) fun _ => GL.nilK (fun _ _ => rfl) ?_)
    exact GC.ret (ret1 rfl (y1 := ({ V := (0 : Int), B := (Vector.replicate 16 (0 : UInt8)) } : TAddr)) (s1 := ()) (RV.cell 0 rfl rfl) (RO.flat fun _ _ _ => trivial) h)
  · replace h := h.2 hb
    refine GC.skipK (fun _ _ => rfl) ?_
    refine GC.seq ?_
    refine GC.seq ?_
    refine GC.region (GL.u (QE.move rfl) rfl <| GL.nilK (fun _ _ => rfl) ?_)
    refine GC.block ?_
    refine GC.loop ?_
    refine GLoop.weaken (h (fun x1 x2 => GLoop _ _ [(1, true, V (α := Int) p1 ()), (2, true, .pointer (some ⟨b1, 0, none⟩)), (4, true, .pointer (some ⟨b2, 0, none⟩)), (11, true, V (α := Int) x1 ())] [] [bx (α := TAddr) TAddr_zero () b2 39, bx (α := TAddr) x2 () b1 39] _) (fun x1 x2 h => ?_)) ⟨rfl, rfl, rfl, rfl, trivial⟩ trivial [0, 1] (by decide) ⟨rfl, rfl, trivial⟩
    refine GLoop.round ?_
    refine GC.seq ?_
    refine GC.region (GL.u (QE.cmp rfl rfl) rfl <| GL.nilK (fun _ _ => rfl) ?_)
    refine GC.seq ?_
    refine GC.cond rfl (fun hb => ?_) (fun hb => ?_)
    · replace h := h.1 hb
      refine GC.skipK (fun _ _ => rfl) ?_
      refine GC.seq ?_
      refine GC.block ?_
      refine GC.seq ?_
      refine GC.region (GL.u (QE.move rfl) rfl <| GL.u (QE.assign rfl) rfl <| GL.nilK (fun _ _ => rfl) ?_)
      refine GC.seq ?_
      refine GC.region (GL.u (QE.move rfl) rfl <| GL.u (QE.move rfl) rfl <| GL.u (QE.ar rfl rfl) rfl <| GL.u (QE.ar rfl rfl) rfl <| GL.u (QE.max2 rfl rfl) rfl <| GL.u (QE.min2 rfl rfl) rfl <| GL.u (QE.assign rfl) rfl <| GL.nilK (fun _ _ => rfl) ?_)
      refine GC.seq ?_
      refine GC.seq ?_
      refine GC.region (GL.u (QE.move rfl) rfl <| GL.u (QE.cmp rfl rfl) rfl <| GL.nilK (fun _ _ => rfl) ?_)
      obtain ⟨J1, hj1W, h⟩ := WJ.open h
      refine GC.joinAt (fun _ _ => rfl) (fun cx Q c => ∀ (x3 : Int), J1 x3 → GC cx Q [(1, true, V (α := Int) p1 ()), (2, true, .pointer (some ⟨b1, 0, none⟩)), (4, true, .pointer (some ⟨b2, 0, none⟩)), (11, true, V (α := Int) x1 ()), (5, true, V (α := Int) x1 ()), (6, true, V (α := Int) x3 ())] [] [bx (α := TAddr) TAddr_zero () b2 39, bx (α := TAddr) x2 () b1 39] c) ?_ (fun hj1 => ?_)
      · intro x3 h
        rw [hj1W] at h
        refine GC.region (GL.u (QE.move rfl) rfl <| GL.u (QE.fa rfl) rfl <| GL.u (QE.ia rfl rfl (fun _ => h.1)) rfl <| GL.u (QE.ld 1 (TAddr_l_B.comp (Lens.vec x1 (h.1))) rfl rfl) rfl <| GL.u (QE.move rfl) rfl <| GL.u (QE.ar rfl rfl) rfl <| GL.u (QE.convU (α := UInt64) rfl (run_underlying Try.underlying86) ⟨_, run_underlying Try.underlying3⟩) rfl <| GL.u (QE.shU (α := UInt8) (a := (255 : UInt8)) rfl rfl (fun _ => Int.natCast_nonneg _)) rfl <| GL.u (QE.arU (α := UInt8) rfl rfl) rfl <| GL.u (QE.fa rfl) rfl <| GL.u (QE.ia rfl rfl (fun _ => h.2.1)) rfl <| GL.l rfl (LX.st (β := UInt8) (z := (UI.of (arI .and .u8 ((vat x2.B x1).toNat : Int) (((UI.of (shI .shl .u8 255 (((UI.of (IntKind.u64.wrap (arI .sub .i64 8 x3)) : UInt64)).toNat : Int)) : UInt8)).toNat : Int)) : UInt8)) (s := ()) 1 (TAddr_l_B.comp (Lens.vec x1 (h.2.1))) rfl rfl rfl) fun _ => GL.nilK (fun _ _ => rfl) ?_)
        exact GC.region (GL.u (QE.ar rfl rfl) rfl <| GL.u (QE.move rfl) rfl <| GL.nil (GLoop.weaken h.2.2 ⟨rfl, rfl, rfl, rfl, trivial⟩ trivial [0, 1] (by decide) ⟨rfl, rfl, trivial⟩))
      refine GC.cond rfl (fun hb => ?_) (fun hb => ?_)
      · replace h := h.1 hb
        exact GC.region (GL.u (QE.assign rfl) rfl <| GL.nil (GC.weaken (hj1 _ h) ⟨rfl, rfl, rfl, rfl, rfl, rfl, trivial⟩ trivial [0, 1] (by decide) ⟨rfl, rfl, trivial⟩))
      · replace h := h.2 hb
        exact GC.skip (GC.weaken (hj1 _ h) ⟨rfl, rfl, rfl, rfl, rfl, rfl, trivial⟩ trivial [0, 1] (by decide) ⟨rfl, rfl, trivial⟩)
    · replace h := h.2 hb
      refine GC.exitK (fun _ _ => rfl) ?_
      refine GC.seq ?_
      refine GC.region (GL.u (QE.ld 1 Lens.id rfl rfl) rfl <| GL.l rfl (LX.st (β := TAddr) (z := x2) (s := ()) 0 Lens.id rfl rfl rfl) fun _ => GL.nilK (fun _ _ => rfl) ?_)
      exact GC.ret (ret1 rfl (y1 := x2) (s1 := ()) (RV.cell 0 rfl rfl) (RO.flat fun _ _ _ => trivial) h)

theorem cidr_Of.ok {p0 : TAddr} {p1 : Int} {K : TPrefix × Int → Prop} (h : cidr_Of.W p0 p1 K) : Ct P 46 [V p0 (), V p1 ()] [] K := by
  unfold cidr_Of.W at h
  refine Ct.of (n := 26) Try.func46 rfl rfl rfl fun w0 m0 => ?_
  refine GC.seq ?_
  refine GC.region (GL.l rfl (LX.box (y := p0) (r := ()) rfl) fun b1 => GL.l rfl (LX.alloc (y := TPrefix_zero) (r := ())) fun b2 => GL.u (QE.assign rfl) rfl <| GL.nilK (fun _ _ => rfl) ?_)
  refine GC.seq ?_
  refine GC.block ?_
  refine GC.seq ?_
  refine GC.region (GL.u (QE.ld 1 Lens.id rfl rfl) rfl <| GL.l rfl (LX.call (.cons rfl (fun _ => rfl) .nil) (fun _ => addr_Right.ok h) (fun h => by cases h) .nil) fun ⟨⟨y1, h⟩, q1⟩ => GL.u (QE.not rfl) rfl <| GL.u (QE.assign rfl) rfl <| GL.nilK (fun _ _ => rfl) ?_)
  refine GC.cond rfl (fun hb => ?_) (fun hb => ?_)
  · replace h := h.1 hb
    refine GC.seq ?_
    refine GC.region (GL.u (QE.build (x := ({ A := TAddr_zero, Bits := (0 : Int) } : TPrefix)) (r := ()) .nil (.nil _ _)) rfl <| GL.l rfl (LX.st (β := TPrefix) (z := ({ A := TAddr_zero, Bits := (0 : Int) } : TPrefix)) (s := ()) 0 Lens.id rfl rfl rfl) fun _ => GL.u (QE.assign rfl) rfl <| GL.nilK (fun _ _ => rfl) ?_)
    exact GC.ret (ret2 rfl (y1 := ({ A := TAddr_zero, Bits := (0 : Int) } : TPrefix)) (s1 := ()) (y2 := 1) (s2 := ()) (RV.cell 0 rfl rfl) (RV.tmp rfl) (RO.flat fun _ _ _ => trivial) (RO.flat fun _ _ _ => trivial) h)
  · replace h := h.2 hb
    refine GC.seq ?_
    refine GC.region (GL.u (QE.move rfl) rfl <| GL.u (QE.cmp rfl rfl) rfl <| GL.u (QE.move rfl) rfl <| GL.g ⟨_, _, _, rfl, rfl, rfl⟩ (QE.move rfl) rfl <| GL.g ⟨_, _, _, rfl, rfl, rfl⟩ (QE.ld 1 Lens.id rfl rfl) rfl <| GL.l ⟨_, _, _, rfl, rfl, rfl⟩ (LX.call (.cons rfl (fun h => h) .nil) (fun hg => addr_Width.ok (h.1 hg)) (fun hg => h.2 hg) .nil) fun ⟨⟨y2, h⟩, q2⟩ => GL.g ⟨_, _, _, rfl, rfl, rfl⟩ (QE.cmp rfl rfl) rfl <| GL.u (QE.or rfl rfl) rfl <| GL.u (QE.assign rfl) rfl <| GL.nilK (fun _ _ => rfl) ?_)
    refine GC.cond rfl (fun hb => ?_) (fun hb => ?_)
    · replace h := h.1 hb
      refine GC.seq ?_
      refine GC.region (GL.u (QE.build (x := ({ A := TAddr_zero, Bits := (0 : Int) } : TPrefix)) (r := ()) .nil (.nil _ _)) rfl <| GL.l rfl (LX.st (β := TPrefix) (z := ({ A := TAddr_zero, Bits := (0 : Int) } : TPrefix)) (s := ()) 0 Lens.id rfl rfl rfl) fun _ => GL.u (QE.assign rfl) rfl <| GL.nilK (fun _ _ => rfl) ?_)
      exact GC.ret (ret2 rfl (y1 := ({ A := TAddr_zero, Bits := (0 : Int) } : TPrefix)) (s1 := ()) (y2 := 6) (s2 := ()) (RV.cell 0 rfl rfl) (RV.tmp rfl) (RO.flat fun _ _ _ => trivial) (RO.flat fun _ _ _ => trivial) h)
    · replace h := h.2 hb
      refine GC.skipK (fun _ _ => rfl) ?_
      refine GC.seq ?_
      refine GC.region (GL.u (QE.ld 1 Lens.id rfl rfl) rfl <| GL.u (QE.move rfl) rfl <| GL.l rfl (LX.call (.cons rfl (fun _ => rfl) (.cons rfl (fun _ => rfl) .nil)) (fun _ => addr_Mask.ok h) (fun h => by cases h) .nil) fun ⟨⟨y3, h⟩, q3⟩ => GL.u (QE.move rfl) rfl <| GL.u (QE.build (x := ({ A := y3, Bits := p1 } : TPrefix)) (r := ()) (.cons rfl (fun _ => rfl) (.cons rfl (fun _ => rfl) .nil)) (.cons TPrefix_l_A (y3) () rfl rfl (.cons TPrefix_l_Bits (p1) () rfl rfl (.nil _ _)))) rfl <| GL.l rfl (LX.st (β := TPrefix) (z := ({ A := y3, Bits := p1 } : TPrefix)) (s := ()) 0 Lens.id rfl rfl rfl) fun _ => GL.u (QE.assign rfl) rfl <| GL.nilK (fun _ _ => rfl) ?_)
      exact GC.ret (ret2 rfl (y1 := ({ A := y3, Bits := p1 } : TPrefix)) (s1 := ()) (y2 := 0) (s2 := ()) (RV.cell 0 rfl rfl) (RV.tmp rfl) (RO.flat fun _ _ _ => trivial) (RO.flat fun _ _ _ => trivial) h)

theorem cidr_Right.ok {p0 : TPrefix} {K : Bool → Prop} (h : cidr_Right.W p0 K) : Ct P 41 [V p0 ()] [] K := by
  unfold cidr_Right.W at h
  refine Ct.of (n := 20) Try.func41 rfl rfl rfl fun w0 m0 => ?_
  refine GC.seq ?_
  refine GC.region (GL.l rfl (LX.box (y := p0) (r := ()) rfl) fun b1 => GL.u (QE.assign rfl) rfl <| GL.nilK (fun _ _ => rfl) ?_)
  refine GC.seq ?_
  refine GC.region (GL.u (QE.fa rfl) rfl <| GL.u (QE.ld 0 TPrefix_l_A rfl rfl) rfl <| GL.u (QE.fa rfl) rfl <| GL.u (QE.ld 0 TPrefix_l_Bits rfl rfl) rfl <| GL.l rfl (LX.call (.cons rfl (fun _ => rfl) (.cons rfl (fun _ => rfl) .nil)) (fun _ => cidr_Of.ok h) (fun h => by cases h) .nil) fun ⟨⟨y1, h⟩, q1⟩ => GL.u (QE.move rfl) rfl <| GL.u (QE.extract rfl rfl) rfl <| GL.u (QE.extract rfl rfl) rfl <| GL.l rfl (LX.alloc (y := TPrefix_zero) (r := ())) fun b2 => GL.l rfl (LX.st (β := TPrefix) (z := y1.1) (s := ()) 0 Lens.id rfl rfl rfl) fun _ => GL.u (QE.assign rfl) rfl <| GL.nilK (fun _ _ => rfl) ?_)
  refine GC.seq ?_
  refine GC.region (GL.u (QE.move rfl) rfl <| GL.u (QE.cmp rfl rfl) rfl <| GL.u (QE.move rfl) rfl <| GL.g ⟨_, _, _, rfl, rfl, rfl⟩ (QE.ld 0 Lens.id rfl rfl) rfl <| GL.g ⟨_, _, _, rfl, rfl, rfl⟩ (QE.ld 1 Lens.id rfl rfl) rfl <| GL.g ⟨_, _, _, rfl, rfl, rfl⟩ (QE.eqA (α := TPrefix) (a := y1.1) (b := p0) (r := ()) (s := ()) rfl rfl) rfl <| GL.u (QE.and rfl rfl) rfl <| GL.u (QE.assign rfl) rfl <| GL.nilK (fun _ _ => rfl) ?_)
  exact GC.ret (ret1 rfl (y1 := (cmpI .eql y1.2 0) && (decide (y1.1 = p0))) (s1 := ()) (RV.tmp rfl) (RO.flat fun _ _ _ => trivial) h)

theorem bytes_Compare.ok {p0 : (List UInt8)} {p1 : (List UInt8)} {r0 : R.Raw (List UInt8)} {r1 : R.Raw (List UInt8)} {K : Int → Prop} (h : bytes_Compare.W p0 p1 K) : Ct P 51 [V p0 r0, V p1 r1] [Fk (α := (List UInt8)) true p0 r0, Fk (α := (List UInt8)) true p1 r1] K := by
  unfold bytes_Compare.W at h
  refine Ct.of (n := 8) Try.func51 rfl rfl rfl fun w0 m0 => ?_
  refine GC.seq ?_
  refine GC.region (GL.u (QE.assign rfl) rfl <| GL.nilK (fun _ _ => rfl) ?_)
  refine GC.seq ?_
  refine GC.region (GL.u (QE.move rfl) rfl <| GL.u (QE.move rfl) rfl <| GL.l rfl (LX.bcmp (xs := p0) (ys := p1) (r := r0) (s := r1) 0 1 Try.func52 rfl rfl (by kernel_rfl) (by kernel_rfl) rfl rfl rfl rfl) fun _ => GL.u (QE.assign rfl) rfl <| GL.nilK (fun _ _ => rfl) ?_)
  exact GC.ret (ret1 rfl (y1 := bcmp p0 p1) (s1 := ()) (RV.tmp rfl) (RO.flat fun _ _ _ => trivial) h)

theorem addr_Less.ok {p0 : TAddr} {p1 : TAddr} {K : Bool → Prop} (h : addr_Less.W p0 p1 K) : Ct P 47 [V p0 (), V p1 ()] [] K := by
  unfold addr_Less.W at h
  refine Ct.of (n := 21) Try.func47 rfl rfl rfl fun w0 m0 => ?_
  refine GC.seq ?_
  refine GC.region (GL.l rfl (LX.box (y := p0) (r := ()) rfl) fun b1 => GL.via (Via.frzBx (T := 39) 0 rfl (fun _ _ _ => trivial)) <| GL.l rfl (LX.box (y := p1) (r := ()) rfl) fun b2 => GL.via (Via.frzBx (T := 39) 0 rfl (fun _ _ _ => trivial)) <| GL.u (QE.assign rfl) rfl <| GL.nilK (fun _ _ => rfl) ?_)
  refine GC.seq ?_
  refine GC.seq ?_
  refine GC.region (GL.ux (QX.fa 1 TAddr_l_V rfl rfl) rfl fun d1 => GL.ux (QX.ld 0 rfl rfl) rfl fun q1 => GL.ux (QX.fa 2 TAddr_l_V rfl rfl) rfl fun d2 => GL.ux (QX.ld 0 rfl rfl) rfl fun q2 => GL.u (QE.cmp rfl rfl) rfl <| GL.nilK (fun _ _ => rfl) ?_)
  refine GC.cond rfl (fun hb => ?_) (fun hb => ?_)
  · replace h := h.1 hb
    refine GC.seq ?_
    refine GC.region (GL.ux (QX.fa 5 TAddr_l_V rfl rfl) rfl fun d3 => GL.ux (QX.ld 0 rfl rfl) rfl fun q3 => GL.ux (QX.fa 6 TAddr_l_V rfl rfl) rfl fun d4 => GL.ux (QX.ld 0 rfl rfl) rfl fun q4 => GL.u (QE.cmp rfl rfl) rfl <| GL.u (QE.assign rfl) rfl <| GL.nilK (fun _ _ => rfl) ?_)
    exact GC.ret (ret1 rfl (y1 := cmpI .lss p0.V p1.V) (s1 := ()) (RV.tmp rfl) (RO.flat fun _ _ _ => trivial) h)
  · replace h := h.2 hb
    refine GC.skipK (fun _ _ => rfl) ?_
    refine GC.seq ?_
    refine GC.draw (fun _ => True) [] (.q 0 <| .q 1 <| .q 2 <| .q 3 <| .l 4 <| .q 5 <| .q 6 <| .tail []) mixed (by kernel_rfl) (GH.gx rfl rfl (QX.fa 5 TAddr_l_B rfl rfl) rfl fun d5 => GH.gx rfl rfl (QX.cutV (v := p0.B) (l := none) (h := none) 0 rfl rfl ob.none ob.none (fun _ => by decide)) rfl fun q5 => GH.gx rfl rfl (QX.fa 6 TAddr_l_B rfl rfl) rfl fun d6 => GH.gx rfl rfl (QX.cutV (v := p1.B) (l := none) (h := none) 0 rfl rfl ob.none ob.none (fun _ => by decide)) rfl fun q6 => GH.l rfl rfl (LX.call (.cons rfl (fun _ => rfl) (.cons rfl (fun _ => rfl) .nil)) (fun _ => bytes_Compare.ok h) (fun h => by cases h) (.cons 2 rfl (fun _ => rfl) (.cons 0 rfl (fun _ => rfl) .nil))) fun ⟨⟨y1, h⟩, q7⟩ => GH.g rfl rfl (QE.cmp rfl rfl) rfl <| GH.g rfl rfl (QE.assign rfl) rfl <| GH.tail <| GT.nilK (fun _ _ => rfl) ?_)
    exact GC.ret (ret1 rfl (y1 := cmpI .lss y1 0) (s1 := ()) (RV.tmp rfl) (RO.flat fun _ _ _ => trivial) h)

theorem cidr_Less.ok {p0 : TPrefix} {p1 : TPrefix} {K : Bool → Prop} (h : cidr_Less.W p0 p1 K) : Ct P 42 [V p0 (), V p1 ()] [] K := by
  unfold cidr_Less.W at h
  refine Ct.of (n := 20) Try.func42 rfl rfl rfl fun w0 m0 => ?_
  refine GC.seq ?_
  refine GC.region (GL.l rfl (LX.box (y := p0) (r := ()) rfl) fun b1 => GL.l rfl (LX.box (y := p1) (r := ()) rfl) fun b2 => GL.u (QE.assign rfl) rfl <| GL.nilK (fun _ _ => rfl) ?_)
  refine GC.seq ?_
  refine GC.seq ?_
  refine GC.region (GL.u (QE.fa rfl) rfl <| GL.u (QE.ld 1 TPrefix_l_A rfl rfl) rfl <| GL.u (QE.fa rfl) rfl <| GL.u (QE.ld 0 TPrefix_l_A rfl rfl) rfl <| GL.u (QE.eqA (α := TAddr) (a := p0.A) (b := p1.A) (r := ()) (s := ()) rfl rfl) rfl <| GL.nilK (fun _ _ => rfl) ?_)
  refine GC.cond rfl (fun hb => ?_) (fun hb => ?_)
  · replace h := h.1 hb
    refine GC.seq ?_
    refine GC.region (GL.u (QE.fa rfl) rfl <| GL.u (QE.ld 1 TPrefix_l_Bits rfl rfl) rfl <| GL.u (QE.fa rfl) rfl <| GL.u (QE.ld 0 TPrefix_l_Bits rfl rfl) rfl <| GL.u (QE.cmp rfl rfl) rfl <| GL.u (QE.assign rfl) rfl <| GL.nilK (fun _ _ => rfl) ?_)
    exact GC.ret (ret1 rfl (y1 := cmpI .lss p0.Bits p1.Bits) (s1 := ()) (RV.tmp rfl) (RO.flat fun _ _ _ => trivial) h)
  · replace h := h.2 hb
    refine GC.skipK (fun _ _ => rfl) ?_
    refine GC.seq ?_
    refine GC.region (GL.u (QE.fa rfl) rfl <| GL.u (QE.ld 1 TPrefix_l_A rfl rfl) rfl <| GL.u (QE.fa rfl) rfl <| GL.u (QE.ld 0 TPrefix_l_A rfl rfl) rfl <| GL.l rfl (LX.call (.cons rfl (fun _ => rfl) (.cons rfl (fun _ => rfl) .nil)) (fun _ => addr_Less.ok h) (fun h => by cases h) .nil) fun ⟨⟨y1, h⟩, q1⟩ => GL.u (QE.assign rfl) rfl <| GL.nilK (fun _ _ => rfl) ?_)
    exact GC.ret (ret1 rfl (y1 := y1) (s1 := ()) (RV.tmp rfl) (RO.flat fun _ _ _ => trivial) h)

theorem view_rising.ok {p0 : (List TPrefix)} {r0 : R.Raw (List TPrefix)} {K : Bool → Prop} (h : view_rising.W p0 K) : Ct P 31 [V p0 r0] [Fk (α := (List TPrefix)) true p0 r0] K := by
  unfold view_rising.W at h
  refine Ct.of (n := 30) Try.func31 rfl rfl rfl fun w0 m0 => ?_
  refine GC.seq ?_
  refine GC.region (GL.u (QE.assign rfl) rfl <| GL.nilK (fun _ _ => rfl) ?_)
  refine GC.seq ?_
  refine GC.seq ?_
  refine GC.region (GL.u (QE.move rfl) rfl <| GL.u (QE.len rfl (run_underlying Try.underlying43)) rfl <| GL.u (QE.move rfl) rfl <| GL.nilK (fun _ _ => rfl) ?_)
  refine GC.block ?_
  refine GC.loop ?_
  refine GLoop.weaken (h (fun x1 => GLoop _ _ [(0, true, V (α := (List TPrefix)) p0 r0), (5, true, V (α := (List TPrefix)) p0 r0), (6, true, V (α := Int) (p0.length : Int) ()), (7, true, V (α := Int) x1 ())] [Fk (α := (List TPrefix)) true p0 r0] [] _) (fun x1 h => ?_)) ⟨rfl, rfl, rfl, rfl, trivial⟩ ⟨⟨0, rfl⟩, trivial⟩ [] (by decide) trivial
  refine GLoop.round ?_
  refine GC.seq ?_
  refine GC.region (GL.u (QE.cmp rfl rfl) rfl <| GL.nilK (fun _ _ => rfl) ?_)
  refine GC.seq ?_
  refine GC.cond rfl (fun hb => ?_) (fun hb => ?_)
  · replace h := h.1 hb
    refine GC.skipK (fun _ _ => rfl) ?_
    refine GC.seq ?_
    refine GC.block ?_
    refine GC.seq ?_
    refine GC.region (GL.u (QE.move rfl) rfl <| GL.ux (QX.ias (xs := p0) (r := r0) 0 rfl rfl rfl (fun _ => h.1)) rfl fun d1 => GL.ux (QX.ld 0 rfl rfl) rfl fun q1 => GL.l rfl (LX.alloc (y := TPrefix_zero) (r := ())) fun b1 => GL.u (QE.assign rfl) rfl <| GL.l rfl (LX.st (β := TPrefix) (z := lat p0 x1) (s := ()) 0 Lens.id rfl rfl rfl) fun _ => GL.nilK (fun _ _ => rfl) ?_)
    refine GC.seq ?_
    refine GC.draw (fun _ => True) [] (.q 0 <| .l 1 <| .q 2 <| .q 3 <| .q 4 <| .q 5 <| .q 6 <| .q 7 <| .q 8 <| .q 9 <| .q 10 <| .q 11 <| .q 12 <| .l 13 <| .q 14 <| .q 15 <| .q 16 <| .tail []) mixed (by kernel_rfl) (GH.g rfl rfl (QE.ld 0 Lens.id rfl rfl) rfl <| GH.l rfl rfl (LX.call (.cons rfl (fun _ => rfl) .nil) (fun _ => cidr_Right.ok h.2) (fun h => by cases h) .nil) fun ⟨⟨y1, h⟩, q2⟩ => GH.g rfl rfl (QE.not rfl) rfl <| GH.g rfl rfl (QE.move rfl) rfl <| GH.g rfl ⟨_, _, _, rfl, rfl, rfl⟩ (QE.move rfl) rfl <| GH.g rfl ⟨_, _, _, rfl, rfl, rfl⟩ (QE.cmp rfl rfl) rfl <| GH.g rfl ⟨_, _, _, rfl, rfl, rfl⟩ (QE.move rfl) rfl <| GH.g rfl ⟨_, _, _, rfl, rfl, rfl⟩ (QE.move rfl) rfl <| GH.g rfl ⟨_, _, _, rfl, rfl, rfl⟩ (QE.move rfl) rfl <| GH.g rfl ⟨_, _, _, rfl, rfl, rfl⟩ (QE.ar rfl rfl) rfl <| GH.gx rfl ⟨_, _, _, rfl, rfl, rfl⟩ (QX.ias (xs := p0) (r := r0) 3 rfl rfl rfl h.1) rfl fun d2 => GH.gx rfl ⟨_, _, _, rfl, rfl, rfl⟩ (QX.ld 0 rfl rfl) rfl fun q3 => GH.g rfl ⟨_, _, _, rfl, rfl, rfl⟩ (QE.ld 0 Lens.id rfl rfl) rfl <| GH.l rfl ⟨_, _, _, rfl, rfl, rfl⟩ (LX.call (.cons rfl (fun h => h) (.cons rfl (fun h => h) .nil)) (fun hg => cidr_Less.ok (h.2.1 hg)) (fun hg => h.2.2 hg) .nil) fun ⟨⟨y2, h⟩, q4⟩ => GH.g rfl ⟨_, _, _, rfl, rfl, rfl⟩ (QE.not rfl) rfl <| GH.g rfl ⟨_, _, _, rfl, rfl, rfl⟩ (QE.and rfl rfl) rfl <| GH.g rfl rfl (QE.or rfl rfl) rfl <| GH.tail <| GT.nilK (fun _ _ => rfl) ?_)
    refine GC.cond rfl (fun hb => ?_) (fun hb => ?_)
    · replace h := h.1 hb
      refine GC.seq ?_
      refine GC.region (GL.u (QE.assign rfl) rfl <| GL.nilK (fun _ _ => rfl) ?_)
      exact GC.ret (ret1 rfl (y1 := false) (s1 := ()) (RV.tmp rfl) (RO.flat fun _ _ _ => trivial) h)
    · replace h := h.2 hb
      refine GC.skipK (fun _ _ => rfl) ?_
      exact GC.region (GL.u (QE.ar rfl rfl) rfl <| GL.u (QE.move rfl) rfl <| GL.nil (GLoop.weaken h ⟨rfl, rfl, rfl, rfl, trivial⟩ ⟨⟨6, rfl⟩, trivial⟩ [] (by decide) trivial))
  · replace h := h.2 hb
    refine GC.exitK (fun _ _ => rfl) ?_
    refine GC.seq ?_
    refine GC.region (GL.u (QE.assign rfl) rfl <| GL.nilK (fun _ _ => rfl) ?_)
    exact GC.ret (ret1 rfl (y1 := true) (s1 := ()) (RV.tmp rfl) (RO.flat fun _ _ _ => trivial) h)

theorem hostport_None.ok {p0 : TEndpoint} {K : Bool → Prop} (h : hostport_None.W p0 K) : Ct P 29 [V p0 ()] [] K := by
  unfold hostport_None.W at h
  refine Ct.of (n := 6) Try.func29 rfl rfl rfl fun w0 m0 => ?_
  refine GC.seq ?_
  refine GC.region (GL.l rfl (LX.box (y := p0) (r := ()) rfl) fun b1 => GL.u (QE.assign rfl) rfl <| GL.nilK (fun _ _ => rfl) ?_)
  refine GC.seq ?_
  refine GC.region (GL.u (QE.ld 0 Lens.id rfl rfl) rfl <| GL.u (QE.build (x := ({ A := TAddr_zero, Port := (0 : Int) } : TEndpoint)) (r := ()) .nil (.nil _ _)) rfl <| GL.u (QE.eqA (α := TEndpoint) (a := p0) (b := ({ A := TAddr_zero, Port := (0 : Int) } : TEndpoint)) (r := ()) (s := ()) rfl rfl) rfl <| GL.u (QE.assign rfl) rfl <| GL.nilK (fun _ _ => rfl) ?_)
  exact GC.ret (ret1 rfl (y1 := decide (p0 = ({ A := TAddr_zero, Port := (0 : Int) } : TEndpoint))) (s1 := ()) (RV.tmp rfl) (RO.flat fun _ _ _ => trivial) h)

theorem hostport_Right.ok {p0 : TEndpoint} {K : Bool → Prop} (h : hostport_Right.W p0 K) : Ct P 32 [V p0 ()] [] K := by
  unfold hostport_Right.W at h
  refine Ct.of (n := 16) Try.func32 rfl rfl rfl fun w0 m0 => ?_
  refine GC.seq ?_
  refine GC.region (GL.l rfl (LX.box (y := p0) (r := ()) rfl) fun b1 => GL.u (QE.assign rfl) rfl <| GL.nilK (fun _ _ => rfl) ?_)
  refine GC.seq ?_
  refine GC.region (GL.u (QE.fa rfl) rfl <| GL.u (QE.ld 0 TEndpoint_l_A rfl rfl) rfl <| GL.l rfl (LX.call (.cons rfl (fun _ => rfl) .nil) (fun _ => addr_Right.ok h) (fun h => by cases h) .nil) fun ⟨⟨y1, h⟩, q1⟩ => GL.u (QE.move rfl) rfl <| GL.g ⟨_, _, _, rfl, rfl, rfl⟩ (QE.fa rfl) rfl <| GL.g ⟨_, _, _, rfl, rfl, rfl⟩ (QE.ld 0 TEndpoint_l_Port rfl rfl) rfl <| GL.g ⟨_, _, _, rfl, rfl, rfl⟩ (QE.cmp rfl rfl) rfl <| GL.u (QE.and rfl rfl) rfl <| GL.u (QE.move rfl) rfl <| GL.g ⟨_, _, _, rfl, rfl, rfl⟩ (QE.fa rfl) rfl <| GL.g ⟨_, _, _, rfl, rfl, rfl⟩ (QE.ld 0 TEndpoint_l_Port rfl rfl) rfl <| GL.g ⟨_, _, _, rfl, rfl, rfl⟩ (QE.cmp rfl rfl) rfl <| GL.u (QE.and rfl rfl) rfl <| GL.u (QE.assign rfl) rfl <| GL.nilK (fun _ _ => rfl) ?_)
  exact GC.ret (ret1 rfl (y1 := (y1 && (cmpI .geq p0.Port 1)) && (cmpI .leq p0.Port 65535)) (s1 := ()) (RV.tmp rfl) (RO.flat fun _ _ _ => trivial) h)

theorem view_Right.ok {p0 : TConf} {r0 : R.Raw TConf} {K : Bool → Prop} (h : view_Right.W p0 K) : Ct P 14 [V p0 r0] [Fk (α := TConf) true p0 r0] K := by
  unfold view_Right.W at h
  refine Ct.of (n := 76) Try.func14 rfl rfl rfl fun w0 m0 => ?_
  refine GC.seq ?_
  refine GC.region (GL.l rfl (LX.box (y := p0) (r := r0) rfl) fun b1 => GL.u (QE.assign rfl) rfl <| GL.nilK (fun _ _ => rfl) ?_)
  refine GC.seq ?_
  refine GC.seq ?_
  refine GC.region (GL.u (QE.fa rfl) rfl <| GL.u (QE.ld 0 TConf_l_Port rfl rfl) rfl <| GL.l rfl (LX.call (.cons rfl (fun _ => rfl) .nil) (fun _ => view_short.ok h) (fun h => by cases h) .nil) fun ⟨⟨y1, h⟩, q1⟩ => GL.u (QE.not rfl) rfl <| GL.u (QE.move rfl) rfl <| GL.g ⟨_, _, _, rfl, rfl, rfl⟩ (QE.fa rfl) rfl <| GL.g ⟨_, _, _, rfl, rfl, rfl⟩ (QE.ld 0 TConf_l_Peers rfl rfl) rfl <| GL.fact (Fk (α := (List TPeer)) true p0.Peers r0) (fun _ _ hf _ => (TConf_l_Peers.okg (hf 1 rfl rfl) :)) <| GL.g ⟨_, _, _, rfl, rfl, rfl⟩ (QE.len rfl (run_underlying Try.underlying25)) rfl <| GL.g ⟨_, _, _, rfl, rfl, rfl⟩ (QE.cmp rfl rfl) rfl <| GL.u (QE.or rfl rfl) rfl <| GL.nilK (fun _ _ => rfl) ?_)
  refine GC.cond rfl (fun hb => ?_) (fun hb => ?_)
  · replace h := h.1 hb
    refine GC.seq ?_
    refine GC.region (GL.u (QE.assign rfl) rfl <| GL.nilK (fun _ _ => rfl) ?_)
    exact GC.ret (ret1 rfl (y1 := false) (s1 := ()) (RV.tmp rfl) (RO.flat fun _ _ _ => trivial) h)
  · replace h := h.2 hb
    refine GC.skipK (fun _ _ => rfl) ?_
    refine GC.seq ?_
    refine GC.region (GL.l rfl (LX.mkMap (κ := (Vector UInt8 32)) (β := Bool)) fun b2 => GL.u (QE.buildV (x := (Vector.replicate 32 (0 : UInt8))) .nil (.nil _ _)) rfl <| GL.l rfl (LX.mput (κ := (Vector UInt8 32)) (β := Bool) (k := (Vector.replicate 32 (0 : UInt8))) (z := true) (s := ()) 0 0 rfl rfl rfl rfl rfl (fun _ _ _ => trivial) _ (.inr rfl)) fun _ => GL.u (QE.move rfl) rfl <| GL.l rfl (LX.mkMap (κ := TPrefix) (β := Bool)) fun b3 => GL.u (QE.assign rfl) rfl <| GL.u (QE.assign rfl) rfl <| GL.nilK (fun _ _ => rfl) ?_)
    refine GC.seq ?_
    refine GC.seq ?_
    refine GC.region (GL.u (QE.fa rfl) rfl <| GL.u (QE.ld 2 TConf_l_Peers rfl rfl) rfl <| GL.u (QE.len rfl (run_underlying Try.underlying25)) rfl <| GL.u (QE.move rfl) rfl <| GL.nilK (fun _ _ => rfl) ?_)
    refine GC.block ?_
    refine GC.loop ?_
    refine GLoop.weaken (h (fun x1 x2 x3 => ∀ (q2 : List (R.Raw Bool)) (q3 : List (R.Raw Bool)), GLoop _ _ [(3, true, .map (some b2)), (4, true, .map (some b3)), (24, true, V (α := (List TPeer)) p0.Peers r0), (25, true, V (α := Int) (p0.Peers.length : Int) ()), (26, true, V (α := Int) x1 ())] [Fk (α := (List TPeer)) true p0.Peers r0, Mok (κ := (Vector UInt8 32)) (β := Bool) x2 q2, Mok (κ := TPrefix) (β := Bool) x3 q3] [mo (κ := TPrefix) (β := Bool) x3 q3 b3, mo (κ := (Vector UInt8 32)) (β := Bool) x2 q2 b2] _) (fun x1 x2 x3 h => ?_) (rput ([] : List ((Vector UInt8 32) × Bool)) [] (Vector.replicate 32 (0 : UInt8)) ()) []) ⟨rfl, rfl, rfl, rfl, rfl, trivial⟩ ⟨⟨3, rfl⟩, ⟨1, rfl⟩, ⟨0, rfl⟩, trivial⟩ [0, 1] (by decide) ⟨rfl, rfl, trivial⟩
    intro q2 q3
    refine GLoop.round ?_
    refine GC.seq ?_
    refine GC.region (GL.u (QE.cmp rfl rfl) rfl <| GL.nilK (fun _ _ => rfl) ?_)
    refine GC.seq ?_
    refine GC.cond rfl (fun hb => ?_) (fun hb => ?_)
    · replace h := h.1 hb
      refine GC.skipK (fun _ _ => rfl) ?_
      refine GC.seq ?_
      refine GC.block ?_
      refine GC.seq ?_
      refine GC.region (GL.ux (QX.ias (xs := p0.Peers) (r := r0) 0 rfl rfl rfl (fun _ => h.1)) rfl fun d1 => GL.ux (QX.ld 0 rfl rfl) rfl fun q4 => GL.l rfl (LX.alloc (y := TPeer_zero) (r := (none, 0))) fun b4 => GL.fact (Fk (α := TPeer) true TPeer_zero (none, 0)) (fun _ _ _ _ => .inl rfl) <| GL.l rfl (LX.st (β := TPeer) (z := lat p0.Peers x1) (s := q4) 0 Lens.id rfl rfl rfl) fun _ => GL.nilK (fun _ _ => rfl) ?_)
      refine GC.seq ?_
      refine GC.seq ?_
      refine GC.region (GL.u (QE.move rfl) rfl <| GL.u (QE.fa rfl) rfl <| GL.u (QE.ld 0 TPeer_l_Key rfl rfl) rfl <| GL.ux (QX.lookO (κ := (Vector UInt8 32)) (β := Bool) (k := (lat p0.Peers x1).Key) (z := false) (zr := ()) 2 4 rfl rfl rfl rfl (fun _ _ => trivial)) rfl fun q5 => GL.u (QE.move rfl) rfl <| GL.g ⟨_, _, _, rfl, rfl, rfl⟩ (QE.fa rfl) rfl <| GL.g ⟨_, _, _, rfl, rfl, rfl⟩ (QE.ld 0 TPeer_l_Keep rfl rfl) rfl <| GL.l ⟨_, _, _, rfl, rfl, rfl⟩ (LX.call (.cons rfl (fun h => h) .nil) (fun hg => view_short.ok (h.2.1 hg)) (fun hg => h.2.2 hg) .nil) fun ⟨⟨y2, h⟩, q6⟩ => GL.g ⟨_, _, _, rfl, rfl, rfl⟩ (QE.not rfl) rfl <| GL.u (QE.or rfl rfl) rfl <| GL.u (QE.move rfl) rfl <| GL.g ⟨_, _, _, rfl, rfl, rfl⟩ (QE.fa rfl) rfl <| GL.g ⟨_, _, _, rfl, rfl, rfl⟩ (QE.ld 0 TPeer_l_Allowed rfl rfl) rfl <| GL.fact (Fk (α := (List TPrefix)) true ((lat p0.Peers x1).Allowed) q4) (fun _ _ hf _ => (TPeer_l_Allowed.okg (hf 3 rfl rfl) :)) <| GL.l ⟨_, _, _, rfl, rfl, rfl⟩ (LX.call (.cons rfl (fun h => h) .nil) (fun hg => view_rising.ok (h.1 hg)) (fun hg => h.2 hg) (.cons 0 rfl (fun _ => rfl) .nil)) fun ⟨⟨y3, h⟩, q7⟩ => GL.g ⟨_, _, _, rfl, rfl, rfl⟩ (QE.not rfl) rfl <| GL.u (QE.or rfl rfl) rfl <| GL.nilK (fun _ _ => rfl) ?_)
      refine GC.cond rfl (fun hb => ?_) (fun hb => ?_)
      · replace h := h.1 hb
        refine GC.seq ?_
        refine GC.region (GL.u (QE.assign rfl) rfl <| GL.nilK (fun _ _ => rfl) ?_)
        exact GC.ret (ret1 rfl (y1 := false) (s1 := ()) (RV.tmp rfl) (RO.flat fun _ _ _ => trivial) h)
      · replace h := h.2 hb
        refine GC.skipK (fun _ _ => rfl) ?_
        refine GC.seq ?_
        refine GC.seq ?_
        refine GC.region (GL.u (QE.fa rfl) rfl <| GL.u (QE.ld 0 TPeer_l_End rfl rfl) rfl <| GL.l rfl (LX.call (.cons rfl (fun _ => rfl) .nil) (fun _ => hostport_None.ok h) (fun h => by cases h) .nil) fun ⟨⟨y4, h⟩, q8⟩ => GL.u (QE.not rfl) rfl <| GL.u (QE.move rfl) rfl <| GL.g ⟨_, _, _, rfl, rfl, rfl⟩ (QE.fa rfl) rfl <| GL.g ⟨_, _, _, rfl, rfl, rfl⟩ (QE.ld 0 TPeer_l_End rfl rfl) rfl <| GL.l ⟨_, _, _, rfl, rfl, rfl⟩ (LX.call (.cons rfl (fun h => h) .nil) (fun hg => hostport_Right.ok (h.1 hg)) (fun hg => h.2 hg) .nil) fun ⟨⟨y5, h⟩, q9⟩ => GL.g ⟨_, _, _, rfl, rfl, rfl⟩ (QE.not rfl) rfl <| GL.u (QE.and rfl rfl) rfl <| GL.nilK (fun _ _ => rfl) ?_)
        refine GC.cond rfl (fun hb => ?_) (fun hb => ?_)
        · replace h := h.1 hb
          refine GC.seq ?_
          refine GC.region (GL.u (QE.assign rfl) rfl <| GL.nilK (fun _ _ => rfl) ?_)
          exact GC.ret (ret1 rfl (y1 := false) (s1 := ()) (RV.tmp rfl) (RO.flat fun _ _ _ => trivial) h)
        · replace h := h.2 hb
          refine GC.skipK (fun _ _ => rfl) ?_
          refine GC.seq ?_
          refine GC.region (GL.u (QE.move rfl) rfl <| GL.u (QE.fa rfl) rfl <| GL.u (QE.ld 0 TPeer_l_Key rfl rfl) rfl <| GL.l rfl (LX.mput (κ := (Vector UInt8 32)) (β := Bool) (k := (lat p0.Peers x1).Key) (z := true) (s := ()) 2 10 rfl rfl rfl rfl rfl (fun _ _ _ => trivial) _ (.inl rfl)) fun _ => GL.nilK (fun _ _ => rfl) ?_)
          refine GC.seq ?_
          refine GC.region (GL.u (QE.fa rfl) rfl <| GL.u (QE.ld 0 TPeer_l_Allowed rfl rfl) rfl <| GL.u (QE.len rfl (run_underlying Try.underlying43)) rfl <| GL.u (QE.move rfl) rfl <| GL.nilK (fun _ _ => rfl) ?_)
          refine GC.block ?_
          refine GC.loop ?_
          refine GLoop.weaken (h (fun x4 x5 => ∀ (q10 : List (R.Raw Bool)), GLoop _ _ [(3, true, .map (some b2)), (4, true, .map (some b3)), (24, true, V (α := (List TPeer)) p0.Peers r0), (25, true, V (α := Int) (p0.Peers.length : Int) ()), (26, true, V (α := Int) x1 ()), (60, true, V (α := (List TPrefix)) ((lat p0.Peers x1).Allowed) q4), (61, true, V (α := Int) (((lat p0.Peers x1).Allowed).length : Int) ()), (62, true, V (α := Int) x4 ())] [Fk (α := (List TPeer)) true p0.Peers r0, Fk (α := (List TPrefix)) true ((lat p0.Peers x1).Allowed) q4, Mok (κ := (Vector UInt8 32)) (β := Bool) (mput x2 ((lat p0.Peers x1).Key) true) (rput x2 q2 ((lat p0.Peers x1).Key) ()), Mok (κ := TPrefix) (β := Bool) x5 q10] [mo (κ := TPrefix) (β := Bool) x5 q10 b3, mo (κ := (Vector UInt8 32)) (β := Bool) (mput x2 ((lat p0.Peers x1).Key) true) (rput x2 q2 ((lat p0.Peers x1).Key) ()) b2] _) (fun x4 x5 h => ?_) q3) ⟨rfl, rfl, rfl, rfl, rfl, rfl, rfl, rfl, trivial⟩ ⟨⟨10, rfl⟩, ⟨4, rfl⟩, ⟨0, rfl⟩, ⟨12, rfl⟩, trivial⟩ [1, 2] (by decide) ⟨rfl, rfl, trivial⟩
          intro q10
          refine GLoop.round ?_
          refine GC.seq ?_
          refine GC.region (GL.u (QE.cmp rfl rfl) rfl <| GL.nilK (fun _ _ => rfl) ?_)
          refine GC.seq ?_
          refine GC.cond rfl (fun hb => ?_) (fun hb => ?_)
          · replace h := h.1 hb
            refine GC.skipK (fun _ _ => rfl) ?_
            refine GC.seq ?_
            refine GC.block ?_
            refine GC.seq ?_
            refine GC.region (GL.ux (QX.ias (xs := (lat p0.Peers x1).Allowed) (r := q4) 1 rfl rfl rfl (fun _ => h.1)) rfl fun d2 => GL.ux (QX.ld 0 rfl rfl) rfl fun q11 => GL.l rfl (LX.alloc (y := TPrefix_zero) (r := ())) fun b5 => GL.l rfl (LX.st (β := TPrefix) (z := lat ((lat p0.Peers x1).Allowed) x4) (s := ()) 0 Lens.id rfl rfl rfl) fun _ => GL.nilK (fun _ _ => rfl) ?_)
            refine GC.seq ?_
            refine GC.seq ?_
            refine GC.region (GL.u (QE.move rfl) rfl <| GL.u (QE.ld 0 Lens.id rfl rfl) rfl <| GL.ux (QX.lookO (κ := TPrefix) (β := Bool) (k := lat ((lat p0.Peers x1).Allowed) x4) (z := false) (zr := ()) 1 5 rfl rfl rfl rfl (fun _ _ => trivial)) rfl fun q12 => GL.nilK (fun _ _ => rfl) ?_)
            refine GC.cond rfl (fun hb => ?_) (fun hb => ?_)
            · replace h := h.2.1 hb
              refine GC.seq ?_
              refine GC.region (GL.u (QE.assign rfl) rfl <| GL.nilK (fun _ _ => rfl) ?_)
              exact GC.ret (ret1 rfl (y1 := false) (s1 := ()) (RV.tmp rfl) (RO.flat fun _ _ _ => trivial) h)
            · replace h := h.2.2 hb
              refine GC.skipK (fun _ _ => rfl) ?_
              refine GC.region (GL.u (QE.move rfl) rfl <| GL.u (QE.ld 0 Lens.id rfl rfl) rfl <| GL.l rfl (LX.mput (κ := TPrefix) (β := Bool) (k := lat ((lat p0.Peers x1).Allowed) x4) (z := true) (s := ()) 1 6 rfl rfl rfl rfl rfl (fun _ _ _ => trivial) _ (.inl rfl)) fun _ => GL.nilK (fun _ _ => rfl) ?_)
              exact GC.region (GL.u (QE.ar rfl rfl) rfl <| GL.u (QE.move rfl) rfl <| GL.nil (GLoop.weaken (h (rput x5 q10 (lat ((lat p0.Peers x1).Allowed) x4) ())) ⟨rfl, rfl, rfl, rfl, rfl, rfl, rfl, rfl, trivial⟩ ⟨⟨4, rfl⟩, ⟨5, rfl⟩, ⟨6, rfl⟩, ⟨0, rfl⟩, trivial⟩ [1, 2] (by decide) ⟨rfl, rfl, trivial⟩))
          · replace h := h.2 hb
            refine GC.exitK (fun _ _ => rfl) ?_
            exact GC.region (GL.u (QE.ar rfl rfl) rfl <| GL.u (QE.move rfl) rfl <| GL.nil (GLoop.weaken (h (rput x2 q2 ((lat p0.Peers x1).Key) ()) q10) ⟨rfl, rfl, rfl, rfl, rfl, trivial⟩ ⟨⟨0, rfl⟩, ⟨2, rfl⟩, ⟨3, rfl⟩, trivial⟩ [0, 1] (by decide) ⟨rfl, rfl, trivial⟩))
    · replace h := h.2 hb
      refine GC.exitK (fun _ _ => rfl) ?_
      refine GC.seq ?_
      refine GC.region (GL.u (QE.move rfl) rfl <| GL.u (QE.lenO (κ := TPrefix) (β := Bool) 0 rfl rfl) rfl <| GL.u (QE.cmp rfl rfl) rfl <| GL.u (QE.assign rfl) rfl <| GL.nilK (fun _ _ => rfl) ?_)
      exact GC.ret (ret1 rfl (y1 := cmpI .leq (x3.length : Int) 64) (s1 := ()) (RV.tmp rfl) (RO.flat fun _ _ _ => trivial) h)

theorem differ_byKey.ok {p0 : TConf} {r0 : R.Raw TConf} {K : (Mp (Vector UInt8 32) TPeer) → Prop} (h : differ_byKey.W p0 K) : Ct P 17 [V p0 r0] [Fk (α := TConf) true p0 r0] K := by
  unfold differ_byKey.W at h
  refine Ct.of (n := 20) Try.func17 rfl rfl rfl fun w0 m0 => ?_
  refine GC.seq ?_
  refine GC.region (GL.l rfl (LX.box (y := p0) (r := r0) rfl) fun b1 => GL.u (QE.assign (v := V ((⟨[]⟩ : (Mp (Vector UInt8 32) TPeer)) : (Mp (Vector UInt8 32) TPeer)) (none, [])) rfl) rfl <| GL.nilK (fun _ _ => rfl) ?_)
  refine GC.seq ?_
  refine GC.region (GL.l rfl (LX.mkMap (κ := (Vector UInt8 32)) (β := TPeer)) fun b2 => GL.u (QE.assign rfl) rfl <| GL.nilK (fun _ _ => rfl) ?_)
  refine GC.seq ?_
  refine GC.seq ?_
  refine GC.region (GL.u (QE.fa rfl) rfl <| GL.u (QE.ld 1 TConf_l_Peers rfl rfl) rfl <| GL.fact (Fk (α := (List TPeer)) true p0.Peers r0) (fun _ _ hf _ => (TConf_l_Peers.okg (hf 1 rfl rfl) :)) <| GL.u (QE.len rfl (run_underlying Try.underlying25)) rfl <| GL.u (QE.move rfl) rfl <| GL.nilK (fun _ _ => rfl) ?_)
  refine GC.block ?_
  refine GC.loop ?_
  refine GLoop.weaken (h (fun x1 x2 => ∀ (q1 : List (R.Raw TPeer)), GLoop _ _ [(3, true, .map (some b2)), (8, true, V (α := (List TPeer)) p0.Peers r0), (9, true, V (α := Int) (p0.Peers.length : Int) ()), (10, true, V (α := Int) x1 ())] [Fk (α := (List TPeer)) true p0.Peers r0, Mok (κ := (Vector UInt8 32)) (β := TPeer) x2 q1] [mo (κ := (Vector UInt8 32)) (β := TPeer) x2 q1 b2] _) (fun x1 x2 h => ?_) []) ⟨rfl, rfl, rfl, rfl, trivial⟩ ⟨⟨0, rfl⟩, ⟨1, rfl⟩, trivial⟩ [0] (by decide) ⟨rfl, trivial⟩
  intro q1
  refine GLoop.round ?_
  refine GC.seq ?_
  refine GC.region (GL.u (QE.cmp rfl rfl) rfl <| GL.nilK (fun _ _ => rfl) ?_)
  refine GC.seq ?_
  refine GC.cond rfl (fun hb => ?_) (fun hb => ?_)
  · replace h := h.1 hb
    refine GC.skipK (fun _ _ => rfl) ?_
    refine GC.seq ?_
    refine GC.block ?_
    refine GC.seq ?_
    refine GC.region (GL.ux (QX.ias (xs := p0.Peers) (r := r0) 0 rfl rfl rfl (fun _ => h.1)) rfl fun d1 => GL.ux (QX.ld 0 rfl rfl) rfl fun q2 => GL.l rfl (LX.alloc (y := TPeer_zero) (r := (none, 0))) fun b3 => GL.fact (Fk (α := TPeer) true TPeer_zero (none, 0)) (fun _ _ _ _ => .inl rfl) <| GL.l rfl (LX.st (β := TPeer) (z := lat p0.Peers x1) (s := q2) 0 Lens.id rfl rfl rfl) fun _ => GL.nilK (fun _ _ => rfl) ?_)
    refine GC.region (GL.u (QE.move rfl) rfl <| GL.u (QE.fa rfl) rfl <| GL.u (QE.ld 0 TPeer_l_Key rfl rfl) rfl <| GL.u (QE.ld 0 Lens.id rfl rfl) rfl <| GL.l rfl (LX.mput (κ := (Vector UInt8 32)) (β := TPeer) (k := (lat p0.Peers x1).Key) (z := lat p0.Peers x1) (s := q2) 1 4 rfl rfl rfl rfl rfl (fun _ _ hf => okf hf 1 rfl) _ (.inl rfl)) fun _ => GL.nilK (fun _ _ => rfl) ?_)
    exact GC.region (GL.u (QE.ar rfl rfl) rfl <| GL.u (QE.move rfl) rfl <| GL.nil (GLoop.weaken (h.2 (rput x2 q1 ((lat p0.Peers x1).Key) q2)) ⟨rfl, rfl, rfl, rfl, trivial⟩ ⟨⟨4, rfl⟩, ⟨0, rfl⟩, trivial⟩ [1] (by decide) ⟨rfl, trivial⟩))
  · replace h := h.2 hb
    refine GC.exitK (fun _ _ => rfl) ?_
    refine GC.seq ?_
    refine GC.region (GL.u (QE.move rfl) rfl <| GL.u (QE.assign rfl) rfl <| GL.nilK (fun _ _ => rfl) ?_)
    exact GC.ret (Via.ret (Via.frzMo 0 1 rfl rfl) (ret1 rfl (y1 := (⟨x2⟩ : (Mp (Vector UInt8 32) TPeer))) (s1 := (some b2, q1)) (RV.tmp rfl) (RO.fact 0 rfl) h))

theorem slices_Clone_Peer_Peer_sv.ok {p0 : (List TPeer)} {r0 : R.Raw (List TPeer)} {K : (List TPeer) → Prop} (h : slices_Clone_Peer_Peer_sv.W p0 K) : CtO (κ := ((Option Go.Addr × Nat) × List (R.Raw TPeer))) P 35 [V p0 r0] [Fk (α := (List TPeer)) true p0 r0] [] K (fun y s => V (α := (List TPeer)) y s.1) (fun y s => [Okl (α := TPeer) y s.2]) (fun y s => [sv (α := TPeer) 45 (List.length y) y s.2 s.1.1 s.1.2]) := by
  unfold slices_Clone_Peer_Peer_sv.W at h
  refine CtO.of (n := 8) Try.func35 rfl rfl rfl fun w0 m0 => ?_
  refine GC.seq ?_
  refine GC.region (GL.u (QE.assign (v := V ([] : (List TPeer)) (none, 0)) rfl) rfl <| GL.fact (Fk (α := (List TPeer)) true ([] : (List TPeer)) (none, 0)) (fun _ _ _ _ => .inl rfl) <| GL.nilK (fun _ _ => rfl) ?_)
  refine GC.seq ?_
  refine GC.seq ?_
  refine GC.region (GL.u (QE.move rfl) rfl <| GL.ux (QX.eqNil (xs := p0) (r := r0) 1 Try.underlying25 rfl rfl) rfl fun n1 => GL.pure 0 rfl fun hp1 => GL.nilK (fun _ _ => rfl) ?_)
  refine GC.cond rfl (fun hb => ?_) (fun hb => ?_)
  · replace h := (h n1 hp1).1 hb
    refine GC.seq ?_
    refine GC.region (GL.u (QE.assign (v := V ([] : (List TPeer)) (none, 0)) rfl) rfl <| GL.fact (Fk (α := (List TPeer)) true ([] : (List TPeer)) (none, 0)) (fun _ _ _ _ => .inl rfl) <| GL.nilK (fun _ _ => rfl) ?_)
    exact GC.ret (Via.ret (Via.nilSv (α := TPeer) 45) (retO ([] : (List TPeer)) ((none, 0), []) (RVs.r1 rfl (RV.tmp rfl)) (.ix 0 rfl .nil) [0] (by decide) (SubO.cons rfl SubO.nil) h))
  · replace h := (h n1 hp1).2 hb
    refine GC.skipK (fun _ _ => rfl) ?_
    refine GC.seq ?_
    refine GC.region (GL.l rfl (LX.lit (xs := ([] : (List TPeer))) (rs := []) (fs1 := []) trivial rfl trivial (fun _ _ hf => trivial) (by kernel_rfl)) fun q1 => GL.u (QE.move rfl) rfl <| GL.l rfl (LX.appendS (ys := p0) (r := (q1, 0)) (s := r0) Try.underlying25 0 3 rfl rfl rfl rfl rfl h.1) fun ⟨q2, rs1⟩ => GL.u (QE.assign rfl) rfl <| GL.nilK (fun _ _ => rfl) ?_)
    exact GC.ret (retO p0 (q2, rs1) (RVs.r1 rfl (RV.tmp rfl)) (.ix 0 rfl .nil) [0] (by decide) (SubO.cons rfl SubO.nil) h.2)

theorem differ_shared_1_c.ok {p0 : TPeer} {p1 : (Mp (Vector UInt8 32) TPeer)} {r0 : R.Raw TPeer} {a1 : Value} {K : Bool → Prop} (h : differ_shared_1_c.W p0 p1 K) : Ct P 36 [V p0 r0, a1] [Fk (α := TPeer) true p0 r0, Pl true p1 a1] K := by
  unfold differ_shared_1_c.W at h
  refine Ct.of (n := 15) Try.func36 rfl rfl rfl fun w0 m0 => ?_
  refine GC.seq ?_
  refine GC.region (GL.l rfl (LX.box (y := p0) (r := r0) rfl) fun b1 => GL.u (QE.assign rfl) rfl <| GL.nilK (fun _ _ => rfl) ?_)
  refine GC.seq ?_
  refine GC.region (GL.ux (QX.ld 1 rfl rfl) rfl fun q1 => GL.u (QE.fa rfl) rfl <| GL.u (QE.ld 0 TPeer_l_Key rfl rfl) rfl <| GL.ux (QX.lookF (κ := (Vector UInt8 32)) (β := TPeer) (k := p0.Key) (z := TPeer_zero) (zr := (none, 0)) 0 rfl rfl rfl (fun _ _ => .inl rfl)) rfl fun q2 => GL.u (QE.move rfl) rfl <| GL.u (QE.extract rfl rfl) rfl <| GL.u (QE.extract rfl rfl) rfl <| GL.l rfl (LX.alloc (y := TPeer_zero) (r := (none, 0))) fun b2 => GL.fact (Fk (α := TPeer) true TPeer_zero (none, 0)) (fun _ _ _ _ => .inl rfl) <| GL.l rfl (LX.st (β := TPeer) (z := mval p1.l p0.Key TPeer_zero) (s := q2) 0 Lens.id rfl rfl rfl) fun _ => GL.u (QE.assign rfl) rfl <| GL.nilK (fun _ _ => rfl) ?_)
  refine GC.seq ?_
  refine GC.region (GL.u (QE.move rfl) rfl <| GL.u (QE.not rfl) rfl <| GL.u (QE.assign rfl) rfl <| GL.nilK (fun _ _ => rfl) ?_)
  exact GC.ret (ret1 rfl (y1 := !((mget p1.l p0.Key).isSome)) (s1 := ()) (RV.tmp rfl) (RO.flat fun _ _ _ => trivial) h)

theorem slices_IndexFunc_Peer_Peer_sf36c.ok {n0_ : Nat} {p0 : (List TPeer)} {p1_0 : (Mp (Vector UInt8 32) TPeer)} {q0 : Option Go.Addr × Nat} {r0 : List (R.Raw TPeer)} {a1_0 : Value} {K : Int × (List TPeer) → Prop} (h : slices_IndexFunc_Peer_Peer_sf36c.W n0_ p0 p1_0 K) : CtO (κ := Unit × (List (R.Raw TPeer))) P 44 [.slice q0.1 n0_ q0.2, .func (.func 36) #[] ([a1_0] : List Value).toArray] [Okl (α := TPeer) p0 r0, Pl true p1_0 a1_0] [sv (α := TPeer) 45 n0_ p0 r0 (q0).1 (q0).2] K (fun y s => V (α := Int) y.1 ()) (fun y s => [Okl (α := TPeer) y.2 s.2]) (fun y s => [sv (α := TPeer) 45 n0_ y.2 s.2 (q0).1 (q0).2]) := by
  unfold slices_IndexFunc_Peer_Peer_sf36c.W at h
  refine CtO.of (n := 19) Try.func44 rfl rfl rfl fun w0 m0 => ?_
  refine GC.seq ?_
  refine GC.region (GL.u (QE.assign rfl) rfl <| GL.nilK (fun _ _ => rfl) ?_)
  refine GC.seq ?_
  refine GC.seq ?_
  refine GC.region (GL.u (QE.move rfl) rfl <| GL.u (QE.len rfl (run_underlying Try.underlying25)) rfl <| GL.u (QE.move rfl) rfl <| GL.nilK (fun _ _ => rfl) ?_)
  refine GC.block ?_
  refine GC.loop ?_
  refine GLoop.weaken (h (fun x1 => GLoop _ _ [(0, true, .slice (q0).1 n0_ (q0).2), (1, true, .func (.func 36) #[] ([a1_0] : List Value).toArray), (7, true, V (α := Int) ((n0_ : Nat) : Int) ()), (8, true, V (α := Int) x1 ())] [Pl true p1_0 a1_0, Okl (α := TPeer) p0 r0] [sv (α := TPeer) 45 n0_ p0 r0 (q0).1 (q0).2] _) (fun x1 h => ?_)) ⟨rfl, rfl, rfl, rfl, trivial⟩ ⟨⟨1, rfl⟩, ⟨0, rfl⟩, trivial⟩ [0] (by decide) ⟨rfl, trivial⟩
  refine GLoop.round ?_
  refine GC.seq ?_
  refine GC.region (GL.u (QE.cmp rfl rfl) rfl <| GL.nilK (fun _ _ => rfl) ?_)
  refine GC.seq ?_
  refine GC.cond rfl (fun hb => ?_) (fun hb => ?_)
  · replace h := h.1 hb
    refine GC.skipK (fun _ _ => rfl) ?_
    refine GC.seq ?_
    refine GC.block ?_
    refine GC.seq ?_
    refine GC.region (GL.u (QE.move rfl) rfl <| GL.u (QE.assign rfl) rfl <| GL.nilK (fun _ _ => rfl) ?_)
    refine GC.seq ?_
    refine GC.region (GL.u (QE.move rfl) rfl <| GL.u (QE.move rfl) rfl <| GL.u (QE.move rfl) rfl <| GL.u (QE.iaS (xs := p0) (rs := r0) (r := q0) 0 rfl rfl rfl (fun _ => h.1)) rfl <| GL.u (QE.ldS (xs := p0) (rs := r0) (i := x1) 0 rfl rfl (fun _ => h.1)) rfl <| GL.fact (Fk (α := TPeer) true (lat p0 x1) (rat r0 R.dflt x1)) (fun _ _ hf _ => okl_at (okls hf 1 rfl) h.1) <| GL.l rfl (LX.callE (Enters.val (caps := [a1_0]) rfl (.cons rfl (fun _ => rfl) .nil)) (fun _ => differ_shared_1_c.ok h.2) (fun h => by cases h) (.cons 0 rfl (fun _ => rfl) (.consP 1 rfl (fun _ => rfl) .nil))) fun ⟨⟨y1, h⟩, q1⟩ => GL.nilK (fun _ _ => rfl) ?_)
    refine GC.cond rfl (fun hb => ?_) (fun hb => ?_)
    · replace h := h.1 hb
      refine GC.seq ?_
      refine GC.region (GL.u (QE.move rfl) rfl <| GL.u (QE.assign rfl) rfl <| GL.nilK (fun _ _ => rfl) ?_)
      exact GC.ret (retO (x1, p0) ((), r0) (RVs.r1 rfl (RV.tmp rfl)) (.ix 3 rfl .nil) [0] (by decide) (SubO.cons rfl SubO.nil) h)
    · replace h := h.2 hb
      refine GC.skipK (fun _ _ => rfl) ?_
      exact GC.region (GL.u (QE.ar rfl rfl) rfl <| GL.u (QE.move rfl) rfl <| GL.nil (GLoop.weaken h ⟨rfl, rfl, rfl, rfl, trivial⟩ ⟨⟨2, rfl⟩, ⟨3, rfl⟩, trivial⟩ [0] (by decide) ⟨rfl, trivial⟩))
  · replace h := h.2 hb
    refine GC.exitK (fun _ _ => rfl) ?_
    refine GC.seq ?_
    refine GC.region (GL.u (QE.assign rfl) rfl <| GL.nilK (fun _ _ => rfl) ?_)
    exact GC.ret (retO ((-1), p0) ((), r0) (RVs.r1 rfl (RV.tmp rfl)) (.ix 1 rfl .nil) [0] (by decide) (SubO.cons rfl SubO.nil) h)

theorem slices_DeleteFunc_Peer_Peer_sf36c_consume.ok {n0_ : Nat} {p0 : (List TPeer)} {p1_0 : (Mp (Vector UInt8 32) TPeer)} {q0 : Option Go.Addr × Nat} {r0 : List (R.Raw TPeer)} {a1_0 : Value} {K : (List TPeer) → Prop} (h : slices_DeleteFunc_Peer_Peer_sf36c_consume.W n0_ p0 p1_0 K) : CtO (κ := R.Raw (List TPeer)) P 34 [.slice q0.1 n0_ q0.2, .func (.func 36) #[] ([a1_0] : List Value).toArray] [Okl (α := TPeer) p0 r0, Pl true p1_0 a1_0] [sv (α := TPeer) 45 n0_ p0 r0 (q0).1 (q0).2] K (fun y s => V (α := (List TPeer)) y s) (fun y s => [Fk (α := (List TPeer)) true y s]) (fun y s => []) := by
  unfold slices_DeleteFunc_Peer_Peer_sf36c_consume.W at h
  refine CtO.of (n := 42) Try.func34 rfl rfl rfl fun w0 m0 => ?_
  refine GC.seq ?_
  refine GC.region (GL.u (QE.assign (v := V ([] : (List TPeer)) (none, 0)) rfl) rfl <| GL.fact (Fk (α := (List TPeer)) true ([] : (List TPeer)) (none, 0)) (fun _ _ _ _ => .inl rfl) <| GL.nilK (fun _ _ => rfl) ?_)
  refine GC.seq ?_
  refine GC.region (GL.u (QE.move rfl) rfl <| GL.u (QE.move rfl) rfl <| GL.l rfl (LX.callO (σ := Int × (List TPeer)) (κ := Unit × (List (R.Raw TPeer))) (osP := [sv (α := TPeer) 45 n0_ p0 r0 (q0).1 (q0).2]) (osR := []) (val := fun y s => V (α := Int) y.1 ()) (F := fun y s => [Okl (α := TPeer) y.2 s.2]) (O := fun y s => [sv (α := TPeer) 45 n0_ y.2 s.2 (q0).1 (q0).2]) (by exact (Enters.fn (.cons rfl (fun _ => rfl) (.cons rfl (fun _ => rfl) .nil)))) (slices_IndexFunc_Peer_Peer_sf36c.ok h) (.ix 1 rfl (.ix 2 rfl .nil)) (ozC oz_sv ozN) (env' := fun i => (10, true, (fun y s => V (α := Int) y.1 ()) i.1.1 i.2) :: _) (fun _ _ _ _ _ _ h => h.put rfl rfl)) fun ⟨⟨y1, h⟩, q1⟩ => GL.u (QE.assign rfl) rfl <| GL.nilK (fun _ _ => rfl) ?_)
  refine GC.seq ?_
  refine GC.seq ?_
  refine GC.region (GL.u (QE.move rfl) rfl <| GL.u (QE.cmp rfl rfl) rfl <| GL.nilK (fun _ _ => rfl) ?_)
  refine GC.cond rfl (fun hb => ?_) (fun hb => ?_)
  · replace h := h.1 hb
    refine GC.seq ?_
    refine GC.region (GL.u (QE.move rfl) rfl <| GL.u (QE.assign rfl) rfl <| GL.nilK (fun _ _ => rfl) ?_)
    exact GC.ret (Via.ret (Via.frzSvAll 0 0 rfl rfl) (retO y1.2 q0 (RVs.r1 rfl (RV.tmpS 1 rfl rfl)) (.ix 0 rfl .nil) [] (by decide) SubO.nil h))
  · replace h := h.2 hb
    refine GC.skipK (fun _ _ => rfl) ?_
    refine GC.seq ?_
    refine GC.seq ?_
    refine GC.region (GL.u (QE.move rfl) rfl <| GL.u (QE.ar rfl rfl) rfl <| GL.u (QE.assign rfl) rfl <| GL.nilK (fun _ _ => rfl) ?_)
    refine GC.block ?_
    refine GC.loop ?_
    refine GLoop.weaken (h (fun x1 x2 x3 => ∀ (q2 : List (R.Raw TPeer)), GLoop _ _ [(0, true, .slice (q0).1 n0_ (q0).2), (1, true, .func (.func 36) #[] ([a1_0] : List Value).toArray), (5, true, V (α := Int) x1 ()), (6, true, V (α := Int) x2 ())] [Pl true p1_0 a1_0, Okl (α := TPeer) x3 q2] [sv (α := TPeer) 45 n0_ x3 q2 (q0).1 (q0).2] _) (fun x1 x2 x3 h => ?_) q1.2) ⟨rfl, rfl, rfl, rfl, trivial⟩ ⟨⟨3, rfl⟩, ⟨0, rfl⟩, trivial⟩ [0] (by decide) ⟨rfl, trivial⟩
    intro q2
    refine GLoop.round ?_
    refine GC.seq ?_
    refine GC.seq ?_
    refine GC.region (GL.u (QE.move rfl) rfl <| GL.u (QE.move rfl) rfl <| GL.u (QE.len rfl (run_underlying Try.underlying25)) rfl <| GL.u (QE.cmp rfl rfl) rfl <| GL.nilK (fun _ _ => rfl) ?_)
    refine GC.cond rfl (fun hb => ?_) (fun hb => ?_)
    · replace h := h.1 hb
      refine GC.skipK (fun _ _ => rfl) ?_
      refine GC.seq ?_
      refine GC.block ?_
      refine GC.seq ?_
      refine GC.region (GL.u (QE.move rfl) rfl <| GL.u (QE.move rfl) rfl <| GL.u (QE.iaS (xs := x3) (rs := q2) (r := q0) 0 rfl rfl rfl (fun _ => h.1)) rfl <| GL.u (QE.ldS (xs := x3) (rs := q2) (i := x2) 0 rfl rfl (fun _ => h.1)) rfl <| GL.fact (Fk (α := TPeer) true (lat x3 x2) (rat q2 R.dflt x2)) (fun _ _ hf _ => okl_at (okls hf 1 rfl) h.1) <| GL.l rfl (LX.alloc (y := TPeer_zero) (r := (none, 0))) fun b1 => GL.fact (Fk (α := TPeer) true TPeer_zero (none, 0)) (fun _ _ _ _ => .inl rfl) <| GL.l rfl (LX.st (β := TPeer) (z := lat x3 x2) (s := rat q2 R.dflt x2) 0 Lens.id rfl rfl rfl) fun _ => GL.nilK (fun _ _ => rfl) ?_)
      refine GC.seq ?_
      refine GC.region (GL.u (QE.move rfl) rfl <| GL.u (QE.ld 0 Lens.id rfl rfl) rfl <| GL.l rfl (LX.callE (Enters.val (caps := [a1_0]) rfl (.cons rfl (fun _ => rfl) .nil)) (fun _ => differ_shared_1_c.ok h.2) (fun h => by cases h) (.cons 1 rfl (fun _ => rfl) (.consP 2 rfl (fun _ => rfl) .nil))) fun ⟨⟨y2, h⟩, q3⟩ => GL.u (QE.not rfl) rfl <| GL.nilK (fun _ _ => rfl) ?_)
      obtain ⟨J1, hj1W, h⟩ := WJ.open h
      refine GC.joinAt (fun _ _ => rfl) (fun cx Q c => ∀ (x4 : Int) (x5 : (List TPeer)) (q4 : List (R.Raw TPeer)), J1 x4 x5 → GC cx Q [(0, true, .slice (q0).1 n0_ (q0).2), (1, true, .func (.func 36) #[] ([a1_0] : List Value).toArray), (5, true, V (α := Int) x4 ()), (6, true, V (α := Int) x2 ())] [Pl true p1_0 a1_0, Okl (α := TPeer) x5 q4] [sv (α := TPeer) 45 n0_ x5 q4 (q0).1 (q0).2] c) ?_ (fun hj1 => ?_)
      · intro x4 x5 q4 h
        rw [hj1W] at h
        exact GC.region (GL.u (QE.move rfl) rfl <| GL.u (QE.ar rfl rfl) rfl <| GL.u (QE.assign rfl) rfl <| GL.nil (GLoop.weaken (h q4) ⟨rfl, rfl, rfl, rfl, trivial⟩ ⟨⟨0, rfl⟩, ⟨1, rfl⟩, trivial⟩ [0] (by decide) ⟨rfl, trivial⟩))
      refine GC.cond rfl (fun hb => ?_) (fun hb => ?_)
      · replace h := h.1 hb
        refine GC.seq ?_
        refine GC.region (GL.u (QE.move rfl) rfl <| GL.u (QE.move rfl) rfl <| GL.u (QE.ld 0 Lens.id rfl rfl) rfl <| GL.u (QE.iaS (xs := x3) (rs := q2) (r := q0) 1 rfl rfl rfl (fun _ => h.1)) rfl <| GL.l rfl (LX.stS (xs := x3) (rs := q2) (i := x1) (z := lat x3 x2) (s := rat q2 R.dflt x2) 1 4 rfl rfl rfl h.1 rfl (fun _ _ hf => okf hf 2 rfl)) fun _ => GL.nilK (fun _ _ => rfl) ?_)
        exact GC.region (GL.u (QE.move rfl) rfl <| GL.u (QE.ar rfl rfl) rfl <| GL.u (QE.assign rfl) rfl <| GL.nil (GC.weaken (hj1 _ _ (List.set q2 x1.toNat (rat q2 R.dflt x2)) h.2) ⟨rfl, rfl, rfl, rfl, trivial⟩ ⟨⟨4, rfl⟩, ⟨0, rfl⟩, trivial⟩ [1] (by decide) ⟨rfl, trivial⟩))
      · replace h := h.2 hb
        exact GC.skip (GC.weaken (hj1 _ _ q2 h) ⟨rfl, rfl, rfl, rfl, trivial⟩ ⟨⟨3, rfl⟩, ⟨4, rfl⟩, trivial⟩ [1] (by decide) ⟨rfl, trivial⟩)
    · replace h := h.2 hb
      refine GC.exitK (fun _ _ => rfl) ?_
      refine GC.seq ?_
      refine GC.region (GL.u (QE.move rfl) rfl <| GL.u (QE.move rfl) rfl <| GL.u (QE.cutB (xs := x3) (rs := q2) (r := q0) (l := (some (x1))) 0 rfl rfl (ob.some rfl (fun _ => rfl)) (fun _ => h.1)) rfl <| GL.l rfl (LX.clr (xs := x3) (rs := q2) (l := (x1).toNat) (z := TPeer_zero) (zr := (none, 0)) Try.underlying25 0 1 rfl rfl (toNat_le h.1) rfl (fun _ _ => .inl rfl)) fun _ => GL.nilK (fun _ _ => rfl) ?_)
      refine GC.seq ?_
      refine GC.region (GL.u (QE.move rfl) rfl <| GL.u (QE.move rfl) rfl <| GL.u (QE.cutF (xs := (List.take x1.toNat x3 ++ List.replicate (x3.length - x1.toNat) TPeer_zero)) (rs := (List.take x1.toNat q2 ++ List.replicate (x3.length - x1.toNat) (none, 0))) (r := q0) (h := (some (x1))) 0 rfl rfl (ob.some rfl (fun _ => rfl)) (fun _ => h.2.1)) rfl <| GL.u (QE.assign rfl) rfl <| GL.nilK (fun _ _ => rfl) ?_)
      exact GC.ret (Via.ret (Via.frzSv (x1) 0 0 rfl rfl h.2.1) (retO (cut (List.take x1.toNat x3 ++ List.replicate (x3.length - x1.toNat) TPeer_zero) 0 x1) q0 (RVs.r1 rfl (RV.tmp rfl)) (.ix 0 rfl .nil) [] (by decide) SubO.nil h.2.2))
end Go.Cw
