/- That the code does it. Written by gen.py. -/
import Derived.Test.YtcckclbpajegnaaCwW
import Derived.Test.YtcckclbpajegnaaCwN
import Derived.Test.YtcckclbpajegnaaCwP1
set_option linter.all false
set_option linter.unusedVariables false
set_option linter.unusedSimpArgs false
set_option maxRecDepth 4000
namespace Go.Cw
open Go Go.Proofs
theorem r35_At.ok {p0 : TConf} {p1 : (Vector UInt8 32)} {r0 : R.Raw TConf} {K : Int → Prop} (h : r35_At.W p0 p1 K) : Ct P 23 [V p0 r0, V p1 ()] [Fk (α := TConf) true p0 r0] K := by
  unfold r35_At.W at h
  refine Ct.of (n := 22) Try.func23 rfl rfl rfl fun w0 m0 => ?_
  refine GC.seq ?_
  refine GC.region (GL.l rfl (LX.box (y := p0) (r := r0) rfl) fun b1 => GL.l rfl (LX.box (y := p1) (r := ()) rfl) fun b2 => GL.u (QE.assign rfl) rfl <| GL.nilK (fun _ _ => rfl) ?_)
  refine GC.seq ?_
  refine GC.seq ?_
  refine GC.region (GL.u (QE.assign rfl) rfl <| GL.nilK (fun _ _ => rfl) ?_)
  refine GC.block ?_
  refine GC.loop ?_
  refine GLoop.weaken (h (fun x1 => GLoop _ _ [(2, true, .pointer (some ⟨b1, 0, none⟩)), (3, true, .pointer (some ⟨b2, 0, none⟩)), (5, true, V (α := Int) x1 ())] [Fk (α := TConf) true p0 r0] [bx (α := (Vector UInt8 32)) p1 () b2 23, bx (α := TConf) p0 r0 b1 27] _) (fun x1 h => ?_)) ⟨rfl, rfl, rfl, trivial⟩ ⟨⟨0, rfl⟩, trivial⟩ [0, 1] (by decide) ⟨rfl, rfl, trivial⟩
  refine GLoop.round ?_
  refine GC.seq ?_
  refine GC.seq ?_
  refine GC.region (GL.u (QE.move rfl) rfl <| GL.u (QE.fa rfl) rfl <| GL.u (QE.ld 1 TConf_l_Peers rfl rfl) rfl <| GL.fact (Fk (α := (List TPeer)) true p0.Peers r0) (fun _ _ hf _ => (TConf_l_Peers.okg (hf 0 rfl rfl) :)) <| GL.u (QE.len rfl (run_underlying Try.underlying25)) rfl <| GL.u (QE.cmp rfl rfl) rfl <| GL.nilK (fun _ _ => rfl) ?_)
  refine GC.cond rfl (fun hb => ?_) (fun hb => ?_)
  · replace h := h.1 hb
    refine GC.skipK (fun _ _ => rfl) ?_
    refine GC.seq ?_
    refine GC.block ?_
    refine GC.seq ?_
    refine GC.draw (fun _ => True) [] (.q 0 <| .q 1 <| .q 2 <| .q 3 <| .q 4 <| .q 5 <| .q 6 <| .q 7 <| .tail []) mixed (by kernel_rfl) (GH.g rfl rfl (QE.fa rfl) rfl <| GH.g rfl rfl (QE.ld 1 TConf_l_Peers rfl rfl) rfl <| GH.g rfl rfl (QE.move rfl) rfl <| GH.gx rfl rfl (QX.ias (xs := p0.Peers) (r := r0) 0 rfl rfl rfl (fun _ => h.1)) rfl fun d1 => GH.gx rfl rfl (QX.fa 0 TPeer_l_Key rfl rfl) rfl fun d2 => GH.gx rfl rfl (QX.ld 0 rfl rfl) rfl fun q1 => GH.g rfl rfl (QE.ld 0 Lens.id rfl rfl) rfl <| GH.g rfl rfl (QE.eqA (α := (Vector UInt8 32)) (a := (lat p0.Peers x1).Key) (b := p1) (r := ()) (s := ()) rfl rfl) rfl <| GH.tail <| GT.nilK (fun _ _ => rfl) ?_)
    refine GC.cond rfl (fun hb => ?_) (fun hb => ?_)
    · replace h := h.2.1 hb
      refine GC.seq ?_
      refine GC.region (GL.u (QE.move rfl) rfl <| GL.u (QE.assign rfl) rfl <| GL.nilK (fun _ _ => rfl) ?_)
      exact GC.ret (ret1 rfl (y1 := x1) (s1 := ()) (RV.tmp rfl) (RO.flat fun _ _ _ => trivial) h)
    · replace h := h.2.2 hb
      refine GC.skipK (fun _ _ => rfl) ?_
      exact GC.region (GL.u (QE.move rfl) rfl <| GL.u (QE.ar rfl rfl) rfl <| GL.u (QE.assign rfl) rfl <| GL.nil (GLoop.weaken h ⟨rfl, rfl, rfl, trivial⟩ ⟨⟨4, rfl⟩, trivial⟩ [0, 1] (by decide) ⟨rfl, rfl, trivial⟩))
  · replace h := h.2 hb
    refine GC.exitK (fun _ _ => rfl) ?_
    refine GC.seq ?_
    refine GC.region (GL.u (QE.assign rfl) rfl <| GL.nilK (fun _ _ => rfl) ?_)
    exact GC.ret (ret1 rfl (y1 := (-1)) (s1 := ()) (RV.tmp rfl) (RO.flat fun _ _ _ => trivial) h)

theorem r35_Grows.ok {p0 : TConf} {p1 : TConf} {r0 : R.Raw TConf} {r1 : R.Raw TConf} {K : Bool → Prop} (h : r35_Grows.W p0 p1 K) : Ct P 13 [V p0 r0, V p1 r1] [Fk (α := TConf) true p0 r0, Fk (α := TConf) true p1 r1] K := by
  unfold r35_Grows.W at h
  refine Ct.of (n := 50) Try.func13 rfl rfl rfl fun w0 m0 => ?_
  refine GC.seq ?_
  refine GC.region (GL.l rfl (LX.box (y := p0) (r := r0) rfl) fun b1 => GL.l rfl (LX.box (y := p1) (r := r1) rfl) fun b2 => GL.u (QE.assign rfl) rfl <| GL.nilK (fun _ _ => rfl) ?_)
  refine GC.seq ?_
  refine GC.region (GL.u (QE.assign rfl) rfl <| GL.nilK (fun _ _ => rfl) ?_)
  refine GC.seq ?_
  refine GC.seq ?_
  refine GC.region (GL.u (QE.assign rfl) rfl <| GL.nilK (fun _ _ => rfl) ?_)
  refine GC.block ?_
  refine GC.loop ?_
  refine GLoop.weaken (h (fun x1 x2 => GLoop _ _ [(2, true, .pointer (some ⟨b1, 0, none⟩)), (3, true, .pointer (some ⟨b2, 0, none⟩)), (5, true, V (α := Int) x1 ()), (6, true, V (α := Int) x2 ())] [Fk (α := TConf) true p0 r0, Fk (α := TConf) true p1 r1] [bx (α := TConf) p1 r1 b2 27, bx (α := TConf) p0 r0 b1 27] _) (fun x1 x2 h => ?_)) ⟨rfl, rfl, rfl, rfl, trivial⟩ ⟨⟨0, rfl⟩, ⟨1, rfl⟩, trivial⟩ [0, 1] (by decide) ⟨rfl, rfl, trivial⟩
  refine GLoop.round ?_
  refine GC.seq ?_
  refine GC.seq ?_
  refine GC.region (GL.u (QE.move rfl) rfl <| GL.u (QE.fa rfl) rfl <| GL.u (QE.ld 1 TConf_l_Peers rfl rfl) rfl <| GL.fact (Fk (α := (List TPeer)) true p0.Peers r0) (fun _ _ hf _ => (TConf_l_Peers.okg (hf 0 rfl rfl) :)) <| GL.u (QE.len rfl (run_underlying Try.underlying25)) rfl <| GL.u (QE.cmp rfl rfl) rfl <| GL.nilK (fun _ _ => rfl) ?_)
  refine GC.cond rfl (fun hb => ?_) (fun hb => ?_)
  · replace h := h.1 hb
    refine GC.skipK (fun _ _ => rfl) ?_
    refine GC.seq ?_
    obtain ⟨J1, hj1W, h⟩ := WJ.open h
    refine GC.joinAt (fun _ _ => rfl) (fun cx Q c => ∀ (x3 : Int), J1 x3 → GC cx Q [(2, true, .pointer (some ⟨b1, 0, none⟩)), (3, true, .pointer (some ⟨b2, 0, none⟩)), (5, true, V (α := Int) x3 ()), (6, true, V (α := Int) x2 ())] [Fk (α := TConf) true p0 r0, Fk (α := TConf) true p1 r1] [bx (α := TConf) p1 r1 b2 27, bx (α := TConf) p0 r0 b1 27] c) ?_ (fun hj1 => ?_)
    · intro x3 h
      rw [hj1W] at h
      exact GC.region (GL.u (QE.move rfl) rfl <| GL.u (QE.ar rfl rfl) rfl <| GL.u (QE.assign rfl) rfl <| GL.nil (GLoop.weaken h ⟨rfl, rfl, rfl, rfl, trivial⟩ ⟨⟨0, rfl⟩, ⟨1, rfl⟩, trivial⟩ [0, 1] (by decide) ⟨rfl, rfl, trivial⟩))
    refine GC.block ?_
    refine GC.seq ?_
    refine GC.draw (fun _ => True) [] (.q 0 <| .q 1 <| .q 2 <| .q 3 <| .q 4 <| .q 5 <| .q 6 <| .l 7 <| .q 8 <| .tail []) mixed (by kernel_rfl) (GH.g rfl rfl (QE.ld 0 Lens.id rfl rfl) rfl <| GH.g rfl rfl (QE.fa rfl) rfl <| GH.g rfl rfl (QE.ld 1 TConf_l_Peers rfl rfl) rfl <| GH.g rfl rfl (QE.move rfl) rfl <| GH.gx rfl rfl (QX.ias (xs := p0.Peers) (r := r0) 0 rfl rfl rfl (fun _ => h.1)) rfl fun d1 => GH.gx rfl rfl (QX.fa 0 TPeer_l_Key rfl rfl) rfl fun d2 => GH.gx rfl rfl (QX.ld 0 rfl rfl) rfl fun q1 => GH.l rfl rfl (LX.call (.cons rfl (fun _ => rfl) (.cons rfl (fun _ => rfl) .nil)) (fun _ => r35_At.ok h.2) (fun h => by cases h) (.cons 5 rfl (fun _ => rfl) .nil)) fun ⟨⟨y1, h⟩, q2⟩ => GH.g rfl rfl (QE.assign rfl) rfl <| GH.tail <| GT.nilK (fun _ _ => rfl) ?_)
    refine GC.seq ?_
    refine GC.seq ?_
    refine GC.region (GL.u (QE.move rfl) rfl <| GL.u (QE.cmp rfl rfl) rfl <| GL.nilK (fun _ _ => rfl) ?_)
    refine GC.cond rfl (fun hb => ?_) (fun hb => ?_)
    · replace h := h.1 hb
      exact GC.exit (GC.weaken (hj1 _ h) ⟨rfl, rfl, rfl, rfl, trivial⟩ ⟨⟨5, rfl⟩, ⟨6, rfl⟩, trivial⟩ [0, 1] (by decide) ⟨rfl, rfl, trivial⟩)
    · replace h := h.2 hb
      refine GC.skipK (fun _ _ => rfl) ?_
      refine GC.seq ?_
      refine GC.seq ?_
      refine GC.region (GL.u (QE.move rfl) rfl <| GL.u (QE.move rfl) rfl <| GL.u (QE.cmp rfl rfl) rfl <| GL.u (QE.move rfl) rfl <| GL.g ⟨_, _, _, rfl, rfl, rfl⟩ (QE.fa rfl) rfl <| GL.g ⟨_, _, _, rfl, rfl, rfl⟩ (QE.ld 1 TConf_l_Peers rfl rfl) rfl <| GL.g ⟨_, _, _, rfl, rfl, rfl⟩ (QE.move rfl) rfl <| GL.gx ⟨_, _, _, rfl, rfl, rfl⟩ (QX.ias (xs := p0.Peers) (r := r0) 4 rfl rfl rfl h.1) rfl fun d3 => GL.gx ⟨_, _, _, rfl, rfl, rfl⟩ (QX.fa 0 TPeer_l_End rfl rfl) rfl fun d4 => GL.gx ⟨_, _, _, rfl, rfl, rfl⟩ (QX.ld 0 rfl rfl) rfl fun q3 => GL.g ⟨_, _, _, rfl, rfl, rfl⟩ (QE.build (x := ({ A := TAddr_zero, Port := (0 : Int) } : TEndpoint)) (r := ()) .nil (.nil _ _)) rfl <| GL.g ⟨_, _, _, rfl, rfl, rfl⟩ (QE.neA (α := TEndpoint) (a := (lat p0.Peers x2).End) (b := ({ A := TAddr_zero, Port := (0 : Int) } : TEndpoint)) (r := ()) (s := ()) rfl rfl) rfl <| GL.g ⟨_, _, _, rfl, rfl, rfl⟩ (QE.move rfl) rfl <| GL.g ⟨_, _, _, rfl, rfl, rfl⟩ (QE.fa rfl) rfl <| GL.g ⟨_, _, _, rfl, rfl, rfl⟩ (QE.ld 0 TConf_l_Peers rfl rfl) rfl <| GL.fact (Fk (α := (List TPeer)) true p1.Peers r1) (fun _ _ hf _ => (TConf_l_Peers.okg (hf 9 rfl rfl) :)) <| GL.g ⟨_, _, _, rfl, rfl, rfl⟩ (QE.move rfl) rfl <| GL.gx ⟨_, _, _, rfl, rfl, rfl⟩ (QX.ias (xs := p1.Peers) (r := r1) 0 rfl rfl rfl h.2.1) rfl fun d5 => GL.gx ⟨_, _, _, rfl, rfl, rfl⟩ (QX.fa 0 TPeer_l_End rfl rfl) rfl fun d6 => GL.gx ⟨_, _, _, rfl, rfl, rfl⟩ (QX.ld 0 rfl rfl) rfl fun q4 => GL.g ⟨_, _, _, rfl, rfl, rfl⟩ (QE.build (x := ({ A := TAddr_zero, Port := (0 : Int) } : TEndpoint)) (r := ()) .nil (.nil _ _)) rfl <| GL.g ⟨_, _, _, rfl, rfl, rfl⟩ (QE.eqA (α := TEndpoint) (a := (lat p1.Peers y1).End) (b := ({ A := TAddr_zero, Port := (0 : Int) } : TEndpoint)) (r := ()) (s := ()) rfl rfl) rfl <| GL.g ⟨_, _, _, rfl, rfl, rfl⟩ (QE.and rfl rfl) rfl <| GL.u (QE.or rfl rfl) rfl <| GL.nilK (fun _ _ => rfl) ?_)
      refine GC.cond rfl (fun hb => ?_) (fun hb => ?_)
      · replace h := h.2.2.1 hb
        refine GC.seq ?_
        refine GC.region (GL.u (QE.assign rfl) rfl <| GL.nilK (fun _ _ => rfl) ?_)
        exact GC.ret (ret1 rfl (y1 := false) (s1 := ()) (RV.tmp rfl) (RO.flat fun _ _ _ => trivial) h)
      · replace h := h.2.2.2 hb
        refine GC.skipK (fun _ _ => rfl) ?_
        exact GC.region (GL.u (QE.move rfl) rfl <| GL.u (QE.ar rfl rfl) rfl <| GL.u (QE.assign rfl) rfl <| GL.nil (GC.weaken (hj1 _ h) ⟨rfl, rfl, rfl, rfl, trivial⟩ ⟨⟨12, rfl⟩, ⟨13, rfl⟩, trivial⟩ [0, 1] (by decide) ⟨rfl, rfl, trivial⟩))
  · replace h := h.2 hb
    refine GC.exitK (fun _ _ => rfl) ?_
    refine GC.seq ?_
    refine GC.region (GL.u (QE.assign rfl) rfl <| GL.nilK (fun _ _ => rfl) ?_)
    exact GC.ret (ret1 rfl (y1 := true) (s1 := ()) (RV.tmp rfl) (RO.flat fun _ _ _ => trivial) h)

theorem r34_Request.ok {p0 : TConf} {r0 : R.Raw TConf} {K : TRequest → Prop} (h : r34_Request.W p0 K) : Ct P 22 [V p0 r0] [Fk (α := TConf) true p0 r0] K := by
  unfold r34_Request.W at h
  refine Ct.of (n := 46) Try.func22 rfl rfl rfl fun w0 m0 => ?_
  refine GC.seq ?_
  refine GC.region (GL.l rfl (LX.box (y := p0) (r := r0) rfl) fun b1 => GL.l rfl (LX.alloc (y := TRequest_zero) (r := (none, 0))) fun b2 => GL.fact (Fk (α := TRequest) true TRequest_zero (none, 0)) (fun _ _ _ _ => .inl rfl) <| GL.nilK (fun _ _ => rfl) ?_)
  refine GC.seq ?_
  refine GC.region (GL.u (QE.fa rfl) rfl <| GL.u (QE.ld 1 TConf_l_Private rfl rfl) rfl <| GL.u (QE.fa rfl) rfl <| GL.u (QE.ld 1 TConf_l_Port rfl rfl) rfl <| GL.u (QE.fa rfl) rfl <| GL.u (QE.ld 1 TConf_l_Mark rfl rfl) rfl <| GL.u (QE.build (x := ({ HasPrivate := true, Private := p0.Private, HasPort := true, Port := p0.Port, HasMark := true, Mark := p0.Mark, Replace := true, Peers := ([] : (List TPeerChange)) } : TRequest)) (r := (none, 0)) (.cons rfl (fun _ => rfl) (.cons rfl (fun _ => rfl) (.cons rfl (fun _ => rfl) (.cons rfl (fun _ => rfl) (.cons rfl (fun _ => rfl) (.cons rfl (fun _ => rfl) (.cons rfl (fun _ => rfl) .nil))))))) (.cons TRequest_l_HasPrivate (true) () rfl rfl (.cons TRequest_l_Private (p0.Private) () rfl rfl (.cons TRequest_l_HasPort (true) () rfl rfl (.cons TRequest_l_Port (p0.Port) () rfl rfl (.cons TRequest_l_HasMark (true) () rfl rfl (.cons TRequest_l_Mark (p0.Mark) () rfl rfl (.cons TRequest_l_Replace (true) () rfl rfl (.nil _ _))))))))) rfl <| GL.fact (Fk (α := TRequest) true ({ HasPrivate := true, Private := p0.Private, HasPort := true, Port := p0.Port, HasMark := true, Mark := p0.Mark, Replace := true, Peers := ([] : (List TPeerChange)) } : TRequest) (none, 0)) (fun _ _ hf _ => .inl rfl) <| GL.l rfl (LX.alloc (y := TRequest_zero) (r := (none, 0))) fun b3 => GL.fact (Fk (α := TRequest) true TRequest_zero (none, 0)) (fun _ _ _ _ => .inl rfl) <| GL.l rfl (LX.st (β := TRequest) (z := ({ HasPrivate := true, Private := p0.Private, HasPort := true, Port := p0.Port, HasMark := true, Mark := p0.Mark, Replace := true, Peers := ([] : (List TPeerChange)) } : TRequest)) (s := (none, 0)) 0 Lens.id rfl rfl rfl) fun _ => GL.nilK (fun _ _ => rfl) ?_)
  refine GC.seq ?_
  refine GC.seq ?_
  refine GC.region (GL.u (QE.assign rfl) rfl <| GL.nilK (fun _ _ => rfl) ?_)
  refine GC.block ?_
  refine GC.nilTip 47 (R.size TPeerChange) ?_
  refine GC.loop ?_
  refine GLoop.weaken (h (fun x1 x2 => ∀ (q1 : R.Raw TRequest), GLoop _ _ [(1, true, .pointer (some ⟨b1, 0, none⟩)), (2, true, .pointer (some ⟨b2, 0, none⟩)), (3, true, .pointer (some ⟨b3, 0, none⟩)), (4, true, V (α := Int) x1 ())] [Fk (α := TConf) true p0 r0, Fk (α := TRequest) true TRequest_zero (none, 0), Fk (α := TRequest) true x2 q1] [tp 47 (R.size TPeerChange) (List.length x2.Peers) (q1).1 (q1).2, bx (α := TRequest) x2 q1 b3 32, bx (α := TRequest) TRequest_zero (none, 0) b2 32, bx (α := TConf) p0 r0 b1 27] _) (fun x1 x2 h => ?_) (none, 0)) ⟨rfl, rfl, rfl, rfl, trivial⟩ ⟨⟨3, rfl⟩, ⟨0, rfl⟩, ⟨1, rfl⟩, trivial⟩ [0, 1, 2, 3] (by decide) ⟨rfl, rfl, rfl, rfl, trivial⟩
  intro q1
  refine GLoop.round ?_
  refine GC.seq ?_
  refine GC.seq ?_
  refine GC.region (GL.u (QE.move rfl) rfl <| GL.u (QE.fa rfl) rfl <| GL.u (QE.ld 3 TConf_l_Peers rfl rfl) rfl <| GL.fact (Fk (α := (List TPeer)) true p0.Peers r0) (fun _ _ hf _ => (TConf_l_Peers.okg (hf 0 rfl rfl) :)) <| GL.u (QE.len rfl (run_underlying Try.underlying25)) rfl <| GL.u (QE.cmp rfl rfl) rfl <| GL.nilK (fun _ _ => rfl) ?_)
  refine GC.cond rfl (fun hb => ?_) (fun hb => ?_)
  · replace h := h.1 hb
    refine GC.skipK (fun _ _ => rfl) ?_
    refine GC.seq ?_
    refine GC.block ?_
    refine GC.seq ?_
    refine GC.region (GL.u (QE.fa rfl) rfl <| GL.u (QE.ld 3 TConf_l_Peers rfl rfl) rfl <| GL.u (QE.move rfl) rfl <| GL.ux (QX.ias (xs := p0.Peers) (r := r0) 0 rfl rfl rfl (fun _ => h.1)) rfl fun d1 => GL.ux (QX.ld 0 rfl rfl) rfl fun q2 => GL.l rfl (LX.alloc (y := TPeer_zero) (r := (none, 0))) fun b4 => GL.fact (Fk (α := TPeer) true TPeer_zero (none, 0)) (fun _ _ _ _ => .inl rfl) <| GL.l rfl (LX.st (β := TPeer) (z := lat p0.Peers x1) (s := q2) 0 Lens.id rfl rfl rfl) fun _ => GL.nilK (fun _ _ => rfl) ?_)
    refine GC.draw (fun _ => True) [18, 19, 20] (.q 0 <| .q 1 <| .q 2 <| .q 3 <| .q 4 <| .q 5 <| .q 6 <| .q 7 <| .q 8 <| .q 9 <| .q 10 <| .q 11 <| .q 12 <| .q 13 <| .q 14 <| .q 15 <| .q 16 <| .l 17 <| .tail [18, 19, 20]) mixed (by kernel_rfl) (GH.g rfl rfl (QE.fa rfl) rfl <| GH.g rfl rfl (QE.ld 2 TRequest_l_Peers rfl rfl) rfl <| GH.fact (Fk (α := (List TPeerChange)) true x2.Peers q1) (fun _ _ hf _ => (TRequest_l_Peers.okg (hf 6 rfl rfl) :)) <| GH.g rfl rfl (QE.fa rfl) rfl <| GH.g rfl rfl (QE.ld 0 TPeer_l_Key rfl rfl) rfl <| GH.g rfl rfl (QE.fa rfl) rfl <| GH.g rfl rfl (QE.ld 0 TPeer_l_Psk rfl rfl) rfl <| GH.g rfl rfl (QE.fa rfl) rfl <| GH.g rfl rfl (QE.ld 0 TPeer_l_End rfl rfl) rfl <| GH.g rfl rfl (QE.build (x := ({ A := TAddr_zero, Port := (0 : Int) } : TEndpoint)) (r := ()) .nil (.nil _ _)) rfl <| GH.g rfl rfl (QE.neA (α := TEndpoint) (a := (lat p0.Peers x1).End) (b := ({ A := TAddr_zero, Port := (0 : Int) } : TEndpoint)) (r := ()) (s := ()) rfl rfl) rfl <| GH.g rfl rfl (QE.fa rfl) rfl <| GH.g rfl rfl (QE.ld 0 TPeer_l_End rfl rfl) rfl <| GH.g rfl rfl (QE.fa rfl) rfl <| GH.g rfl rfl (QE.ld 0 TPeer_l_Keep rfl rfl) rfl <| GH.g rfl rfl (QE.fa rfl) rfl <| GH.g rfl rfl (QE.ld 0 TPeer_l_Allowed rfl rfl) rfl <| GH.fact (Fk (α := (List TPrefix)) true ((lat p0.Peers x1).Allowed) q2) (fun _ _ hf _ => (TPeer_l_Allowed.okg (hf 2 rfl rfl) :)) <| GH.g rfl rfl (QE.build (x := ({ Key := (lat p0.Peers x1).Key, Remove := false, Update := false, HasPsk := true, Psk := (lat p0.Peers x1).Psk, HasEnd := !decide ((lat p0.Peers x1).End = ({ A := TAddr_zero, Port := (0 : Int) } : TEndpoint)), End := (lat p0.Peers x1).End, HasKeep := true, Keep := (lat p0.Peers x1).Keep, Replace := true, Allowed := (lat p0.Peers x1).Allowed } : TPeerChange)) (r := q2) (.cons rfl (fun _ => rfl) (.cons rfl (fun _ => rfl) (.cons rfl (fun _ => rfl) (.cons rfl (fun _ => rfl) (.cons rfl (fun _ => rfl) (.cons rfl (fun _ => rfl) (.cons rfl (fun _ => rfl) (.cons rfl (fun _ => rfl) (.cons rfl (fun _ => rfl) .nil))))))))) (.cons TPeerChange_l_Key ((lat p0.Peers x1).Key) () rfl rfl (.cons TPeerChange_l_HasPsk (true) () rfl rfl (.cons TPeerChange_l_Psk ((lat p0.Peers x1).Psk) () rfl rfl (.cons TPeerChange_l_HasEnd (!decide ((lat p0.Peers x1).End = ({ A := TAddr_zero, Port := (0 : Int) } : TEndpoint))) () rfl rfl (.cons TPeerChange_l_End ((lat p0.Peers x1).End) () rfl rfl (.cons TPeerChange_l_HasKeep (true) () rfl rfl (.cons TPeerChange_l_Keep ((lat p0.Peers x1).Keep) () rfl rfl (.cons TPeerChange_l_Replace (true) () rfl rfl (.cons TPeerChange_l_Allowed ((lat p0.Peers x1).Allowed) q2 rfl rfl (.nil _ _))))))))))) rfl <| GH.fact (Fk (α := TPeerChange) true ({ Key := (lat p0.Peers x1).Key, Remove := false, Update := false, HasPsk := true, Psk := (lat p0.Peers x1).Psk, HasEnd := !decide ((lat p0.Peers x1).End = ({ A := TAddr_zero, Port := (0 : Int) } : TEndpoint)), End := (lat p0.Peers x1).End, HasKeep := true, Keep := (lat p0.Peers x1).Keep, Replace := true, Allowed := (lat p0.Peers x1).Allowed } : TPeerChange) q2) (fun _ _ hf _ => hf 0 rfl rfl) <| GH.l rfl rfl (LX.lit (xs := ([({ Key := (lat p0.Peers x1).Key, Remove := false, Update := false, HasPsk := true, Psk := (lat p0.Peers x1).Psk, HasEnd := !decide ((lat p0.Peers x1).End = ({ A := TAddr_zero, Port := (0 : Int) } : TEndpoint)), End := (lat p0.Peers x1).End, HasKeep := true, Keep := (lat p0.Peers x1).Keep, Replace := true, Allowed := (lat p0.Peers x1).Allowed } : TPeerChange)] : (List TPeerChange))) (rs := [q2]) (fs1 := [Fk (α := TPeerChange) true ({ Key := (lat p0.Peers x1).Key, Remove := false, Update := false, HasPsk := true, Psk := (lat p0.Peers x1).Psk, HasEnd := !decide ((lat p0.Peers x1).End = ({ A := TAddr_zero, Port := (0 : Int) } : TEndpoint)), End := (lat p0.Peers x1).End, HasKeep := true, Keep := (lat p0.Peers x1).Keep, Replace := true, Allowed := (lat p0.Peers x1).Allowed } : TPeerChange) q2]) ⟨rfl, rfl, trivial⟩ rfl ⟨⟨0, rfl⟩, trivial⟩ (fun _ _ hf => ⟨hf (Fk (α := TPeerChange) true ({ Key := (lat p0.Peers x1).Key, Remove := false, Update := false, HasPsk := true, Psk := (lat p0.Peers x1).Psk, HasEnd := !decide ((lat p0.Peers x1).End = ({ A := TAddr_zero, Port := (0 : Int) } : TEndpoint)), End := (lat p0.Peers x1).End, HasKeep := true, Keep := (lat p0.Peers x1).Keep, Replace := true, Allowed := (lat p0.Peers x1).Allowed } : TPeerChange) q2) (by simp) rfl, trivial⟩) (by kernel_rfl)) fun q3 => GH.tail <| GT.l rfl rfl (LX.append (xs := x2.Peers) (ys := ([({ Key := (lat p0.Peers x1).Key, Remove := false, Update := false, HasPsk := true, Psk := (lat p0.Peers x1).Psk, HasEnd := !decide ((lat p0.Peers x1).End = ({ A := TAddr_zero, Port := (0 : Int) } : TEndpoint)), End := (lat p0.Peers x1).End, HasKeep := true, Keep := (lat p0.Peers x1).Keep, Replace := true, Allowed := (lat p0.Peers x1).Allowed } : TPeerChange)] : (List TPeerChange))) (r := q1) (s := (q3, 1)) Try.underlying30 2 3 0 rfl rfl rfl rfl rfl h.2.1) fun q4 => GT.g rfl rfl (QE.fa rfl) rfl <| GT.l rfl rfl (LX.st (β := (List TPeerChange)) (z := x2.Peers ++ ([({ Key := (lat p0.Peers x1).Key, Remove := false, Update := false, HasPsk := true, Psk := (lat p0.Peers x1).Psk, HasEnd := !decide ((lat p0.Peers x1).End = ({ A := TAddr_zero, Port := (0 : Int) } : TEndpoint)), End := (lat p0.Peers x1).End, HasKeep := true, Keep := (lat p0.Peers x1).Keep, Replace := true, Allowed := (lat p0.Peers x1).Allowed } : TPeerChange)] : (List TPeerChange))) (s := q4) 3 TRequest_l_Peers rfl rfl rfl) fun _ => GT.fact (Fk (α := TRequest) true { x2 with Peers := x2.Peers ++ ([({ Key := (lat p0.Peers x1).Key, Remove := false, Update := false, HasPsk := true, Psk := (lat p0.Peers x1).Psk, HasEnd := !decide ((lat p0.Peers x1).End = ({ A := TAddr_zero, Port := (0 : Int) } : TEndpoint)), End := (lat p0.Peers x1).End, HasKeep := true, Keep := (lat p0.Peers x1).Keep, Replace := true, Allowed := (lat p0.Peers x1).Allowed } : TPeerChange)] : (List TPeerChange)) } q4) (fun _ _ hf _ => ((TRequest_l_Peers).oks (y := (x2.Peers ++ ([({ Key := (lat p0.Peers x1).Key, Remove := false, Update := false, HasPsk := true, Psk := (lat p0.Peers x1).Psk, HasEnd := !decide ((lat p0.Peers x1).End = ({ A := TAddr_zero, Port := (0 : Int) } : TEndpoint)), End := (lat p0.Peers x1).End, HasKeep := true, Keep := (lat p0.Peers x1).Keep, Replace := true, Allowed := (lat p0.Peers x1).Allowed } : TPeerChange)] : (List TPeerChange)) : (List TPeerChange))) (s := q4) (hf 11 rfl rfl) (hf 0 rfl rfl) :)) <| GT.nilK (fun _ _ => rfl) ?_)
    exact GC.region (GL.u (QE.move rfl) rfl <| GL.u (QE.ar rfl rfl) rfl <| GL.u (QE.assign rfl) rfl <| GL.nil (GLoop.weaken (h.2.2 q4) ⟨rfl, rfl, rfl, rfl, trivial⟩ ⟨⟨10, rfl⟩, ⟨11, rfl⟩, ⟨0, rfl⟩, trivial⟩ [2, 3, 4, 5] (by decide) ⟨rfl, rfl, rfl, rfl, trivial⟩))
  · replace h := h.2 hb
    refine GC.exitK (fun _ _ => rfl) ?_
    refine GC.seq ?_
    refine GC.region (GL.u (QE.ld 1 Lens.id rfl rfl) rfl <| GL.l rfl (LX.st (β := TRequest) (z := x2) (s := q1) 2 Lens.id rfl rfl rfl) fun _ => GL.nilK (fun _ _ => rfl) ?_)
    exact GC.ret (ret1 rfl (y1 := x2) (s1 := q1) (RV.cell 2 rfl rfl) (RO.fact 3 rfl) h)

theorem r11_Same.ok {p0 : (List TPrefix)} {p1 : (List TPrefix)} {r0 : R.Raw (List TPrefix)} {r1 : R.Raw (List TPrefix)} {K : Bool → Prop} (h : r11_Same.W p0 p1 K) : Ct P 24 [V p0 r0, V p1 r1] [Fk (α := (List TPrefix)) true p0 r0, Fk (α := (List TPrefix)) true p1 r1] K := by
  unfold r11_Same.W at h
  refine Ct.of (n := 26) Try.func24 rfl rfl rfl fun w0 m0 => ?_
  refine GC.seq ?_
  refine GC.region (GL.u (QE.assign rfl) rfl <| GL.nilK (fun _ _ => rfl) ?_)
  refine GC.seq ?_
  refine GC.seq ?_
  refine GC.region (GL.u (QE.move rfl) rfl <| GL.u (QE.len rfl (run_underlying Try.underlying43)) rfl <| GL.u (QE.move rfl) rfl <| GL.u (QE.len rfl (run_underlying Try.underlying43)) rfl <| GL.u (QE.cmp rfl rfl) rfl <| GL.nilK (fun _ _ => rfl) ?_)
  refine GC.cond rfl (fun hb => ?_) (fun hb => ?_)
  · replace h := h.1 hb
    refine GC.seq ?_
    refine GC.region (GL.u (QE.assign rfl) rfl <| GL.nilK (fun _ _ => rfl) ?_)
    exact GC.ret (ret1 rfl (y1 := false) (s1 := ()) (RV.tmp rfl) (RO.flat fun _ _ _ => trivial) h)
  · replace h := h.2 hb
    refine GC.skipK (fun _ _ => rfl) ?_
    refine GC.seq ?_
    refine GC.seq ?_
    refine GC.region (GL.u (QE.assign rfl) rfl <| GL.nilK (fun _ _ => rfl) ?_)
    refine GC.block ?_
    refine GC.loop ?_
    refine GLoop.weaken (h (fun x1 => GLoop _ _ [(0, true, V (α := (List TPrefix)) p0 r0), (1, true, V (α := (List TPrefix)) p1 r1), (5, true, V (α := Int) x1 ())] [Fk (α := (List TPrefix)) true p0 r0, Fk (α := (List TPrefix)) true p1 r1] [] _) (fun x1 h => ?_)) ⟨rfl, rfl, rfl, trivial⟩ ⟨⟨0, rfl⟩, ⟨1, rfl⟩, trivial⟩ [] (by decide) trivial
    refine GLoop.round ?_
    refine GC.seq ?_
    refine GC.seq ?_
    refine GC.region (GL.u (QE.move rfl) rfl <| GL.u (QE.move rfl) rfl <| GL.u (QE.len rfl (run_underlying Try.underlying43)) rfl <| GL.u (QE.cmp rfl rfl) rfl <| GL.nilK (fun _ _ => rfl) ?_)
    refine GC.cond rfl (fun hb => ?_) (fun hb => ?_)
    · replace h := h.1 hb
      refine GC.skipK (fun _ _ => rfl) ?_
      refine GC.seq ?_
      refine GC.block ?_
      refine GC.seq ?_
      refine GC.draw (fun _ => True) [] (.q 0 <| .q 1 <| .q 2 <| .q 3 <| .q 4 <| .q 5 <| .q 6 <| .q 7 <| .q 8 <| .tail []) mixed (by kernel_rfl) (GH.g rfl rfl (QE.move rfl) rfl <| GH.g rfl rfl (QE.move rfl) rfl <| GH.gx rfl rfl (QX.ias (xs := p0) (r := r0) 0 rfl rfl rfl (fun _ => h.1)) rfl fun d1 => GH.gx rfl rfl (QX.ld 0 rfl rfl) rfl fun q1 => GH.g rfl rfl (QE.move rfl) rfl <| GH.g rfl rfl (QE.move rfl) rfl <| GH.gx rfl rfl (QX.ias (xs := p1) (r := r1) 3 rfl rfl rfl (fun _ => h.2.1)) rfl fun d2 => GH.gx rfl rfl (QX.ld 0 rfl rfl) rfl fun q2 => GH.g rfl rfl (QE.neA (α := TPrefix) (a := lat p0 x1) (b := lat p1 x1) (r := ()) (s := ()) rfl rfl) rfl <| GH.tail <| GT.nilK (fun _ _ => rfl) ?_)
      refine GC.cond rfl (fun hb => ?_) (fun hb => ?_)
      · replace h := h.2.2.1 hb
        refine GC.seq ?_
        refine GC.region (GL.u (QE.assign rfl) rfl <| GL.nilK (fun _ _ => rfl) ?_)
        exact GC.ret (ret1 rfl (y1 := false) (s1 := ()) (RV.tmp rfl) (RO.flat fun _ _ _ => trivial) h)
      · replace h := h.2.2.2 hb
        refine GC.skipK (fun _ _ => rfl) ?_
        exact GC.region (GL.u (QE.move rfl) rfl <| GL.u (QE.ar rfl rfl) rfl <| GL.u (QE.assign rfl) rfl <| GL.nil (GLoop.weaken h ⟨rfl, rfl, rfl, trivial⟩ ⟨⟨4, rfl⟩, ⟨5, rfl⟩, trivial⟩ [] (by decide) trivial))
    · replace h := h.2 hb
      refine GC.exitK (fun _ _ => rfl) ?_
      refine GC.seq ?_
      refine GC.region (GL.u (QE.assign rfl) rfl <| GL.nilK (fun _ _ => rfl) ?_)
      exact GC.ret (ret1 rfl (y1 := true) (s1 := ()) (RV.tmp rfl) (RO.flat fun _ _ _ => trivial) h)

theorem r35_Patch.ok {p0 : TConf} {p1 : TConf} {r0 : R.Raw TConf} {r1 : R.Raw TConf} {K : TRequest → Prop} (h : r35_Patch.W p0 p1 K) : Ct P 8 [V p0 r0, V p1 r1] [Fk (α := TConf) true p0 r0, Fk (α := TConf) true p1 r1] K := by
  unfold r35_Patch.W at h
  refine Ct.of (n := 229) Try.func8 rfl rfl rfl fun w0 m0 => ?_
  refine GC.seq ?_
  refine GC.region (GL.l rfl (LX.box (y := p0) (r := r0) rfl) fun b1 => GL.l rfl (LX.box (y := p1) (r := r1) rfl) fun b2 => GL.l rfl (LX.alloc (y := TRequest_zero) (r := (none, 0))) fun b3 => GL.fact (Fk (α := TRequest) true TRequest_zero (none, 0)) (fun _ _ _ _ => .inl rfl) <| GL.nilK (fun _ _ => rfl) ?_)
  refine GC.seq ?_
  refine GC.region (GL.l rfl (LX.alloc (y := TRequest_zero) (r := (none, 0))) fun b4 => GL.fact (Fk (α := TRequest) true TRequest_zero (none, 0)) (fun _ _ _ _ => .inl rfl) <| GL.nilK (fun _ _ => rfl) ?_)
  refine GC.seq ?_
  refine GC.seq ?_
  refine GC.region (GL.u (QE.ld 3 Lens.id rfl rfl) rfl <| GL.l rfl (LX.call (.cons rfl (fun _ => rfl) .nil) (fun _ => r34_Right.ok h) (fun h => by cases h) (.cons 2 rfl (fun _ => rfl) .nil)) fun ⟨⟨y1, h⟩, q1⟩ => GL.u (QE.not rfl) rfl <| GL.u (QE.move rfl) rfl <| GL.g ⟨_, _, _, rfl, rfl, rfl⟩ (QE.ld 2 Lens.id rfl rfl) rfl <| GL.l ⟨_, _, _, rfl, rfl, rfl⟩ (LX.call (.cons rfl (fun h => h) .nil) (fun hg => r34_Right.ok (h.1 hg)) (fun hg => h.2 hg) (.cons 4 rfl (fun _ => rfl) .nil)) fun ⟨⟨y2, h⟩, q2⟩ => GL.g ⟨_, _, _, rfl, rfl, rfl⟩ (QE.not rfl) rfl <| GL.u (QE.or rfl rfl) rfl <| GL.nilK (fun _ _ => rfl) ?_)
  refine GC.cond rfl (fun hb => ?_) (fun hb => ?_)
  · replace h := h.1 hb
    refine GC.seq ?_
    refine GC.region (GL.u (QE.ld 0 Lens.id rfl rfl) rfl <| GL.l rfl (LX.st (β := TRequest) (z := TRequest_zero) (s := (none, 0)) 1 Lens.id rfl rfl rfl) fun _ => GL.nilK (fun _ _ => rfl) ?_)
    exact GC.ret (ret1 rfl (y1 := TRequest_zero) (s1 := (none, 0)) (RV.cell 1 rfl rfl) (RO.fact 2 rfl) h)
  · replace h := h.2 hb
    refine GC.skipK (fun _ _ => rfl) ?_
    refine GC.seq ?_
    refine GC.seq ?_
    refine GC.region (GL.u (QE.ld 3 Lens.id rfl rfl) rfl <| GL.u (QE.ld 2 Lens.id rfl rfl) rfl <| GL.l rfl (LX.call (.cons rfl (fun _ => rfl) (.cons rfl (fun _ => rfl) .nil)) (fun _ => r35_Grows.ok h) (fun h => by cases h) (.cons 4 rfl (fun _ => rfl) (.cons 5 rfl (fun _ => rfl) .nil))) fun ⟨⟨y3, h⟩, q3⟩ => GL.u (QE.not rfl) rfl <| GL.nilK (fun _ _ => rfl) ?_)
    refine GC.cond rfl (fun hb => ?_) (fun hb => ?_)
    · replace h := h.1 hb
      refine GC.seq ?_
      refine GC.region (GL.u (QE.ld 2 Lens.id rfl rfl) rfl <| GL.l rfl (LX.call (.cons rfl (fun _ => rfl) .nil) (fun _ => r34_Request.ok h) (fun h => by cases h) (.cons 6 rfl (fun _ => rfl) .nil)) fun ⟨⟨y4, h⟩, q4⟩ => GL.l rfl (LX.st (β := TRequest) (z := y4) (s := q4) 1 Lens.id rfl rfl rfl) fun _ => GL.nilK (fun _ _ => rfl) ?_)
      exact GC.ret (ret1 rfl (y1 := y4) (s1 := q4) (RV.cell 1 rfl rfl) (RO.fact 0 rfl) h)
    · replace h := h.2 hb
      refine GC.skipK (fun _ _ => rfl) ?_
      refine GC.seq ?_
      refine GC.seq ?_
      refine GC.region (GL.u (QE.fa rfl) rfl <| GL.u (QE.ld 3 TConf_l_Private rfl rfl) rfl <| GL.u (QE.fa rfl) rfl <| GL.u (QE.ld 2 TConf_l_Private rfl rfl) rfl <| GL.u (QE.neA (α := (Vector UInt8 32)) (a := p0.Private) (b := p1.Private) (r := ()) (s := ()) rfl rfl) rfl <| GL.nilK (fun _ _ => rfl) ?_)
      obtain ⟨J1, hj1W, h⟩ := WJ.open h
      refine GC.joinAt (fun _ _ => rfl) (fun cx Q c => ∀ (x1 : TRequest), J1 x1 → GC cx Q [(2, true, .pointer (some ⟨b1, 0, none⟩)), (3, true, .pointer (some ⟨b2, 0, none⟩)), (4, true, .pointer (some ⟨b3, 0, none⟩)), (5, true, .pointer (some ⟨b4, 0, none⟩))] [Fk (α := TConf) true p0 r0, Fk (α := TConf) true p1 r1, Fk (α := TRequest) true TRequest_zero (none, 0), Fk (α := TRequest) true x1 (none, 0)] [bx (α := TRequest) x1 (none, 0) b4 32, bx (α := TRequest) TRequest_zero (none, 0) b3 32, bx (α := TConf) p1 r1 b2 27, bx (α := TConf) p0 r0 b1 27] c) ?_ (fun hj1 => ?_)
      · intro x1 h
        rw [hj1W] at h
        refine GC.seq ?_
        refine GC.seq ?_
        refine GC.region (GL.u (QE.fa rfl) rfl <| GL.u (QE.ld 3 TConf_l_Port rfl rfl) rfl <| GL.u (QE.fa rfl) rfl <| GL.u (QE.ld 2 TConf_l_Port rfl rfl) rfl <| GL.u (QE.cmp rfl rfl) rfl <| GL.nilK (fun _ _ => rfl) ?_)
        obtain ⟨J2, hj2W, h⟩ := WJ.open h
        refine GC.joinAt (fun _ _ => rfl) (fun cx Q c => ∀ (x2 : TRequest), J2 x2 → GC cx Q [(2, true, .pointer (some ⟨b1, 0, none⟩)), (3, true, .pointer (some ⟨b2, 0, none⟩)), (4, true, .pointer (some ⟨b3, 0, none⟩)), (5, true, .pointer (some ⟨b4, 0, none⟩))] [Fk (α := TConf) true p0 r0, Fk (α := TConf) true p1 r1, Fk (α := TRequest) true TRequest_zero (none, 0), Fk (α := TRequest) true x2 (none, 0)] [bx (α := TRequest) x2 (none, 0) b4 32, bx (α := TRequest) TRequest_zero (none, 0) b3 32, bx (α := TConf) p1 r1 b2 27, bx (α := TConf) p0 r0 b1 27] c) ?_ (fun hj2 => ?_)
        · intro x2 h
          rw [hj2W] at h
          refine GC.seq ?_
          refine GC.seq ?_
          refine GC.region (GL.u (QE.fa rfl) rfl <| GL.u (QE.ld 3 TConf_l_Mark rfl rfl) rfl <| GL.u (QE.fa rfl) rfl <| GL.u (QE.ld 2 TConf_l_Mark rfl rfl) rfl <| GL.u (QE.cmp rfl rfl) rfl <| GL.nilK (fun _ _ => rfl) ?_)
          obtain ⟨J3, hj3W, h⟩ := WJ.open h
          refine GC.joinAt (fun _ _ => rfl) (fun cx Q c => ∀ (x3 : TRequest), J3 x3 → GC cx Q [(2, true, .pointer (some ⟨b1, 0, none⟩)), (3, true, .pointer (some ⟨b2, 0, none⟩)), (4, true, .pointer (some ⟨b3, 0, none⟩)), (5, true, .pointer (some ⟨b4, 0, none⟩))] [Fk (α := TConf) true p0 r0, Fk (α := TConf) true p1 r1, Fk (α := TRequest) true TRequest_zero (none, 0), Fk (α := TRequest) true x3 (none, 0)] [bx (α := TRequest) x3 (none, 0) b4 32, bx (α := TRequest) TRequest_zero (none, 0) b3 32, bx (α := TConf) p1 r1 b2 27, bx (α := TConf) p0 r0 b1 27] c) ?_ (fun hj3 => ?_)
          · intro x3 h
            rw [hj3W] at h
            refine GC.seq ?_
            refine GC.seq ?_
            refine GC.region (GL.u (QE.assign rfl) rfl <| GL.nilK (fun _ _ => rfl) ?_)
            refine GC.block ?_
            refine GC.via (Via.fact (Fk (α := (List TPeerChange)) true x3.Peers (none, 0)) (fun _ _ hf _ => (TRequest_l_Peers.okg (hf 3 rfl rfl) :))) ?_
            refine GC.via (Via.nilTipOf (xs := x3.Peers) 47 (R.size TPeerChange) 0 rfl) ?_
            refine GC.loop ?_
            refine GLoop.weaken (h (fun x4 x5 => ∀ (q5 : R.Raw TRequest), GLoop _ _ [(2, true, .pointer (some ⟨b1, 0, none⟩)), (3, true, .pointer (some ⟨b2, 0, none⟩)), (4, true, .pointer (some ⟨b3, 0, none⟩)), (5, true, .pointer (some ⟨b4, 0, none⟩)), (6, true, V (α := Int) x4 ())] [Fk (α := TConf) true p0 r0, Fk (α := TConf) true p1 r1, Fk (α := TRequest) true TRequest_zero (none, 0), Fk (α := TRequest) true x5 q5] [tp 47 (R.size TPeerChange) (List.length x5.Peers) (q5).1 (q5).2, bx (α := TRequest) x5 q5 b4 32, bx (α := TRequest) TRequest_zero (none, 0) b3 32, bx (α := TConf) p1 r1 b2 27, bx (α := TConf) p0 r0 b1 27] _) (fun x4 x5 h => ?_) (none, 0)) ⟨rfl, rfl, rfl, rfl, rfl, trivial⟩ ⟨⟨1, rfl⟩, ⟨2, rfl⟩, ⟨3, rfl⟩, ⟨4, rfl⟩, trivial⟩ [0, 1, 2, 3, 4] (by decide) ⟨rfl, rfl, rfl, rfl, rfl, trivial⟩
            intro q5
            refine GLoop.round ?_
            refine GC.seq ?_
            refine GC.seq ?_
            refine GC.region (GL.u (QE.move rfl) rfl <| GL.u (QE.fa rfl) rfl <| GL.u (QE.ld 4 TConf_l_Peers rfl rfl) rfl <| GL.fact (Fk (α := (List TPeer)) true p0.Peers r0) (fun _ _ hf _ => (TConf_l_Peers.okg (hf 0 rfl rfl) :)) <| GL.u (QE.len rfl (run_underlying Try.underlying25)) rfl <| GL.u (QE.cmp rfl rfl) rfl <| GL.nilK (fun _ _ => rfl) ?_)
            refine GC.cond rfl (fun hb => ?_) (fun hb => ?_)
            · replace h := h.1 hb
              refine GC.skipK (fun _ _ => rfl) ?_
              refine GC.seq ?_
              refine GC.block ?_
              refine GC.seq ?_
              refine GC.draw (fun _ => True) [] (.q 0 <| .q 1 <| .q 2 <| .q 3 <| .q 4 <| .q 5 <| .q 6 <| .l 7 <| .q 8 <| .tail []) mixed (by kernel_rfl) (GH.g rfl rfl (QE.ld 3 Lens.id rfl rfl) rfl <| GH.g rfl rfl (QE.fa rfl) rfl <| GH.g rfl rfl (QE.ld 4 TConf_l_Peers rfl rfl) rfl <| GH.g rfl rfl (QE.move rfl) rfl <| GH.gx rfl rfl (QX.ias (xs := p0.Peers) (r := r0) 0 rfl rfl rfl (fun _ => h.1)) rfl fun d1 => GH.gx rfl rfl (QX.fa 0 TPeer_l_Key rfl rfl) rfl fun d2 => GH.gx rfl rfl (QX.ld 0 rfl rfl) rfl fun q6 => GH.l rfl rfl (LX.call (.cons rfl (fun _ => rfl) (.cons rfl (fun _ => rfl) .nil)) (fun _ => r35_At.ok h.2) (fun h => by cases h) (.cons 5 rfl (fun _ => rfl) .nil)) fun ⟨⟨y5, h⟩, q7⟩ => GH.g rfl rfl (QE.cmp rfl rfl) rfl <| GH.tail <| GT.nilK (fun _ _ => rfl) ?_)
              obtain ⟨J4, hj4W, h⟩ := WJ.open h
              refine GC.joinAt (fun _ _ => rfl) (fun cx Q c => ∀ (x6 : TRequest) (q8 : R.Raw TRequest), J4 x6 → GC cx Q [(2, true, .pointer (some ⟨b1, 0, none⟩)), (3, true, .pointer (some ⟨b2, 0, none⟩)), (4, true, .pointer (some ⟨b3, 0, none⟩)), (5, true, .pointer (some ⟨b4, 0, none⟩)), (6, true, V (α := Int) x4 ())] [Fk (α := TConf) true p0 r0, Fk (α := TConf) true p1 r1, Fk (α := TRequest) true TRequest_zero (none, 0), Fk (α := TRequest) true x6 q8] [tp 47 (R.size TPeerChange) (List.length x6.Peers) (q8).1 (q8).2, bx (α := TRequest) x6 q8 b4 32, bx (α := TRequest) TRequest_zero (none, 0) b3 32, bx (α := TConf) p1 r1 b2 27, bx (α := TConf) p0 r0 b1 27] c) ?_ (fun hj4 => ?_)
              · intro x6 q8 h
                rw [hj4W] at h
                exact GC.region (GL.u (QE.move rfl) rfl <| GL.u (QE.ar rfl rfl) rfl <| GL.u (QE.assign rfl) rfl <| GL.nil (GLoop.weaken (h q8) ⟨rfl, rfl, rfl, rfl, rfl, trivial⟩ ⟨⟨0, rfl⟩, ⟨1, rfl⟩, ⟨2, rfl⟩, ⟨3, rfl⟩, trivial⟩ [0, 1, 2, 3, 4] (by decide) ⟨rfl, rfl, rfl, rfl, rfl, trivial⟩))
              refine GC.cond rfl (fun hb => ?_) (fun hb => ?_)
              · replace h := h.1 hb
                exact GC.draw (fun _ => True) [10, 11, 12] (.q 0 <| .q 1 <| .q 2 <| .q 3 <| .q 4 <| .q 5 <| .q 6 <| .q 7 <| .q 8 <| .l 9 <| .tail [10, 11, 12]) mixed (by kernel_rfl) (GH.g rfl rfl (QE.fa rfl) rfl <| GH.g rfl rfl (QE.ld 1 TRequest_l_Peers rfl rfl) rfl <| GH.fact (Fk (α := (List TPeerChange)) true x5.Peers q5) (fun _ _ hf _ => (TRequest_l_Peers.okg (hf 8 rfl rfl) :)) <| GH.g rfl rfl (QE.fa rfl) rfl <| GH.g rfl rfl (QE.ld 4 TConf_l_Peers rfl rfl) rfl <| GH.g rfl rfl (QE.move rfl) rfl <| GH.gx rfl rfl (QX.ias (xs := p0.Peers) (r := r0) 5 rfl rfl rfl (fun _ => h.1)) rfl fun d3 => GH.gx rfl rfl (QX.fa 0 TPeer_l_Key rfl rfl) rfl fun d4 => GH.gx rfl rfl (QX.ld 0 rfl rfl) rfl fun q9 => GH.g rfl rfl (QE.build (x := ({ Key := (lat p0.Peers x4).Key, Remove := true, Update := false, HasPsk := false, Psk := (Vector.replicate 32 (0 : UInt8)), HasEnd := false, End := TEndpoint_zero, HasKeep := false, Keep := (0 : Int), Replace := false, Allowed := ([] : (List TPrefix)) } : TPeerChange)) (r := (none, 0)) (.cons rfl (fun _ => rfl) (.cons rfl (fun _ => rfl) .nil)) (.cons TPeerChange_l_Key ((lat p0.Peers x4).Key) () rfl rfl (.cons TPeerChange_l_Remove (true) () rfl rfl (.nil _ _)))) rfl <| GH.fact (Fk (α := TPeerChange) true ({ Key := (lat p0.Peers x4).Key, Remove := true, Update := false, HasPsk := false, Psk := (Vector.replicate 32 (0 : UInt8)), HasEnd := false, End := TEndpoint_zero, HasKeep := false, Keep := (0 : Int), Replace := false, Allowed := ([] : (List TPrefix)) } : TPeerChange) (none, 0)) (fun _ _ hf _ => .inl rfl) <| GH.l rfl rfl (LX.lit (xs := ([({ Key := (lat p0.Peers x4).Key, Remove := true, Update := false, HasPsk := false, Psk := (Vector.replicate 32 (0 : UInt8)), HasEnd := false, End := TEndpoint_zero, HasKeep := false, Keep := (0 : Int), Replace := false, Allowed := ([] : (List TPrefix)) } : TPeerChange)] : (List TPeerChange))) (rs := [(none, 0)]) (fs1 := [Fk (α := TPeerChange) true ({ Key := (lat p0.Peers x4).Key, Remove := true, Update := false, HasPsk := false, Psk := (Vector.replicate 32 (0 : UInt8)), HasEnd := false, End := TEndpoint_zero, HasKeep := false, Keep := (0 : Int), Replace := false, Allowed := ([] : (List TPrefix)) } : TPeerChange) (none, 0)]) ⟨rfl, rfl, trivial⟩ rfl ⟨⟨0, rfl⟩, trivial⟩ (fun _ _ hf => ⟨hf (Fk (α := TPeerChange) true ({ Key := (lat p0.Peers x4).Key, Remove := true, Update := false, HasPsk := false, Psk := (Vector.replicate 32 (0 : UInt8)), HasEnd := false, End := TEndpoint_zero, HasKeep := false, Keep := (0 : Int), Replace := false, Allowed := ([] : (List TPrefix)) } : TPeerChange) (none, 0)) (by simp) rfl, trivial⟩) (by kernel_rfl)) fun q10 => GH.tail <| GT.l rfl rfl (LX.append (xs := x5.Peers) (ys := ([({ Key := (lat p0.Peers x4).Key, Remove := true, Update := false, HasPsk := false, Psk := (Vector.replicate 32 (0 : UInt8)), HasEnd := false, End := TEndpoint_zero, HasKeep := false, Keep := (0 : Int), Replace := false, Allowed := ([] : (List TPrefix)) } : TPeerChange)] : (List TPeerChange))) (r := q5) (s := (q10, 1)) Try.underlying30 1 5 0 rfl rfl rfl rfl rfl h.2.1) fun q11 => GT.g rfl rfl (QE.fa rfl) rfl <| GT.l rfl rfl (LX.st (β := (List TPeerChange)) (z := x5.Peers ++ ([({ Key := (lat p0.Peers x4).Key, Remove := true, Update := false, HasPsk := false, Psk := (Vector.replicate 32 (0 : UInt8)), HasEnd := false, End := TEndpoint_zero, HasKeep := false, Keep := (0 : Int), Replace := false, Allowed := ([] : (List TPrefix)) } : TPeerChange)] : (List TPeerChange))) (s := q11) 2 TRequest_l_Peers rfl rfl rfl) fun _ => GT.fact (Fk (α := TRequest) true { x5 with Peers := x5.Peers ++ ([({ Key := (lat p0.Peers x4).Key, Remove := true, Update := false, HasPsk := false, Psk := (Vector.replicate 32 (0 : UInt8)), HasEnd := false, End := TEndpoint_zero, HasKeep := false, Keep := (0 : Int), Replace := false, Allowed := ([] : (List TPrefix)) } : TPeerChange)] : (List TPeerChange)) } q11) (fun _ _ hf _ => ((TRequest_l_Peers).oks (y := (x5.Peers ++ ([({ Key := (lat p0.Peers x4).Key, Remove := true, Update := false, HasPsk := false, Psk := (Vector.replicate 32 (0 : UInt8)), HasEnd := false, End := TEndpoint_zero, HasKeep := false, Keep := (0 : Int), Replace := false, Allowed := ([] : (List TPrefix)) } : TPeerChange)] : (List TPeerChange)) : (List TPeerChange))) (s := q11) (hf 15 rfl rfl) (hf 0 rfl rfl) :)) <| GT.nil (GC.weaken (hj4 _ q11 h.2.2) ⟨rfl, rfl, rfl, rfl, rfl, trivial⟩ ⟨⟨13, rfl⟩, ⟨14, rfl⟩, ⟨15, rfl⟩, ⟨0, rfl⟩, trivial⟩ [1, 2, 3, 4, 5] (by decide) ⟨rfl, rfl, rfl, rfl, rfl, trivial⟩))
              · replace h := h.2 hb
                exact GC.skip (GC.weaken (hj4 _ q5 h) ⟨rfl, rfl, rfl, rfl, rfl, trivial⟩ ⟨⟨5, rfl⟩, ⟨6, rfl⟩, ⟨7, rfl⟩, ⟨8, rfl⟩, trivial⟩ [0, 1, 2, 3, 4] (by decide) ⟨rfl, rfl, rfl, rfl, rfl, trivial⟩)
            · replace h := h.2 hb
              refine GC.exitK (fun _ _ => rfl) ?_
              refine GC.seq ?_
              refine GC.seq ?_
              refine GC.region (GL.u (QE.assign rfl) rfl <| GL.nilK (fun _ _ => rfl) ?_)
              refine GC.block ?_
              refine GC.loop ?_
              refine GLoop.weaken (h (fun x7 x8 => ∀ (q12 : R.Raw TRequest), GLoop _ _ [(2, true, .pointer (some ⟨b1, 0, none⟩)), (3, true, .pointer (some ⟨b2, 0, none⟩)), (4, true, .pointer (some ⟨b3, 0, none⟩)), (5, true, .pointer (some ⟨b4, 0, none⟩)), (7, true, V (α := Int) x7 ())] [Fk (α := TConf) true p0 r0, Fk (α := TConf) true p1 r1, Fk (α := TRequest) true TRequest_zero (none, 0), Fk (α := TRequest) true x8 q12] [tp 47 (R.size TPeerChange) (List.length x8.Peers) (q12).1 (q12).2, bx (α := TRequest) x8 q12 b4 32, bx (α := TRequest) TRequest_zero (none, 0) b3 32, bx (α := TConf) p1 r1 b2 27, bx (α := TConf) p0 r0 b1 27] _) (fun x7 x8 h => ?_) q5) ⟨rfl, rfl, rfl, rfl, rfl, trivial⟩ ⟨⟨1, rfl⟩, ⟨2, rfl⟩, ⟨3, rfl⟩, ⟨4, rfl⟩, trivial⟩ [0, 1, 2, 3, 4] (by decide) ⟨rfl, rfl, rfl, rfl, rfl, trivial⟩
              intro q12
              refine GLoop.round ?_
              refine GC.seq ?_
              refine GC.seq ?_
              refine GC.region (GL.u (QE.move rfl) rfl <| GL.u (QE.fa rfl) rfl <| GL.u (QE.ld 3 TConf_l_Peers rfl rfl) rfl <| GL.fact (Fk (α := (List TPeer)) true p1.Peers r1) (fun _ _ hf _ => (TConf_l_Peers.okg (hf 1 rfl rfl) :)) <| GL.u (QE.len rfl (run_underlying Try.underlying25)) rfl <| GL.u (QE.cmp rfl rfl) rfl <| GL.nilK (fun _ _ => rfl) ?_)
              refine GC.cond rfl (fun hb => ?_) (fun hb => ?_)
              · replace h := h.1 hb
                refine GC.skipK (fun _ _ => rfl) ?_
                refine GC.seq ?_
                refine GC.block ?_
                refine GC.seq ?_
                refine GC.draw (fun _ => True) [] (.q 0 <| .q 1 <| .q 2 <| .q 3 <| .q 4 <| .q 5 <| .q 6 <| .l 7 <| .q 8 <| .tail []) mixed (by kernel_rfl) (GH.g rfl rfl (QE.ld 4 Lens.id rfl rfl) rfl <| GH.g rfl rfl (QE.fa rfl) rfl <| GH.g rfl rfl (QE.ld 3 TConf_l_Peers rfl rfl) rfl <| GH.g rfl rfl (QE.move rfl) rfl <| GH.gx rfl rfl (QX.ias (xs := p1.Peers) (r := r1) 0 rfl rfl rfl (fun _ => h.1)) rfl fun d5 => GH.gx rfl rfl (QX.fa 0 TPeer_l_Key rfl rfl) rfl fun d6 => GH.gx rfl rfl (QX.ld 0 rfl rfl) rfl fun q13 => GH.l rfl rfl (LX.call (.cons rfl (fun _ => rfl) (.cons rfl (fun _ => rfl) .nil)) (fun _ => r35_At.ok h.2) (fun h => by cases h) (.cons 4 rfl (fun _ => rfl) .nil)) fun ⟨⟨y6, h⟩, q14⟩ => GH.g rfl rfl (QE.assign rfl) rfl <| GH.tail <| GT.nilK (fun _ _ => rfl) ?_)
                refine GC.seq ?_
                refine GC.draw (fun _ => True) [] (.q 0 <| .q 1 <| .q 2 <| .q 3 <| .q 4 <| .q 5 <| .q 6 <| .q 7 <| .q 8 <| .q 9 <| .q 10 <| .q 11 <| .q 12 <| .q 13 <| .q 14 <| .l 15 <| .q 16 <| .q 17 <| .tail []) mixed (by kernel_rfl) (GH.g rfl rfl (QE.move rfl) rfl <| GH.g rfl rfl (QE.cmp rfl rfl) rfl <| GH.g rfl rfl (QE.move rfl) rfl <| GH.g rfl ⟨_, _, _, rfl, rfl, rfl⟩ (QE.fa rfl) rfl <| GH.g rfl ⟨_, _, _, rfl, rfl, rfl⟩ (QE.ld 4 TConf_l_Peers rfl rfl) rfl <| GH.fact (Fk (α := (List TPeer)) true p0.Peers r0) (fun _ _ hf _ => (TConf_l_Peers.okg (hf 5 rfl rfl) :)) <| GH.g rfl ⟨_, _, _, rfl, rfl, rfl⟩ (QE.move rfl) rfl <| GH.gx rfl ⟨_, _, _, rfl, rfl, rfl⟩ (QX.ias (xs := p0.Peers) (r := r0) 0 rfl rfl rfl h.1) rfl fun d7 => GH.gx rfl ⟨_, _, _, rfl, rfl, rfl⟩ (QX.fa 0 TPeer_l_Allowed rfl rfl) rfl fun d8 => GH.gx rfl ⟨_, _, _, rfl, rfl, rfl⟩ (QX.ld 0 rfl rfl) rfl fun q15 => GH.g rfl ⟨_, _, _, rfl, rfl, rfl⟩ (QE.fa rfl) rfl <| GH.g rfl ⟨_, _, _, rfl, rfl, rfl⟩ (QE.ld 3 TConf_l_Peers rfl rfl) rfl <| GH.g rfl ⟨_, _, _, rfl, rfl, rfl⟩ (QE.move rfl) rfl <| GH.gx rfl ⟨_, _, _, rfl, rfl, rfl⟩ (QX.ias (xs := p1.Peers) (r := r1) 8 rfl rfl rfl h.2.1) rfl fun d9 => GH.gx rfl ⟨_, _, _, rfl, rfl, rfl⟩ (QX.fa 0 TPeer_l_Allowed rfl rfl) rfl fun d10 => GH.gx rfl ⟨_, _, _, rfl, rfl, rfl⟩ (QX.ld 0 rfl rfl) rfl fun q16 => GH.l rfl ⟨_, _, _, rfl, rfl, rfl⟩ (LX.call (.cons rfl (fun h => h) (.cons rfl (fun h => h) .nil)) (fun hg => r11_Same.ok (h.2.2.1 hg)) (fun hg => h.2.2.2 hg) (.cons 3 rfl (fun h => h) (.cons 0 rfl (fun h => h) .nil))) fun ⟨⟨y7, h⟩, q17⟩ => GH.g rfl ⟨_, _, _, rfl, rfl, rfl⟩ (QE.not rfl) rfl <| GH.g rfl rfl (QE.and rfl rfl) rfl <| GH.tail <| GT.nilK (fun _ _ => rfl) ?_)
                obtain ⟨J5, hj5W, h⟩ := WJ.open h
                refine GC.joinAt (fun _ _ => rfl) (fun cx Q c => ∀ (x9 : TRequest) (q18 : R.Raw TRequest), J5 x9 → GC cx Q [(2, true, .pointer (some ⟨b1, 0, none⟩)), (3, true, .pointer (some ⟨b2, 0, none⟩)), (4, true, .pointer (some ⟨b3, 0, none⟩)), (5, true, .pointer (some ⟨b4, 0, none⟩)), (7, true, V (α := Int) x7 ())] [Fk (α := TConf) true p0 r0, Fk (α := TConf) true p1 r1, Fk (α := TRequest) true TRequest_zero (none, 0), Fk (α := TRequest) true x9 q18] [tp 47 (R.size TPeerChange) (List.length x9.Peers) (q18).1 (q18).2, bx (α := TRequest) x9 q18 b4 32, bx (α := TRequest) TRequest_zero (none, 0) b3 32, bx (α := TConf) p1 r1 b2 27, bx (α := TConf) p0 r0 b1 27] c) ?_ (fun hj5 => ?_)
                · intro x9 q18 h
                  rw [hj5W] at h
                  exact GC.region (GL.u (QE.move rfl) rfl <| GL.u (QE.ar rfl rfl) rfl <| GL.u (QE.assign rfl) rfl <| GL.nil (GLoop.weaken (h q18) ⟨rfl, rfl, rfl, rfl, rfl, trivial⟩ ⟨⟨0, rfl⟩, ⟨1, rfl⟩, ⟨2, rfl⟩, ⟨3, rfl⟩, trivial⟩ [0, 1, 2, 3, 4] (by decide) ⟨rfl, rfl, rfl, rfl, rfl, trivial⟩))
                refine GC.cond rfl (fun hb => ?_) (fun hb => ?_)
                · replace h := h.1 hb
                  exact GC.draw (fun _ => True) [10, 11, 12] (.q 0 <| .q 1 <| .q 2 <| .q 3 <| .q 4 <| .q 5 <| .q 6 <| .q 7 <| .q 8 <| .l 9 <| .tail [10, 11, 12]) mixed (by kernel_rfl) (GH.g rfl rfl (QE.fa rfl) rfl <| GH.g rfl rfl (QE.ld 1 TRequest_l_Peers rfl rfl) rfl <| GH.fact (Fk (α := (List TPeerChange)) true x8.Peers q12) (fun _ _ hf _ => (TRequest_l_Peers.okg (hf 16 rfl rfl) :)) <| GH.g rfl rfl (QE.fa rfl) rfl <| GH.g rfl rfl (QE.ld 3 TConf_l_Peers rfl rfl) rfl <| GH.g rfl rfl (QE.move rfl) rfl <| GH.gx rfl rfl (QX.ias (xs := p1.Peers) (r := r1) 13 rfl rfl rfl (fun _ => h.1)) rfl fun d11 => GH.gx rfl rfl (QX.fa 0 TPeer_l_Key rfl rfl) rfl fun d12 => GH.gx rfl rfl (QX.ld 0 rfl rfl) rfl fun q19 => GH.g rfl rfl (QE.build (x := ({ Key := (lat p1.Peers x7).Key, Remove := false, Update := true, HasPsk := false, Psk := (Vector.replicate 32 (0 : UInt8)), HasEnd := false, End := TEndpoint_zero, HasKeep := false, Keep := (0 : Int), Replace := true, Allowed := ([] : (List TPrefix)) } : TPeerChange)) (r := (none, 0)) (.cons rfl (fun _ => rfl) (.cons rfl (fun _ => rfl) (.cons rfl (fun _ => rfl) .nil))) (.cons TPeerChange_l_Key ((lat p1.Peers x7).Key) () rfl rfl (.cons TPeerChange_l_Update (true) () rfl rfl (.cons TPeerChange_l_Replace (true) () rfl rfl (.nil _ _))))) rfl <| GH.fact (Fk (α := TPeerChange) true ({ Key := (lat p1.Peers x7).Key, Remove := false, Update := true, HasPsk := false, Psk := (Vector.replicate 32 (0 : UInt8)), HasEnd := false, End := TEndpoint_zero, HasKeep := false, Keep := (0 : Int), Replace := true, Allowed := ([] : (List TPrefix)) } : TPeerChange) (none, 0)) (fun _ _ hf _ => .inl rfl) <| GH.l rfl rfl (LX.lit (xs := ([({ Key := (lat p1.Peers x7).Key, Remove := false, Update := true, HasPsk := false, Psk := (Vector.replicate 32 (0 : UInt8)), HasEnd := false, End := TEndpoint_zero, HasKeep := false, Keep := (0 : Int), Replace := true, Allowed := ([] : (List TPrefix)) } : TPeerChange)] : (List TPeerChange))) (rs := [(none, 0)]) (fs1 := [Fk (α := TPeerChange) true ({ Key := (lat p1.Peers x7).Key, Remove := false, Update := true, HasPsk := false, Psk := (Vector.replicate 32 (0 : UInt8)), HasEnd := false, End := TEndpoint_zero, HasKeep := false, Keep := (0 : Int), Replace := true, Allowed := ([] : (List TPrefix)) } : TPeerChange) (none, 0)]) ⟨rfl, rfl, trivial⟩ rfl ⟨⟨0, rfl⟩, trivial⟩ (fun _ _ hf => ⟨hf (Fk (α := TPeerChange) true ({ Key := (lat p1.Peers x7).Key, Remove := false, Update := true, HasPsk := false, Psk := (Vector.replicate 32 (0 : UInt8)), HasEnd := false, End := TEndpoint_zero, HasKeep := false, Keep := (0 : Int), Replace := true, Allowed := ([] : (List TPrefix)) } : TPeerChange) (none, 0)) (by simp) rfl, trivial⟩) (by kernel_rfl)) fun q20 => GH.tail <| GT.l rfl rfl (LX.append (xs := x8.Peers) (ys := ([({ Key := (lat p1.Peers x7).Key, Remove := false, Update := true, HasPsk := false, Psk := (Vector.replicate 32 (0 : UInt8)), HasEnd := false, End := TEndpoint_zero, HasKeep := false, Keep := (0 : Int), Replace := true, Allowed := ([] : (List TPrefix)) } : TPeerChange)] : (List TPeerChange))) (r := q12) (s := (q20, 1)) Try.underlying30 1 5 0 rfl rfl rfl rfl rfl h.2.1) fun q21 => GT.g rfl rfl (QE.fa rfl) rfl <| GT.l rfl rfl (LX.st (β := (List TPeerChange)) (z := x8.Peers ++ ([({ Key := (lat p1.Peers x7).Key, Remove := false, Update := true, HasPsk := false, Psk := (Vector.replicate 32 (0 : UInt8)), HasEnd := false, End := TEndpoint_zero, HasKeep := false, Keep := (0 : Int), Replace := true, Allowed := ([] : (List TPrefix)) } : TPeerChange)] : (List TPeerChange))) (s := q21) 2 TRequest_l_Peers rfl rfl rfl) fun _ => GT.fact (Fk (α := TRequest) true { x8 with Peers := x8.Peers ++ ([({ Key := (lat p1.Peers x7).Key, Remove := false, Update := true, HasPsk := false, Psk := (Vector.replicate 32 (0 : UInt8)), HasEnd := false, End := TEndpoint_zero, HasKeep := false, Keep := (0 : Int), Replace := true, Allowed := ([] : (List TPrefix)) } : TPeerChange)] : (List TPeerChange)) } q21) (fun _ _ hf _ => ((TRequest_l_Peers).oks (y := (x8.Peers ++ ([({ Key := (lat p1.Peers x7).Key, Remove := false, Update := true, HasPsk := false, Psk := (Vector.replicate 32 (0 : UInt8)), HasEnd := false, End := TEndpoint_zero, HasKeep := false, Keep := (0 : Int), Replace := true, Allowed := ([] : (List TPrefix)) } : TPeerChange)] : (List TPeerChange)) : (List TPeerChange))) (s := q21) (hf 23 rfl rfl) (hf 0 rfl rfl) :)) <| GT.nil (GC.weaken (hj5 _ q21 h.2.2) ⟨rfl, rfl, rfl, rfl, rfl, trivial⟩ ⟨⟨21, rfl⟩, ⟨22, rfl⟩, ⟨23, rfl⟩, ⟨0, rfl⟩, trivial⟩ [1, 2, 3, 4, 5] (by decide) ⟨rfl, rfl, rfl, rfl, rfl, trivial⟩))
                · replace h := h.2 hb
                  exact GC.skip (GC.weaken (hj5 _ q12 h) ⟨rfl, rfl, rfl, rfl, rfl, trivial⟩ ⟨⟨13, rfl⟩, ⟨14, rfl⟩, ⟨15, rfl⟩, ⟨16, rfl⟩, trivial⟩ [0, 1, 2, 3, 4] (by decide) ⟨rfl, rfl, rfl, rfl, rfl, trivial⟩)
              · replace h := h.2 hb
                refine GC.exitK (fun _ _ => rfl) ?_
                refine GC.seq ?_
                refine GC.seq ?_
                refine GC.region (GL.u (QE.assign rfl) rfl <| GL.nilK (fun _ _ => rfl) ?_)
                refine GC.block ?_
                refine GC.loop ?_
                refine GLoop.weaken (h (fun x10 x11 => ∀ (q22 : R.Raw TRequest), GLoop _ _ [(2, true, .pointer (some ⟨b1, 0, none⟩)), (3, true, .pointer (some ⟨b2, 0, none⟩)), (4, true, .pointer (some ⟨b3, 0, none⟩)), (5, true, .pointer (some ⟨b4, 0, none⟩)), (9, true, V (α := Int) x10 ())] [Fk (α := TConf) true p0 r0, Fk (α := TConf) true p1 r1, Fk (α := TRequest) true TRequest_zero (none, 0), Fk (α := TRequest) true x11 q22] [tp 47 (R.size TPeerChange) (List.length x11.Peers) (q22).1 (q22).2, bx (α := TRequest) x11 q22 b4 32, bx (α := TRequest) TRequest_zero (none, 0) b3 32, bx (α := TConf) p1 r1 b2 27, bx (α := TConf) p0 r0 b1 27] _) (fun x10 x11 h => ?_) q12) ⟨rfl, rfl, rfl, rfl, rfl, trivial⟩ ⟨⟨1, rfl⟩, ⟨2, rfl⟩, ⟨3, rfl⟩, ⟨4, rfl⟩, trivial⟩ [0, 1, 2, 3, 4] (by decide) ⟨rfl, rfl, rfl, rfl, rfl, trivial⟩
                intro q22
                refine GLoop.round ?_
                refine GC.seq ?_
                refine GC.seq ?_
                refine GC.region (GL.u (QE.move rfl) rfl <| GL.u (QE.fa rfl) rfl <| GL.u (QE.ld 3 TConf_l_Peers rfl rfl) rfl <| GL.fact (Fk (α := (List TPeer)) true p1.Peers r1) (fun _ _ hf _ => (TConf_l_Peers.okg (hf 1 rfl rfl) :)) <| GL.u (QE.len rfl (run_underlying Try.underlying25)) rfl <| GL.u (QE.cmp rfl rfl) rfl <| GL.nilK (fun _ _ => rfl) ?_)
                refine GC.cond rfl (fun hb => ?_) (fun hb => ?_)
                · replace h := h.1 hb
                  refine GC.skipK (fun _ _ => rfl) ?_
                  refine GC.seq ?_
                  refine GC.block ?_
                  refine GC.seq ?_
                  refine GC.region (GL.u (QE.fa rfl) rfl <| GL.u (QE.ld 3 TConf_l_Peers rfl rfl) rfl <| GL.u (QE.move rfl) rfl <| GL.ux (QX.ias (xs := p1.Peers) (r := r1) 0 rfl rfl rfl (fun _ => h.1)) rfl fun d13 => GL.ux (QX.ld 0 rfl rfl) rfl fun q23 => GL.l rfl (LX.alloc (y := TPeer_zero) (r := (none, 0))) fun b5 => GL.fact (Fk (α := TPeer) true TPeer_zero (none, 0)) (fun _ _ _ _ => .inl rfl) <| GL.l rfl (LX.st (β := TPeer) (z := lat p1.Peers x10) (s := q23) 0 Lens.id rfl rfl rfl) fun _ => GL.nilK (fun _ _ => rfl) ?_)
                  refine GC.seq ?_
                  refine GC.region (GL.u (QE.ld 5 Lens.id rfl rfl) rfl <| GL.u (QE.fa rfl) rfl <| GL.u (QE.ld 0 TPeer_l_Key rfl rfl) rfl <| GL.l rfl (LX.call (.cons rfl (fun _ => rfl) (.cons rfl (fun _ => rfl) .nil)) (fun _ => r35_At.ok h.2) (fun h => by cases h) (.cons 4 rfl (fun _ => rfl) .nil)) fun ⟨⟨y8, h⟩, q24⟩ => GL.u (QE.assign rfl) rfl <| GL.nilK (fun _ _ => rfl) ?_)
                  refine GC.seq ?_
                  refine GC.region (GL.u (QE.fa rfl) rfl <| GL.u (QE.ld 0 TPeer_l_Key rfl rfl) rfl <| GL.u (QE.build (x := ({ Key := (lat p1.Peers x10).Key, Remove := false, Update := false, HasPsk := false, Psk := (Vector.replicate 32 (0 : UInt8)), HasEnd := false, End := TEndpoint_zero, HasKeep := false, Keep := (0 : Int), Replace := false, Allowed := ([] : (List TPrefix)) } : TPeerChange)) (r := (none, 0)) (.cons rfl (fun _ => rfl) .nil) (.cons TPeerChange_l_Key ((lat p1.Peers x10).Key) () rfl rfl (.nil _ _))) rfl <| GL.fact (Fk (α := TPeerChange) true ({ Key := (lat p1.Peers x10).Key, Remove := false, Update := false, HasPsk := false, Psk := (Vector.replicate 32 (0 : UInt8)), HasEnd := false, End := TEndpoint_zero, HasKeep := false, Keep := (0 : Int), Replace := false, Allowed := ([] : (List TPrefix)) } : TPeerChange) (none, 0)) (fun _ _ hf _ => .inl rfl) <| GL.l rfl (LX.alloc (y := TPeerChange_zero) (r := (none, 0))) fun b6 => GL.fact (Fk (α := TPeerChange) true TPeerChange_zero (none, 0)) (fun _ _ _ _ => .inl rfl) <| GL.l rfl (LX.st (β := TPeerChange) (z := ({ Key := (lat p1.Peers x10).Key, Remove := false, Update := false, HasPsk := false, Psk := (Vector.replicate 32 (0 : UInt8)), HasEnd := false, End := TEndpoint_zero, HasKeep := false, Keep := (0 : Int), Replace := false, Allowed := ([] : (List TPrefix)) } : TPeerChange)) (s := (none, 0)) 0 Lens.id rfl rfl rfl) fun _ => GL.nilK (fun _ _ => rfl) ?_)
                  refine GC.seq ?_
                  refine GC.region (GL.u (QE.fa rfl) rfl <| GL.u (QE.ld 1 TPeer_l_Key rfl rfl) rfl <| GL.u (QE.build (x := ({ Key := (lat p1.Peers x10).Key, Psk := (Vector.replicate 32 (0 : UInt8)), End := TEndpoint_zero, Keep := (0 : Int), Sent := (0 : UInt64), Got := (0 : UInt64), Allowed := ([] : (List TPrefix)) } : TPeer)) (r := (none, 0)) (.cons rfl (fun _ => rfl) .nil) (.cons TPeer_l_Key ((lat p1.Peers x10).Key) () rfl rfl (.nil _ _))) rfl <| GL.fact (Fk (α := TPeer) true ({ Key := (lat p1.Peers x10).Key, Psk := (Vector.replicate 32 (0 : UInt8)), End := TEndpoint_zero, Keep := (0 : Int), Sent := (0 : UInt64), Got := (0 : UInt64), Allowed := ([] : (List TPrefix)) } : TPeer) (none, 0)) (fun _ _ hf _ => .inl rfl) <| GL.l rfl (LX.alloc (y := TPeer_zero) (r := (none, 0))) fun b7 => GL.fact (Fk (α := TPeer) true TPeer_zero (none, 0)) (fun _ _ _ _ => .inl rfl) <| GL.l rfl (LX.st (β := TPeer) (z := ({ Key := (lat p1.Peers x10).Key, Psk := (Vector.replicate 32 (0 : UInt8)), End := TEndpoint_zero, Keep := (0 : Int), Sent := (0 : UInt64), Got := (0 : UInt64), Allowed := ([] : (List TPrefix)) } : TPeer)) (s := (none, 0)) 0 Lens.id rfl rfl rfl) fun _ => GL.nilK (fun _ _ => rfl) ?_)
                  refine GC.seq ?_
                  refine GC.seq ?_
                  refine GC.region (GL.u (QE.move rfl) rfl <| GL.u (QE.cmp rfl rfl) rfl <| GL.nilK (fun _ _ => rfl) ?_)
                  obtain ⟨J6, hj6W, h⟩ := WJ.open h
                  refine GC.joinAt (fun _ _ => rfl) (fun cx Q c => ∀ (x12 : TPeerChange) (x13 : TPeer) (q25 : R.Raw TPeer), J6 x12 x13 → GC cx Q [(2, true, .pointer (some ⟨b1, 0, none⟩)), (3, true, .pointer (some ⟨b2, 0, none⟩)), (4, true, .pointer (some ⟨b3, 0, none⟩)), (5, true, .pointer (some ⟨b4, 0, none⟩)), (9, true, V (α := Int) x10 ()), (10, true, .pointer (some ⟨b5, 0, none⟩)), (11, true, V (α := Int) y8 ()), (12, true, .pointer (some ⟨b6, 0, none⟩)), (13, true, .pointer (some ⟨b7, 0, none⟩))] [Fk (α := TConf) true p0 r0, Fk (α := TConf) true p1 r1, Fk (α := TRequest) true TRequest_zero (none, 0), Fk (α := TRequest) true x11 q22, Fk (α := TPeer) true (lat p1.Peers x10) q23, Fk (α := TPeerChange) true x12 (none, 0), Fk (α := TPeer) true x13 q25] [bx (α := TPeer) x13 q25 b7 45, bx (α := TPeerChange) x12 (none, 0) b6 47, bx (α := TPeer) (lat p1.Peers x10) q23 b5 45, tp 47 (R.size TPeerChange) (List.length x11.Peers) (q22).1 (q22).2, bx (α := TRequest) x11 q22 b4 32, bx (α := TRequest) TRequest_zero (none, 0) b3 32, bx (α := TConf) p1 r1 b2 27, bx (α := TConf) p0 r0 b1 27] c) ?_ (fun hj6 => ?_)
                  · intro x12 x13 q25 h
                    rw [hj6W] at h
                    refine GC.seq ?_
                    refine GC.seq ?_
                    refine GC.region (GL.u (QE.move rfl) rfl <| GL.u (QE.cmp rfl rfl) rfl <| GL.u (QE.move rfl) rfl <| GL.g ⟨_, _, _, rfl, rfl, rfl⟩ (QE.fa rfl) rfl <| GL.g ⟨_, _, _, rfl, rfl, rfl⟩ (QE.ld 0 TPeer_l_Psk rfl rfl) rfl <| GL.g ⟨_, _, _, rfl, rfl, rfl⟩ (QE.fa rfl) rfl <| GL.g ⟨_, _, _, rfl, rfl, rfl⟩ (QE.ld 2 TPeer_l_Psk rfl rfl) rfl <| GL.g ⟨_, _, _, rfl, rfl, rfl⟩ (QE.neA (α := (Vector UInt8 32)) (a := x13.Psk) (b := (lat p1.Peers x10).Psk) (r := ()) (s := ()) rfl rfl) rfl <| GL.u (QE.or rfl rfl) rfl <| GL.nilK (fun _ _ => rfl) ?_)
                    obtain ⟨J7, hj7W, h⟩ := WJ.open h
                    refine GC.joinAt (fun _ _ => rfl) (fun cx Q c => ∀ (x14 : TPeerChange), J7 x14 → GC cx Q [(2, true, .pointer (some ⟨b1, 0, none⟩)), (3, true, .pointer (some ⟨b2, 0, none⟩)), (4, true, .pointer (some ⟨b3, 0, none⟩)), (5, true, .pointer (some ⟨b4, 0, none⟩)), (9, true, V (α := Int) x10 ()), (10, true, .pointer (some ⟨b5, 0, none⟩)), (11, true, V (α := Int) y8 ()), (12, true, .pointer (some ⟨b6, 0, none⟩)), (13, true, .pointer (some ⟨b7, 0, none⟩))] [Fk (α := TConf) true p0 r0, Fk (α := TConf) true p1 r1, Fk (α := TRequest) true TRequest_zero (none, 0), Fk (α := TRequest) true x11 q22, Fk (α := TPeer) true (lat p1.Peers x10) q23, Fk (α := TPeerChange) true x14 (none, 0), Fk (α := TPeer) true x13 q25] [bx (α := TPeer) x13 q25 b7 45, bx (α := TPeerChange) x14 (none, 0) b6 47, bx (α := TPeer) (lat p1.Peers x10) q23 b5 45, tp 47 (R.size TPeerChange) (List.length x11.Peers) (q22).1 (q22).2, bx (α := TRequest) x11 q22 b4 32, bx (α := TRequest) TRequest_zero (none, 0) b3 32, bx (α := TConf) p1 r1 b2 27, bx (α := TConf) p0 r0 b1 27] c) ?_ (fun hj7 => ?_)
                    · intro x14 h
                      rw [hj7W] at h
                      refine GC.seq ?_
                      refine GC.seq ?_
                      refine GC.region (GL.u (QE.fa rfl) rfl <| GL.u (QE.ld 0 TPeer_l_End rfl rfl) rfl <| GL.u (QE.fa rfl) rfl <| GL.u (QE.ld 2 TPeer_l_End rfl rfl) rfl <| GL.u (QE.neA (α := TEndpoint) (a := x13.End) (b := (lat p1.Peers x10).End) (r := ()) (s := ()) rfl rfl) rfl <| GL.nilK (fun _ _ => rfl) ?_)
                      obtain ⟨J8, hj8W, h⟩ := WJ.open h
                      refine GC.joinAt (fun _ _ => rfl) (fun cx Q c => ∀ (x15 : TPeerChange), J8 x15 → GC cx Q [(2, true, .pointer (some ⟨b1, 0, none⟩)), (3, true, .pointer (some ⟨b2, 0, none⟩)), (4, true, .pointer (some ⟨b3, 0, none⟩)), (5, true, .pointer (some ⟨b4, 0, none⟩)), (9, true, V (α := Int) x10 ()), (10, true, .pointer (some ⟨b5, 0, none⟩)), (11, true, V (α := Int) y8 ()), (12, true, .pointer (some ⟨b6, 0, none⟩)), (13, true, .pointer (some ⟨b7, 0, none⟩))] [Fk (α := TConf) true p0 r0, Fk (α := TConf) true p1 r1, Fk (α := TRequest) true TRequest_zero (none, 0), Fk (α := TRequest) true x11 q22, Fk (α := TPeer) true (lat p1.Peers x10) q23, Fk (α := TPeerChange) true x15 (none, 0), Fk (α := TPeer) true x13 q25] [bx (α := TPeer) x13 q25 b7 45, bx (α := TPeerChange) x15 (none, 0) b6 47, bx (α := TPeer) (lat p1.Peers x10) q23 b5 45, tp 47 (R.size TPeerChange) (List.length x11.Peers) (q22).1 (q22).2, bx (α := TRequest) x11 q22 b4 32, bx (α := TRequest) TRequest_zero (none, 0) b3 32, bx (α := TConf) p1 r1 b2 27, bx (α := TConf) p0 r0 b1 27] c) ?_ (fun hj8 => ?_)
                      · intro x15 h
                        rw [hj8W] at h
                        refine GC.seq ?_
                        refine GC.seq ?_
                        refine GC.region (GL.u (QE.move rfl) rfl <| GL.u (QE.cmp rfl rfl) rfl <| GL.u (QE.move rfl) rfl <| GL.g ⟨_, _, _, rfl, rfl, rfl⟩ (QE.fa rfl) rfl <| GL.g ⟨_, _, _, rfl, rfl, rfl⟩ (QE.ld 0 TPeer_l_Keep rfl rfl) rfl <| GL.g ⟨_, _, _, rfl, rfl, rfl⟩ (QE.fa rfl) rfl <| GL.g ⟨_, _, _, rfl, rfl, rfl⟩ (QE.ld 2 TPeer_l_Keep rfl rfl) rfl <| GL.g ⟨_, _, _, rfl, rfl, rfl⟩ (QE.cmp rfl rfl) rfl <| GL.u (QE.or rfl rfl) rfl <| GL.nilK (fun _ _ => rfl) ?_)
                        obtain ⟨J9, hj9W, h⟩ := WJ.open h
                        refine GC.joinAt (fun _ _ => rfl) (fun cx Q c => ∀ (x16 : TPeerChange), J9 x16 → GC cx Q [(2, true, .pointer (some ⟨b1, 0, none⟩)), (3, true, .pointer (some ⟨b2, 0, none⟩)), (4, true, .pointer (some ⟨b3, 0, none⟩)), (5, true, .pointer (some ⟨b4, 0, none⟩)), (9, true, V (α := Int) x10 ()), (10, true, .pointer (some ⟨b5, 0, none⟩)), (11, true, V (α := Int) y8 ()), (12, true, .pointer (some ⟨b6, 0, none⟩)), (13, true, .pointer (some ⟨b7, 0, none⟩))] [Fk (α := TConf) true p0 r0, Fk (α := TConf) true p1 r1, Fk (α := TRequest) true TRequest_zero (none, 0), Fk (α := TRequest) true x11 q22, Fk (α := TPeer) true (lat p1.Peers x10) q23, Fk (α := TPeerChange) true x16 (none, 0), Fk (α := TPeer) true x13 q25] [bx (α := TPeer) x13 q25 b7 45, bx (α := TPeerChange) x16 (none, 0) b6 47, bx (α := TPeer) (lat p1.Peers x10) q23 b5 45, tp 47 (R.size TPeerChange) (List.length x11.Peers) (q22).1 (q22).2, bx (α := TRequest) x11 q22 b4 32, bx (α := TRequest) TRequest_zero (none, 0) b3 32, bx (α := TConf) p1 r1 b2 27, bx (α := TConf) p0 r0 b1 27] c) ?_ (fun hj9 => ?_)
                        · intro x16 h
                          rw [hj9W] at h
                          refine GC.seq ?_
                          refine GC.region (GL.u (QE.fa rfl) rfl <| GL.u (QE.ld 0 TPeer_l_Allowed rfl rfl) rfl <| GL.fact (Fk (α := (List TPrefix)) true x13.Allowed q25) (fun _ _ hf _ => (TPeer_l_Allowed.okg (hf 6 rfl rfl) :)) <| GL.u (QE.fa rfl) rfl <| GL.u (QE.ld 2 TPeer_l_Allowed rfl rfl) rfl <| GL.fact (Fk (α := (List TPrefix)) true ((lat p1.Peers x10).Allowed) q23) (fun _ _ hf _ => (TPeer_l_Allowed.okg (hf 5 rfl rfl) :)) <| GL.l rfl (LX.call (.cons rfl (fun _ => rfl) (.cons rfl (fun _ => rfl) .nil)) (fun _ => r11_Same.ok h) (fun h => by cases h) (.cons 1 rfl (fun _ => rfl) (.cons 0 rfl (fun _ => rfl) .nil))) fun ⟨⟨y9, h⟩, q26⟩ => GL.u (QE.not rfl) rfl <| GL.u (QE.assign rfl) rfl <| GL.nilK (fun _ _ => rfl) ?_)
                          refine GC.seq ?_
                          refine GC.seq ?_
                          refine GC.region (GL.u (QE.move rfl) rfl <| GL.nilK (fun _ _ => rfl) ?_)
                          obtain ⟨J10, hj10W, h⟩ := WJ.open h
                          refine GC.joinAt (fun _ _ => rfl) (fun cx Q c => ∀ (x17 : TPeerChange) (q27 : R.Raw TPeerChange), J10 x17 → GC cx Q [(2, true, .pointer (some ⟨b1, 0, none⟩)), (3, true, .pointer (some ⟨b2, 0, none⟩)), (4, true, .pointer (some ⟨b3, 0, none⟩)), (5, true, .pointer (some ⟨b4, 0, none⟩)), (9, true, V (α := Int) x10 ()), (11, true, V (α := Int) y8 ()), (12, true, .pointer (some ⟨b6, 0, none⟩)), (14, true, V (α := Bool) (!y9) ())] [Fk (α := TConf) true p0 r0, Fk (α := TConf) true p1 r1, Fk (α := TRequest) true TRequest_zero (none, 0), Fk (α := TRequest) true x11 q22, Fk (α := TPeerChange) true x17 q27] [bx (α := TPeerChange) x17 q27 b6 47, tp 47 (R.size TPeerChange) (List.length x11.Peers) (q22).1 (q22).2, bx (α := TRequest) x11 q22 b4 32, bx (α := TRequest) TRequest_zero (none, 0) b3 32, bx (α := TConf) p1 r1 b2 27, bx (α := TConf) p0 r0 b1 27] c) ?_ (fun hj10 => ?_)
                          · intro x17 q27 h
                            rw [hj10W] at h
                            refine GC.seq ?_
                            refine GC.region (GL.u (QE.move rfl) rfl <| GL.u (QE.cmp rfl rfl) rfl <| GL.u (QE.move rfl) rfl <| GL.g ⟨_, _, _, rfl, rfl, rfl⟩ (QE.fa rfl) rfl <| GL.g ⟨_, _, _, rfl, rfl, rfl⟩ (QE.ld 0 TPeerChange_l_HasPsk rfl rfl) rfl <| GL.u (QE.or rfl rfl) rfl <| GL.u (QE.move rfl) rfl <| GL.g ⟨_, _, _, rfl, rfl, rfl⟩ (QE.fa rfl) rfl <| GL.g ⟨_, _, _, rfl, rfl, rfl⟩ (QE.ld 0 TPeerChange_l_HasEnd rfl rfl) rfl <| GL.u (QE.or rfl rfl) rfl <| GL.u (QE.move rfl) rfl <| GL.g ⟨_, _, _, rfl, rfl, rfl⟩ (QE.fa rfl) rfl <| GL.g ⟨_, _, _, rfl, rfl, rfl⟩ (QE.ld 0 TPeerChange_l_HasKeep rfl rfl) rfl <| GL.u (QE.or rfl rfl) rfl <| GL.u (QE.move rfl) rfl <| GL.g ⟨_, _, _, rfl, rfl, rfl⟩ (QE.move rfl) rfl <| GL.u (QE.or rfl rfl) rfl <| GL.nilK (fun _ _ => rfl) ?_)
                            obtain ⟨J11, hj11W, h⟩ := WJ.open h
                            refine GC.joinAt (fun _ _ => rfl) (fun cx Q c => ∀ (x18 : TRequest) (q28 : R.Raw TRequest), J11 x18 → GC cx Q [(2, true, .pointer (some ⟨b1, 0, none⟩)), (3, true, .pointer (some ⟨b2, 0, none⟩)), (4, true, .pointer (some ⟨b3, 0, none⟩)), (5, true, .pointer (some ⟨b4, 0, none⟩)), (9, true, V (α := Int) x10 ())] [Fk (α := TConf) true p0 r0, Fk (α := TConf) true p1 r1, Fk (α := TRequest) true TRequest_zero (none, 0), Fk (α := TRequest) true x18 q28] [tp 47 (R.size TPeerChange) (List.length x18.Peers) (q28).1 (q28).2, bx (α := TRequest) x18 q28 b4 32, bx (α := TRequest) TRequest_zero (none, 0) b3 32, bx (α := TConf) p1 r1 b2 27, bx (α := TConf) p0 r0 b1 27] c) ?_ (fun hj11 => ?_)
                            · intro x18 q28 h
                              rw [hj11W] at h
                              exact GC.region (GL.u (QE.move rfl) rfl <| GL.u (QE.ar rfl rfl) rfl <| GL.u (QE.assign rfl) rfl <| GL.nil (GLoop.weaken (h q28) ⟨rfl, rfl, rfl, rfl, rfl, trivial⟩ ⟨⟨0, rfl⟩, ⟨1, rfl⟩, ⟨2, rfl⟩, ⟨3, rfl⟩, trivial⟩ [0, 1, 2, 3, 4] (by decide) ⟨rfl, rfl, rfl, rfl, rfl, trivial⟩))
                            refine GC.cond rfl (fun hb => ?_) (fun hb => ?_)
                            · replace h := h.1 hb
                              exact GC.region (GL.u (QE.fa rfl) rfl <| GL.u (QE.ld 2 TRequest_l_Peers rfl rfl) rfl <| GL.fact (Fk (α := (List TPeerChange)) true x11.Peers q22) (fun _ _ hf _ => (TRequest_l_Peers.okg (hf 3 rfl rfl) :)) <| GL.u (QE.ld 0 Lens.id rfl rfl) rfl <| GL.l rfl (LX.lit (xs := ([x17] : (List TPeerChange))) (rs := [q27]) (fs1 := [Fk (α := TPeerChange) true x17 q27]) ⟨rfl, rfl, trivial⟩ rfl ⟨⟨5, rfl⟩, trivial⟩ (fun _ _ hf => ⟨hf (Fk (α := TPeerChange) true x17 q27) (by simp) rfl, trivial⟩) (by kernel_rfl)) fun q29 => GL.l rfl (LX.append (xs := x11.Peers) (ys := ([x17] : (List TPeerChange))) (r := q22) (s := (q29, 1)) Try.underlying30 2 1 0 rfl rfl rfl rfl rfl h.1) fun q30 => GL.u (QE.fa rfl) rfl <| GL.l rfl (LX.st (β := (List TPeerChange)) (z := x11.Peers ++ ([x17] : (List TPeerChange))) (s := q30) 3 TRequest_l_Peers rfl rfl rfl) fun _ => GL.fact (Fk (α := TRequest) true { x11 with Peers := x11.Peers ++ ([x17] : (List TPeerChange)) } q30) (fun _ _ hf _ => ((TRequest_l_Peers).oks (y := (x11.Peers ++ ([x17] : (List TPeerChange)) : (List TPeerChange))) (s := q30) (hf 6 rfl rfl) (hf 0 rfl rfl) :)) <| GL.nil (GC.weaken (hj11 _ q30 h.2) ⟨rfl, rfl, rfl, rfl, rfl, trivial⟩ ⟨⟨4, rfl⟩, ⟨5, rfl⟩, ⟨6, rfl⟩, ⟨0, rfl⟩, trivial⟩ [2, 3, 4, 5, 6] (by decide) ⟨rfl, rfl, rfl, rfl, rfl, trivial⟩))
                            · replace h := h.2 hb
                              exact GC.skip (GC.weaken (hj11 _ q22 h) ⟨rfl, rfl, rfl, rfl, rfl, trivial⟩ ⟨⟨0, rfl⟩, ⟨1, rfl⟩, ⟨2, rfl⟩, ⟨3, rfl⟩, trivial⟩ [1, 2, 3, 4, 5] (by decide) ⟨rfl, rfl, rfl, rfl, rfl, trivial⟩)
                          refine GC.cond rfl (fun hb => ?_) (fun hb => ?_)
                          · replace h := h.1 hb
                            exact GC.region (GL.u (QE.fa rfl) rfl <| GL.u (QE.ld 2 TPeer_l_Allowed rfl rfl) rfl <| GL.u (QE.fa rfl) rfl <| GL.l rfl (LX.st (β := (List TPrefix)) (z := (lat p1.Peers x10).Allowed) (s := q23) 1 TPeerChange_l_Allowed rfl rfl rfl) fun _ => GL.fact (Fk (α := TPeerChange) true { x16 with Allowed := (lat p1.Peers x10).Allowed } q23) (fun _ _ hf _ => ((TPeerChange_l_Allowed).oks (y := ((lat p1.Peers x10).Allowed : (List TPrefix))) (s := q23) (hf 8 rfl rfl) (hf 1 rfl rfl) :)) <| GL.nil (GC.weaken (hj10 _ q23 h) ⟨rfl, rfl, rfl, rfl, rfl, rfl, rfl, rfl, trivial⟩ ⟨⟨4, rfl⟩, ⟨5, rfl⟩, ⟨6, rfl⟩, ⟨7, rfl⟩, ⟨0, rfl⟩, trivial⟩ [1, 3, 4, 5, 6, 7] (by decide) ⟨rfl, rfl, rfl, rfl, rfl, rfl, trivial⟩))
                          · replace h := h.2 hb
                            exact GC.skip (GC.weaken (hj10 _ (none, 0) h) ⟨rfl, rfl, rfl, rfl, rfl, rfl, rfl, rfl, trivial⟩ ⟨⟨3, rfl⟩, ⟨4, rfl⟩, ⟨5, rfl⟩, ⟨6, rfl⟩, ⟨8, rfl⟩, trivial⟩ [1, 3, 4, 5, 6, 7] (by decide) ⟨rfl, rfl, rfl, rfl, rfl, rfl, trivial⟩)
                        refine GC.cond rfl (fun hb => ?_) (fun hb => ?_)
                        · replace h := h.1 hb
                          refine GC.seq ?_
                          refine GC.region (GL.u (QE.fa rfl) rfl <| GL.l rfl (LX.st (β := Bool) (z := true) (s := ()) 1 TPeerChange_l_HasKeep rfl rfl rfl) fun _ => GL.fact (Fk (α := TPeerChange) true { x15 with HasKeep := true } (none, 0)) (fun _ _ hf _ => ((TPeerChange_l_HasKeep).oks (y := (true : Bool)) (s := ()) (hf 5 rfl rfl) (by exact trivial) :)) <| GL.nilK (fun _ _ => rfl) ?_)
                          exact GC.region (GL.u (QE.fa rfl) rfl <| GL.u (QE.ld 2 TPeer_l_Keep rfl rfl) rfl <| GL.u (QE.fa rfl) rfl <| GL.l rfl (LX.st (β := Int) (z := (lat p1.Peers x10).Keep) (s := ()) 1 TPeerChange_l_Keep rfl rfl rfl) fun _ => GL.fact (Fk (α := TPeerChange) true { x15 with HasKeep := true, Keep := (lat p1.Peers x10).Keep } (none, 0)) (fun _ _ hf _ => ((TPeerChange_l_Keep).oks (y := ((lat p1.Peers x10).Keep : Int)) (s := ()) (hf 0 rfl rfl) (by exact trivial) :)) <| GL.nil (GC.weaken (hj9 _ h) ⟨rfl, rfl, rfl, rfl, rfl, rfl, rfl, rfl, rfl, trivial⟩ ⟨⟨2, rfl⟩, ⟨3, rfl⟩, ⟨4, rfl⟩, ⟨5, rfl⟩, ⟨6, rfl⟩, ⟨0, rfl⟩, ⟨8, rfl⟩, trivial⟩ [0, 1, 2, 3, 4, 5, 6, 7] (by decide) ⟨rfl, rfl, rfl, rfl, rfl, rfl, rfl, rfl, trivial⟩))
                        · replace h := h.2 hb
                          exact GC.skip (GC.weaken (hj9 _ h) ⟨rfl, rfl, rfl, rfl, rfl, rfl, rfl, rfl, rfl, trivial⟩ ⟨⟨0, rfl⟩, ⟨1, rfl⟩, ⟨2, rfl⟩, ⟨3, rfl⟩, ⟨4, rfl⟩, ⟨5, rfl⟩, ⟨6, rfl⟩, trivial⟩ [0, 1, 2, 3, 4, 5, 6, 7] (by decide) ⟨rfl, rfl, rfl, rfl, rfl, rfl, rfl, rfl, trivial⟩)
                      refine GC.cond rfl (fun hb => ?_) (fun hb => ?_)
                      · replace h := h.1 hb
                        refine GC.seq ?_
                        refine GC.region (GL.u (QE.fa rfl) rfl <| GL.l rfl (LX.st (β := Bool) (z := true) (s := ()) 1 TPeerChange_l_HasEnd rfl rfl rfl) fun _ => GL.fact (Fk (α := TPeerChange) true { x14 with HasEnd := true } (none, 0)) (fun _ _ hf _ => ((TPeerChange_l_HasEnd).oks (y := (true : Bool)) (s := ()) (hf 5 rfl rfl) (by exact trivial) :)) <| GL.nilK (fun _ _ => rfl) ?_)
                        exact GC.region (GL.u (QE.fa rfl) rfl <| GL.u (QE.ld 2 TPeer_l_End rfl rfl) rfl <| GL.u (QE.fa rfl) rfl <| GL.l rfl (LX.st (β := TEndpoint) (z := (lat p1.Peers x10).End) (s := ()) 1 TPeerChange_l_End rfl rfl rfl) fun _ => GL.fact (Fk (α := TPeerChange) true { x14 with HasEnd := true, End := (lat p1.Peers x10).End } (none, 0)) (fun _ _ hf _ => ((TPeerChange_l_End).oks (y := ((lat p1.Peers x10).End : TEndpoint)) (s := ()) (hf 0 rfl rfl) (by exact trivial) :)) <| GL.nil (GC.weaken (hj8 _ h) ⟨rfl, rfl, rfl, rfl, rfl, rfl, rfl, rfl, rfl, trivial⟩ ⟨⟨2, rfl⟩, ⟨3, rfl⟩, ⟨4, rfl⟩, ⟨5, rfl⟩, ⟨6, rfl⟩, ⟨0, rfl⟩, ⟨8, rfl⟩, trivial⟩ [0, 1, 2, 3, 4, 5, 6, 7] (by decide) ⟨rfl, rfl, rfl, rfl, rfl, rfl, rfl, rfl, trivial⟩))
                      · replace h := h.2 hb
                        exact GC.skip (GC.weaken (hj8 _ h) ⟨rfl, rfl, rfl, rfl, rfl, rfl, rfl, rfl, rfl, trivial⟩ ⟨⟨0, rfl⟩, ⟨1, rfl⟩, ⟨2, rfl⟩, ⟨3, rfl⟩, ⟨4, rfl⟩, ⟨5, rfl⟩, ⟨6, rfl⟩, trivial⟩ [0, 1, 2, 3, 4, 5, 6, 7] (by decide) ⟨rfl, rfl, rfl, rfl, rfl, rfl, rfl, rfl, trivial⟩)
                    refine GC.cond rfl (fun hb => ?_) (fun hb => ?_)
                    · replace h := h.1 hb
                      refine GC.seq ?_
                      refine GC.region (GL.u (QE.fa rfl) rfl <| GL.l rfl (LX.st (β := Bool) (z := true) (s := ()) 1 TPeerChange_l_HasPsk rfl rfl rfl) fun _ => GL.fact (Fk (α := TPeerChange) true { x12 with HasPsk := true } (none, 0)) (fun _ _ hf _ => ((TPeerChange_l_HasPsk).oks (y := (true : Bool)) (s := ()) (hf 5 rfl rfl) (by exact trivial) :)) <| GL.nilK (fun _ _ => rfl) ?_)
                      exact GC.region (GL.u (QE.fa rfl) rfl <| GL.u (QE.ld 2 TPeer_l_Psk rfl rfl) rfl <| GL.u (QE.fa rfl) rfl <| GL.l rfl (LX.st (β := (Vector UInt8 32)) (z := (lat p1.Peers x10).Psk) (s := ()) 1 TPeerChange_l_Psk rfl rfl rfl) fun _ => GL.fact (Fk (α := TPeerChange) true { x12 with HasPsk := true, Psk := (lat p1.Peers x10).Psk } (none, 0)) (fun _ _ hf _ => ((TPeerChange_l_Psk).oks (y := ((lat p1.Peers x10).Psk : (Vector UInt8 32))) (s := ()) (hf 0 rfl rfl) (by exact trivial) :)) <| GL.nil (GC.weaken (hj7 _ h) ⟨rfl, rfl, rfl, rfl, rfl, rfl, rfl, rfl, rfl, trivial⟩ ⟨⟨2, rfl⟩, ⟨3, rfl⟩, ⟨4, rfl⟩, ⟨5, rfl⟩, ⟨6, rfl⟩, ⟨0, rfl⟩, ⟨8, rfl⟩, trivial⟩ [0, 1, 2, 3, 4, 5, 6, 7] (by decide) ⟨rfl, rfl, rfl, rfl, rfl, rfl, rfl, rfl, trivial⟩))
                    · replace h := h.2 hb
                      exact GC.skip (GC.weaken (hj7 _ h) ⟨rfl, rfl, rfl, rfl, rfl, rfl, rfl, rfl, rfl, trivial⟩ ⟨⟨0, rfl⟩, ⟨1, rfl⟩, ⟨2, rfl⟩, ⟨3, rfl⟩, ⟨4, rfl⟩, ⟨5, rfl⟩, ⟨6, rfl⟩, trivial⟩ [0, 1, 2, 3, 4, 5, 6, 7] (by decide) ⟨rfl, rfl, rfl, rfl, rfl, rfl, rfl, rfl, trivial⟩)
                  refine GC.cond rfl (fun hb => ?_) (fun hb => ?_)
                  · replace h := h.1 hb
                    refine GC.seq ?_
                    refine GC.region (GL.u (QE.fa rfl) rfl <| GL.u (QE.ld 7 TConf_l_Peers rfl rfl) rfl <| GL.fact (Fk (α := (List TPeer)) true p0.Peers r0) (fun _ _ hf _ => (TConf_l_Peers.okg (hf 9 rfl rfl) :)) <| GL.u (QE.move rfl) rfl <| GL.ux (QX.ias (xs := p0.Peers) (r := r0) 0 rfl rfl rfl (fun _ => h.1)) rfl fun d14 => GL.ux (QX.ld 0 rfl rfl) rfl fun q31 => GL.l rfl (LX.st (β := TPeer) (z := lat p0.Peers y8) (s := q31) 0 Lens.id rfl rfl rfl) fun _ => GL.nilK (fun _ _ => rfl) ?_)
                    exact GC.region (GL.u (QE.fa rfl) rfl <| GL.l rfl (LX.st (β := Bool) (z := true) (s := ()) 1 TPeerChange_l_Update rfl rfl rfl) fun _ => GL.fact (Fk (α := TPeerChange) true ({ Key := (lat p1.Peers x10).Key, Remove := false, Update := true, HasPsk := false, Psk := (Vector.replicate 32 (0 : UInt8)), HasEnd := false, End := TEndpoint_zero, HasKeep := false, Keep := (0 : Int), Replace := false, Allowed := ([] : (List TPrefix)) } : TPeerChange) (none, 0)) (fun _ _ hf _ => ((TPeerChange_l_Update).oks (y := (true : Bool)) (s := ()) (hf 6 rfl rfl) (by exact trivial) :)) <| GL.nil (GC.weaken (hj6 _ _ q31 h.2) ⟨rfl, rfl, rfl, rfl, rfl, rfl, rfl, rfl, rfl, trivial⟩ ⟨⟨13, rfl⟩, ⟨14, rfl⟩, ⟨15, rfl⟩, ⟨16, rfl⟩, ⟨10, rfl⟩, ⟨0, rfl⟩, ⟨1, rfl⟩, trivial⟩ [0, 1, 2, 3, 4, 5, 6, 7] (by decide) ⟨rfl, rfl, rfl, rfl, rfl, rfl, rfl, rfl, trivial⟩))
                  · replace h := h.2 hb
                    exact GC.skip (GC.weaken (hj6 _ _ (none, 0) h) ⟨rfl, rfl, rfl, rfl, rfl, rfl, rfl, rfl, rfl, trivial⟩ ⟨⟨9, rfl⟩, ⟨10, rfl⟩, ⟨11, rfl⟩, ⟨12, rfl⟩, ⟨6, rfl⟩, ⟨3, rfl⟩, ⟨1, rfl⟩, trivial⟩ [0, 1, 2, 3, 4, 5, 6, 7] (by decide) ⟨rfl, rfl, rfl, rfl, rfl, rfl, rfl, rfl, trivial⟩)
                · replace h := h.2 hb
                  refine GC.exitK (fun _ _ => rfl) ?_
                  refine GC.seq ?_
                  refine GC.region (GL.u (QE.ld 1 Lens.id rfl rfl) rfl <| GL.l rfl (LX.st (β := TRequest) (z := x11) (s := q22) 2 Lens.id rfl rfl rfl) fun _ => GL.nilK (fun _ _ => rfl) ?_)
                  exact GC.ret (ret1 rfl (y1 := x11) (s1 := q22) (RV.cell 2 rfl rfl) (RO.fact 4 rfl) h)
          refine GC.cond rfl (fun hb => ?_) (fun hb => ?_)
          · replace h := h.1 hb
            refine GC.seq ?_
            refine GC.region (GL.u (QE.fa rfl) rfl <| GL.l rfl (LX.st (β := Bool) (z := true) (s := ()) 0 TRequest_l_HasMark rfl rfl rfl) fun _ => GL.fact (Fk (α := TRequest) true { x2 with HasMark := true } (none, 0)) (fun _ _ hf _ => ((TRequest_l_HasMark).oks (y := (true : Bool)) (s := ()) (hf 3 rfl rfl) (by exact trivial) :)) <| GL.nilK (fun _ _ => rfl) ?_)
            exact GC.region (GL.u (QE.fa rfl) rfl <| GL.u (QE.ld 2 TConf_l_Mark rfl rfl) rfl <| GL.u (QE.fa rfl) rfl <| GL.l rfl (LX.st (β := UInt32) (z := p1.Mark) (s := ()) 0 TRequest_l_Mark rfl rfl rfl) fun _ => GL.fact (Fk (α := TRequest) true { x2 with HasMark := true, Mark := p1.Mark } (none, 0)) (fun _ _ hf _ => ((TRequest_l_Mark).oks (y := (p1.Mark : UInt32)) (s := ()) (hf 0 rfl rfl) (by exact trivial) :)) <| GL.nil (GC.weaken (hj3 _ h) ⟨rfl, rfl, rfl, rfl, trivial⟩ ⟨⟨2, rfl⟩, ⟨3, rfl⟩, ⟨4, rfl⟩, ⟨0, rfl⟩, trivial⟩ [0, 1, 2, 3] (by decide) ⟨rfl, rfl, rfl, rfl, trivial⟩))
          · replace h := h.2 hb
            exact GC.skip (GC.weaken (hj3 _ h) ⟨rfl, rfl, rfl, rfl, trivial⟩ ⟨⟨0, rfl⟩, ⟨1, rfl⟩, ⟨2, rfl⟩, ⟨3, rfl⟩, trivial⟩ [0, 1, 2, 3] (by decide) ⟨rfl, rfl, rfl, rfl, trivial⟩)
        refine GC.cond rfl (fun hb => ?_) (fun hb => ?_)
        · replace h := h.1 hb
          refine GC.seq ?_
          refine GC.region (GL.u (QE.fa rfl) rfl <| GL.l rfl (LX.st (β := Bool) (z := true) (s := ()) 0 TRequest_l_HasPort rfl rfl rfl) fun _ => GL.fact (Fk (α := TRequest) true { x1 with HasPort := true } (none, 0)) (fun _ _ hf _ => ((TRequest_l_HasPort).oks (y := (true : Bool)) (s := ()) (hf 3 rfl rfl) (by exact trivial) :)) <| GL.nilK (fun _ _ => rfl) ?_)
          exact GC.region (GL.u (QE.fa rfl) rfl <| GL.u (QE.ld 2 TConf_l_Port rfl rfl) rfl <| GL.u (QE.fa rfl) rfl <| GL.l rfl (LX.st (β := Int) (z := p1.Port) (s := ()) 0 TRequest_l_Port rfl rfl rfl) fun _ => GL.fact (Fk (α := TRequest) true { x1 with HasPort := true, Port := p1.Port } (none, 0)) (fun _ _ hf _ => ((TRequest_l_Port).oks (y := (p1.Port : Int)) (s := ()) (hf 0 rfl rfl) (by exact trivial) :)) <| GL.nil (GC.weaken (hj2 _ h) ⟨rfl, rfl, rfl, rfl, trivial⟩ ⟨⟨2, rfl⟩, ⟨3, rfl⟩, ⟨4, rfl⟩, ⟨0, rfl⟩, trivial⟩ [0, 1, 2, 3] (by decide) ⟨rfl, rfl, rfl, rfl, trivial⟩))
        · replace h := h.2 hb
          exact GC.skip (GC.weaken (hj2 _ h) ⟨rfl, rfl, rfl, rfl, trivial⟩ ⟨⟨0, rfl⟩, ⟨1, rfl⟩, ⟨2, rfl⟩, ⟨3, rfl⟩, trivial⟩ [0, 1, 2, 3] (by decide) ⟨rfl, rfl, rfl, rfl, trivial⟩)
      refine GC.cond rfl (fun hb => ?_) (fun hb => ?_)
      · replace h := h.1 hb
        refine GC.seq ?_
        refine GC.region (GL.u (QE.fa rfl) rfl <| GL.l rfl (LX.st (β := Bool) (z := true) (s := ()) 0 TRequest_l_HasPrivate rfl rfl rfl) fun _ => GL.fact (Fk (α := TRequest) true { TRequest_zero with HasPrivate := true } (none, 0)) (fun _ _ hf _ => ((TRequest_l_HasPrivate).oks (y := (true : Bool)) (s := ()) (hf 3 rfl rfl) (by exact trivial) :)) <| GL.nilK (fun _ _ => rfl) ?_)
        exact GC.region (GL.u (QE.fa rfl) rfl <| GL.u (QE.ld 2 TConf_l_Private rfl rfl) rfl <| GL.u (QE.fa rfl) rfl <| GL.l rfl (LX.st (β := (Vector UInt8 32)) (z := p1.Private) (s := ()) 0 TRequest_l_Private rfl rfl rfl) fun _ => GL.fact (Fk (α := TRequest) true { TRequest_zero with HasPrivate := true, Private := p1.Private } (none, 0)) (fun _ _ hf _ => ((TRequest_l_Private).oks (y := (p1.Private : (Vector UInt8 32))) (s := ()) (hf 0 rfl rfl) (by exact trivial) :)) <| GL.nil (GC.weaken (hj1 _ h) ⟨rfl, rfl, rfl, rfl, trivial⟩ ⟨⟨7, rfl⟩, ⟨8, rfl⟩, ⟨5, rfl⟩, ⟨0, rfl⟩, trivial⟩ [0, 1, 2, 3] (by decide) ⟨rfl, rfl, rfl, rfl, trivial⟩))
      · replace h := h.2 hb
        exact GC.skip (GC.weaken (hj1 _ h) ⟨rfl, rfl, rfl, rfl, trivial⟩ ⟨⟨5, rfl⟩, ⟨6, rfl⟩, ⟨3, rfl⟩, ⟨3, rfl⟩, trivial⟩ [0, 1, 2, 3] (by decide) ⟨rfl, rfl, rfl, rfl, trivial⟩)

theorem r32_SamePeer.ok {p0 : TPeerChange} {p1 : TPeerChange} {r0 : R.Raw TPeerChange} {r1 : R.Raw TPeerChange} {K : Bool → Prop} (h : r32_SamePeer.W p0 p1 K) : Ct P 21 [V p0 r0, V p1 r1] [Fk (α := TPeerChange) true p0 r0, Fk (α := TPeerChange) true p1 r1] K := by
  unfold r32_SamePeer.W at h
  refine Ct.of (n := 80) Try.func21 rfl rfl rfl fun w0 m0 => ?_
  refine GC.seq ?_
  refine GC.region (GL.l rfl (LX.box (y := p0) (r := r0) rfl) fun b1 => GL.l rfl (LX.box (y := p1) (r := r1) rfl) fun b2 => GL.u (QE.assign rfl) rfl <| GL.nilK (fun _ _ => rfl) ?_)
  refine GC.seq ?_
  refine GC.region (GL.u (QE.fa rfl) rfl <| GL.u (QE.ld 1 TPeerChange_l_Key rfl rfl) rfl <| GL.u (QE.fa rfl) rfl <| GL.u (QE.ld 0 TPeerChange_l_Key rfl rfl) rfl <| GL.u (QE.eqA (α := (Vector UInt8 32)) (a := p0.Key) (b := p1.Key) (r := ()) (s := ()) rfl rfl) rfl <| GL.u (QE.move rfl) rfl <| GL.g ⟨_, _, _, rfl, rfl, rfl⟩ (QE.fa rfl) rfl <| GL.g ⟨_, _, _, rfl, rfl, rfl⟩ (QE.ld 1 TPeerChange_l_Remove rfl rfl) rfl <| GL.g ⟨_, _, _, rfl, rfl, rfl⟩ (QE.fa rfl) rfl <| GL.g ⟨_, _, _, rfl, rfl, rfl⟩ (QE.ld 0 TPeerChange_l_Remove rfl rfl) rfl <| GL.g ⟨_, _, _, rfl, rfl, rfl⟩ (QE.eqB Try.underlying4 rfl rfl) rfl <| GL.u (QE.and rfl rfl) rfl <| GL.u (QE.move rfl) rfl <| GL.g ⟨_, _, _, rfl, rfl, rfl⟩ (QE.fa rfl) rfl <| GL.g ⟨_, _, _, rfl, rfl, rfl⟩ (QE.ld 1 TPeerChange_l_Update rfl rfl) rfl <| GL.g ⟨_, _, _, rfl, rfl, rfl⟩ (QE.fa rfl) rfl <| GL.g ⟨_, _, _, rfl, rfl, rfl⟩ (QE.ld 0 TPeerChange_l_Update rfl rfl) rfl <| GL.g ⟨_, _, _, rfl, rfl, rfl⟩ (QE.eqB Try.underlying4 rfl rfl) rfl <| GL.u (QE.and rfl rfl) rfl <| GL.u (QE.move rfl) rfl <| GL.g ⟨_, _, _, rfl, rfl, rfl⟩ (QE.fa rfl) rfl <| GL.g ⟨_, _, _, rfl, rfl, rfl⟩ (QE.ld 1 TPeerChange_l_HasPsk rfl rfl) rfl <| GL.g ⟨_, _, _, rfl, rfl, rfl⟩ (QE.fa rfl) rfl <| GL.g ⟨_, _, _, rfl, rfl, rfl⟩ (QE.ld 0 TPeerChange_l_HasPsk rfl rfl) rfl <| GL.g ⟨_, _, _, rfl, rfl, rfl⟩ (QE.eqB Try.underlying4 rfl rfl) rfl <| GL.u (QE.and rfl rfl) rfl <| GL.u (QE.move rfl) rfl <| GL.g ⟨_, _, _, rfl, rfl, rfl⟩ (QE.fa rfl) rfl <| GL.g ⟨_, _, _, rfl, rfl, rfl⟩ (QE.ld 1 TPeerChange_l_Psk rfl rfl) rfl <| GL.g ⟨_, _, _, rfl, rfl, rfl⟩ (QE.fa rfl) rfl <| GL.g ⟨_, _, _, rfl, rfl, rfl⟩ (QE.ld 0 TPeerChange_l_Psk rfl rfl) rfl <| GL.g ⟨_, _, _, rfl, rfl, rfl⟩ (QE.eqA (α := (Vector UInt8 32)) (a := p0.Psk) (b := p1.Psk) (r := ()) (s := ()) rfl rfl) rfl <| GL.u (QE.and rfl rfl) rfl <| GL.u (QE.move rfl) rfl <| GL.g ⟨_, _, _, rfl, rfl, rfl⟩ (QE.fa rfl) rfl <| GL.g ⟨_, _, _, rfl, rfl, rfl⟩ (QE.ld 1 TPeerChange_l_HasEnd rfl rfl) rfl <| GL.g ⟨_, _, _, rfl, rfl, rfl⟩ (QE.fa rfl) rfl <| GL.g ⟨_, _, _, rfl, rfl, rfl⟩ (QE.ld 0 TPeerChange_l_HasEnd rfl rfl) rfl <| GL.g ⟨_, _, _, rfl, rfl, rfl⟩ (QE.eqB Try.underlying4 rfl rfl) rfl <| GL.u (QE.and rfl rfl) rfl <| GL.u (QE.move rfl) rfl <| GL.g ⟨_, _, _, rfl, rfl, rfl⟩ (QE.fa rfl) rfl <| GL.g ⟨_, _, _, rfl, rfl, rfl⟩ (QE.ld 1 TPeerChange_l_End rfl rfl) rfl <| GL.g ⟨_, _, _, rfl, rfl, rfl⟩ (QE.fa rfl) rfl <| GL.g ⟨_, _, _, rfl, rfl, rfl⟩ (QE.ld 0 TPeerChange_l_End rfl rfl) rfl <| GL.g ⟨_, _, _, rfl, rfl, rfl⟩ (QE.eqA (α := TEndpoint) (a := p0.End) (b := p1.End) (r := ()) (s := ()) rfl rfl) rfl <| GL.u (QE.and rfl rfl) rfl <| GL.u (QE.move rfl) rfl <| GL.g ⟨_, _, _, rfl, rfl, rfl⟩ (QE.fa rfl) rfl <| GL.g ⟨_, _, _, rfl, rfl, rfl⟩ (QE.ld 1 TPeerChange_l_HasKeep rfl rfl) rfl <| GL.g ⟨_, _, _, rfl, rfl, rfl⟩ (QE.fa rfl) rfl <| GL.g ⟨_, _, _, rfl, rfl, rfl⟩ (QE.ld 0 TPeerChange_l_HasKeep rfl rfl) rfl <| GL.g ⟨_, _, _, rfl, rfl, rfl⟩ (QE.eqB Try.underlying4 rfl rfl) rfl <| GL.u (QE.and rfl rfl) rfl <| GL.u (QE.move rfl) rfl <| GL.g ⟨_, _, _, rfl, rfl, rfl⟩ (QE.fa rfl) rfl <| GL.g ⟨_, _, _, rfl, rfl, rfl⟩ (QE.ld 1 TPeerChange_l_Keep rfl rfl) rfl <| GL.g ⟨_, _, _, rfl, rfl, rfl⟩ (QE.fa rfl) rfl <| GL.g ⟨_, _, _, rfl, rfl, rfl⟩ (QE.ld 0 TPeerChange_l_Keep rfl rfl) rfl <| GL.g ⟨_, _, _, rfl, rfl, rfl⟩ (QE.cmp rfl rfl) rfl <| GL.u (QE.and rfl rfl) rfl <| GL.u (QE.move rfl) rfl <| GL.g ⟨_, _, _, rfl, rfl, rfl⟩ (QE.fa rfl) rfl <| GL.g ⟨_, _, _, rfl, rfl, rfl⟩ (QE.ld 1 TPeerChange_l_Replace rfl rfl) rfl <| GL.g ⟨_, _, _, rfl, rfl, rfl⟩ (QE.fa rfl) rfl <| GL.g ⟨_, _, _, rfl, rfl, rfl⟩ (QE.ld 0 TPeerChange_l_Replace rfl rfl) rfl <| GL.g ⟨_, _, _, rfl, rfl, rfl⟩ (QE.eqB Try.underlying4 rfl rfl) rfl <| GL.u (QE.and rfl rfl) rfl <| GL.u (QE.move rfl) rfl <| GL.g ⟨_, _, _, rfl, rfl, rfl⟩ (QE.fa rfl) rfl <| GL.g ⟨_, _, _, rfl, rfl, rfl⟩ (QE.ld 1 TPeerChange_l_Allowed rfl rfl) rfl <| GL.fact (Fk (α := (List TPrefix)) true p0.Allowed r0) (fun _ _ hf _ => (TPeerChange_l_Allowed.okg (hf 0 rfl rfl) :)) <| GL.g ⟨_, _, _, rfl, rfl, rfl⟩ (QE.fa rfl) rfl <| GL.g ⟨_, _, _, rfl, rfl, rfl⟩ (QE.ld 0 TPeerChange_l_Allowed rfl rfl) rfl <| GL.fact (Fk (α := (List TPrefix)) true p1.Allowed r1) (fun _ _ hf _ => (TPeerChange_l_Allowed.okg (hf 2 rfl rfl) :)) <| GL.l ⟨_, _, _, rfl, rfl, rfl⟩ (LX.call (.cons rfl (fun h => h) (.cons rfl (fun h => h) .nil)) (fun hg => r11_Same.ok (h.1 hg)) (fun hg => h.2 hg) (.cons 1 rfl (fun _ => rfl) (.cons 0 rfl (fun _ => rfl) .nil))) fun ⟨⟨y1, h⟩, q1⟩ => GL.u (QE.and rfl rfl) rfl <| GL.u (QE.assign rfl) rfl <| GL.nilK (fun _ _ => rfl) ?_)
  exact GC.ret (ret1 rfl (y1 := ((((((((((decide (p0.Key = p1.Key)) && (p0.Remove == p1.Remove)) && (p0.Update == p1.Update)) && (p0.HasPsk == p1.HasPsk)) && (decide (p0.Psk = p1.Psk))) && (p0.HasEnd == p1.HasEnd)) && (decide (p0.End = p1.End))) && (p0.HasKeep == p1.HasKeep)) && (cmpI .eql p0.Keep p1.Keep)) && (p0.Replace == p1.Replace)) && y1) (s1 := ()) (RV.tmp rfl) (RO.flat fun _ _ _ => trivial) h)

theorem r32_Same.ok {p0 : TRequest} {p1 : TRequest} {r0 : R.Raw TRequest} {r1 : R.Raw TRequest} {K : Bool → Prop} (h : r32_Same.W p0 p1 K) : Ct P 7 [V p0 r0, V p1 r1] [Fk (α := TRequest) true p0 r0, Fk (α := TRequest) true p1 r1] K := by
  unfold r32_Same.W at h
  refine Ct.of (n := 81) Try.func7 rfl rfl rfl fun w0 m0 => ?_
  refine GC.seq ?_
  refine GC.region (GL.l rfl (LX.box (y := p0) (r := r0) rfl) fun b1 => GL.l rfl (LX.box (y := p1) (r := r1) rfl) fun b2 => GL.u (QE.assign rfl) rfl <| GL.nilK (fun _ _ => rfl) ?_)
  refine GC.seq ?_
  refine GC.seq ?_
  refine GC.region (GL.u (QE.fa rfl) rfl <| GL.u (QE.ld 1 TRequest_l_HasPrivate rfl rfl) rfl <| GL.u (QE.fa rfl) rfl <| GL.u (QE.ld 0 TRequest_l_HasPrivate rfl rfl) rfl <| GL.u (QE.neB Try.underlying4 rfl rfl) rfl <| GL.u (QE.move rfl) rfl <| GL.g ⟨_, _, _, rfl, rfl, rfl⟩ (QE.fa rfl) rfl <| GL.g ⟨_, _, _, rfl, rfl, rfl⟩ (QE.ld 1 TRequest_l_Private rfl rfl) rfl <| GL.g ⟨_, _, _, rfl, rfl, rfl⟩ (QE.fa rfl) rfl <| GL.g ⟨_, _, _, rfl, rfl, rfl⟩ (QE.ld 0 TRequest_l_Private rfl rfl) rfl <| GL.g ⟨_, _, _, rfl, rfl, rfl⟩ (QE.neA (α := (Vector UInt8 32)) (a := p0.Private) (b := p1.Private) (r := ()) (s := ()) rfl rfl) rfl <| GL.u (QE.or rfl rfl) rfl <| GL.u (QE.move rfl) rfl <| GL.g ⟨_, _, _, rfl, rfl, rfl⟩ (QE.fa rfl) rfl <| GL.g ⟨_, _, _, rfl, rfl, rfl⟩ (QE.ld 1 TRequest_l_HasPort rfl rfl) rfl <| GL.g ⟨_, _, _, rfl, rfl, rfl⟩ (QE.fa rfl) rfl <| GL.g ⟨_, _, _, rfl, rfl, rfl⟩ (QE.ld 0 TRequest_l_HasPort rfl rfl) rfl <| GL.g ⟨_, _, _, rfl, rfl, rfl⟩ (QE.neB Try.underlying4 rfl rfl) rfl <| GL.u (QE.or rfl rfl) rfl <| GL.u (QE.move rfl) rfl <| GL.g ⟨_, _, _, rfl, rfl, rfl⟩ (QE.fa rfl) rfl <| GL.g ⟨_, _, _, rfl, rfl, rfl⟩ (QE.ld 1 TRequest_l_Port rfl rfl) rfl <| GL.g ⟨_, _, _, rfl, rfl, rfl⟩ (QE.fa rfl) rfl <| GL.g ⟨_, _, _, rfl, rfl, rfl⟩ (QE.ld 0 TRequest_l_Port rfl rfl) rfl <| GL.g ⟨_, _, _, rfl, rfl, rfl⟩ (QE.cmp rfl rfl) rfl <| GL.u (QE.or rfl rfl) rfl <| GL.u (QE.move rfl) rfl <| GL.g ⟨_, _, _, rfl, rfl, rfl⟩ (QE.fa rfl) rfl <| GL.g ⟨_, _, _, rfl, rfl, rfl⟩ (QE.ld 1 TRequest_l_HasMark rfl rfl) rfl <| GL.g ⟨_, _, _, rfl, rfl, rfl⟩ (QE.fa rfl) rfl <| GL.g ⟨_, _, _, rfl, rfl, rfl⟩ (QE.ld 0 TRequest_l_HasMark rfl rfl) rfl <| GL.g ⟨_, _, _, rfl, rfl, rfl⟩ (QE.neB Try.underlying4 rfl rfl) rfl <| GL.u (QE.or rfl rfl) rfl <| GL.u (QE.move rfl) rfl <| GL.g ⟨_, _, _, rfl, rfl, rfl⟩ (QE.fa rfl) rfl <| GL.g ⟨_, _, _, rfl, rfl, rfl⟩ (QE.ld 1 TRequest_l_Mark rfl rfl) rfl <| GL.g ⟨_, _, _, rfl, rfl, rfl⟩ (QE.fa rfl) rfl <| GL.g ⟨_, _, _, rfl, rfl, rfl⟩ (QE.ld 0 TRequest_l_Mark rfl rfl) rfl <| GL.g ⟨_, _, _, rfl, rfl, rfl⟩ (QE.cmp rfl rfl) rfl <| GL.u (QE.or rfl rfl) rfl <| GL.u (QE.move rfl) rfl <| GL.g ⟨_, _, _, rfl, rfl, rfl⟩ (QE.fa rfl) rfl <| GL.g ⟨_, _, _, rfl, rfl, rfl⟩ (QE.ld 1 TRequest_l_Replace rfl rfl) rfl <| GL.g ⟨_, _, _, rfl, rfl, rfl⟩ (QE.fa rfl) rfl <| GL.g ⟨_, _, _, rfl, rfl, rfl⟩ (QE.ld 0 TRequest_l_Replace rfl rfl) rfl <| GL.g ⟨_, _, _, rfl, rfl, rfl⟩ (QE.neB Try.underlying4 rfl rfl) rfl <| GL.u (QE.or rfl rfl) rfl <| GL.u (QE.move rfl) rfl <| GL.g ⟨_, _, _, rfl, rfl, rfl⟩ (QE.fa rfl) rfl <| GL.g ⟨_, _, _, rfl, rfl, rfl⟩ (QE.ld 1 TRequest_l_Peers rfl rfl) rfl <| GL.fact (Fk (α := (List TPeerChange)) true p0.Peers r0) (fun _ _ hf _ => (TRequest_l_Peers.okg (hf 0 rfl rfl) :)) <| GL.g ⟨_, _, _, rfl, rfl, rfl⟩ (QE.len rfl (run_underlying Try.underlying30)) rfl <| GL.g ⟨_, _, _, rfl, rfl, rfl⟩ (QE.fa rfl) rfl <| GL.g ⟨_, _, _, rfl, rfl, rfl⟩ (QE.ld 0 TRequest_l_Peers rfl rfl) rfl <| GL.fact (Fk (α := (List TPeerChange)) true p1.Peers r1) (fun _ _ hf _ => (TRequest_l_Peers.okg (hf 2 rfl rfl) :)) <| GL.g ⟨_, _, _, rfl, rfl, rfl⟩ (QE.len rfl (run_underlying Try.underlying30)) rfl <| GL.g ⟨_, _, _, rfl, rfl, rfl⟩ (QE.cmp rfl rfl) rfl <| GL.u (QE.or rfl rfl) rfl <| GL.nilK (fun _ _ => rfl) ?_)
  refine GC.cond rfl (fun hb => ?_) (fun hb => ?_)
  · replace h := h.1 hb
    refine GC.seq ?_
    refine GC.region (GL.u (QE.assign rfl) rfl <| GL.nilK (fun _ _ => rfl) ?_)
    exact GC.ret (ret1 rfl (y1 := false) (s1 := ()) (RV.tmp rfl) (RO.flat fun _ _ _ => trivial) h)
  · replace h := h.2 hb
    refine GC.skipK (fun _ _ => rfl) ?_
    refine GC.seq ?_
    refine GC.seq ?_
    refine GC.region (GL.u (QE.assign rfl) rfl <| GL.nilK (fun _ _ => rfl) ?_)
    refine GC.block ?_
    refine GC.loop ?_
    refine GLoop.weaken (h (fun x1 => GLoop _ _ [(2, true, .pointer (some ⟨b1, 0, none⟩)), (3, true, .pointer (some ⟨b2, 0, none⟩)), (5, true, V (α := Int) x1 ())] [Fk (α := TRequest) true p0 r0, Fk (α := TRequest) true p1 r1] [bx (α := TRequest) p1 r1 b2 32, bx (α := TRequest) p0 r0 b1 32] _) (fun x1 h => ?_)) ⟨rfl, rfl, rfl, trivial⟩ ⟨⟨2, rfl⟩, ⟨3, rfl⟩, trivial⟩ [0, 1] (by decide) ⟨rfl, rfl, trivial⟩
    refine GLoop.round ?_
    refine GC.seq ?_
    refine GC.seq ?_
    refine GC.region (GL.u (QE.move rfl) rfl <| GL.u (QE.fa rfl) rfl <| GL.u (QE.ld 1 TRequest_l_Peers rfl rfl) rfl <| GL.fact (Fk (α := (List TPeerChange)) true p0.Peers r0) (fun _ _ hf _ => (TRequest_l_Peers.okg (hf 0 rfl rfl) :)) <| GL.u (QE.len rfl (run_underlying Try.underlying30)) rfl <| GL.u (QE.cmp rfl rfl) rfl <| GL.nilK (fun _ _ => rfl) ?_)
    refine GC.cond rfl (fun hb => ?_) (fun hb => ?_)
    · replace h := h.1 hb
      refine GC.skipK (fun _ _ => rfl) ?_
      refine GC.seq ?_
      refine GC.block ?_
      refine GC.seq ?_
      refine GC.draw (fun _ => True) [] (.q 0 <| .q 1 <| .q 2 <| .q 3 <| .q 4 <| .q 5 <| .q 6 <| .q 7 <| .q 8 <| .q 9 <| .l 10 <| .q 11 <| .tail []) mixed (by kernel_rfl) (GH.g rfl rfl (QE.fa rfl) rfl <| GH.g rfl rfl (QE.ld 1 TRequest_l_Peers rfl rfl) rfl <| GH.g rfl rfl (QE.move rfl) rfl <| GH.gx rfl rfl (QX.ias (xs := p0.Peers) (r := r0) 0 rfl rfl rfl (fun _ => h.1)) rfl fun d1 => GH.gx rfl rfl (QX.ld 0 rfl rfl) rfl fun q1 => GH.g rfl rfl (QE.fa rfl) rfl <| GH.g rfl rfl (QE.ld 0 TRequest_l_Peers rfl rfl) rfl <| GH.fact (Fk (α := (List TPeerChange)) true p1.Peers r1) (fun _ _ hf _ => (TRequest_l_Peers.okg (hf 4 rfl rfl) :)) <| GH.g rfl rfl (QE.move rfl) rfl <| GH.gx rfl rfl (QX.ias (xs := p1.Peers) (r := r1) 0 rfl rfl rfl (fun _ => h.2.1)) rfl fun d2 => GH.gx rfl rfl (QX.ld 0 rfl rfl) rfl fun q2 => GH.l rfl rfl (LX.call (.cons rfl (fun _ => rfl) (.cons rfl (fun _ => rfl) .nil)) (fun _ => r32_SamePeer.ok h.2.2) (fun h => by cases h) (.cons 3 rfl (fun _ => rfl) (.cons 0 rfl (fun _ => rfl) .nil))) fun ⟨⟨y1, h⟩, q3⟩ => GH.g rfl rfl (QE.not rfl) rfl <| GH.tail <| GT.nilK (fun _ _ => rfl) ?_)
      refine GC.cond rfl (fun hb => ?_) (fun hb => ?_)
      · replace h := h.1 hb
        refine GC.seq ?_
        refine GC.region (GL.u (QE.assign rfl) rfl <| GL.nilK (fun _ _ => rfl) ?_)
        exact GC.ret (ret1 rfl (y1 := false) (s1 := ()) (RV.tmp rfl) (RO.flat fun _ _ _ => trivial) h)
      · replace h := h.2 hb
        refine GC.skipK (fun _ _ => rfl) ?_
        exact GC.region (GL.u (QE.move rfl) rfl <| GL.u (QE.ar rfl rfl) rfl <| GL.u (QE.assign rfl) rfl <| GL.nil (GLoop.weaken h ⟨rfl, rfl, rfl, trivial⟩ ⟨⟨7, rfl⟩, ⟨8, rfl⟩, trivial⟩ [0, 1] (by decide) ⟨rfl, rfl, trivial⟩))
    · replace h := h.2 hb
      refine GC.exitK (fun _ _ => rfl) ?_
      refine GC.seq ?_
      refine GC.region (GL.u (QE.assign rfl) rfl <| GL.nilK (fun _ _ => rfl) ?_)
      exact GC.ret (ret1 rfl (y1 := true) (s1 := ()) (RV.tmp rfl) (RO.flat fun _ _ _ => trivial) h)

theorem r35_Empty.ok {p0 : TRequest} {r0 : R.Raw TRequest} {K : Bool → Prop} (h : r35_Empty.W p0 K) : Ct P 10 [V p0 r0] [Fk (α := TRequest) true p0 r0] K := by
  unfold r35_Empty.W at h
  refine Ct.of (n := 27) Try.func10 rfl rfl rfl fun w0 m0 => ?_
  refine GC.seq ?_
  refine GC.region (GL.l rfl (LX.box (y := p0) (r := r0) rfl) fun b1 => GL.u (QE.assign rfl) rfl <| GL.nilK (fun _ _ => rfl) ?_)
  refine GC.seq ?_
  refine GC.region (GL.u (QE.fa rfl) rfl <| GL.u (QE.ld 0 TRequest_l_HasPrivate rfl rfl) rfl <| GL.u (QE.not rfl) rfl <| GL.u (QE.move rfl) rfl <| GL.g ⟨_, _, _, rfl, rfl, rfl⟩ (QE.fa rfl) rfl <| GL.g ⟨_, _, _, rfl, rfl, rfl⟩ (QE.ld 0 TRequest_l_HasPort rfl rfl) rfl <| GL.g ⟨_, _, _, rfl, rfl, rfl⟩ (QE.not rfl) rfl <| GL.u (QE.and rfl rfl) rfl <| GL.u (QE.move rfl) rfl <| GL.g ⟨_, _, _, rfl, rfl, rfl⟩ (QE.fa rfl) rfl <| GL.g ⟨_, _, _, rfl, rfl, rfl⟩ (QE.ld 0 TRequest_l_HasMark rfl rfl) rfl <| GL.g ⟨_, _, _, rfl, rfl, rfl⟩ (QE.not rfl) rfl <| GL.u (QE.and rfl rfl) rfl <| GL.u (QE.move rfl) rfl <| GL.g ⟨_, _, _, rfl, rfl, rfl⟩ (QE.fa rfl) rfl <| GL.g ⟨_, _, _, rfl, rfl, rfl⟩ (QE.ld 0 TRequest_l_Replace rfl rfl) rfl <| GL.g ⟨_, _, _, rfl, rfl, rfl⟩ (QE.not rfl) rfl <| GL.u (QE.and rfl rfl) rfl <| GL.u (QE.move rfl) rfl <| GL.g ⟨_, _, _, rfl, rfl, rfl⟩ (QE.fa rfl) rfl <| GL.g ⟨_, _, _, rfl, rfl, rfl⟩ (QE.ld 0 TRequest_l_Peers rfl rfl) rfl <| GL.fact (Fk (α := (List TPeerChange)) true p0.Peers r0) (fun _ _ hf _ => (TRequest_l_Peers.okg (hf 0 rfl rfl) :)) <| GL.g ⟨_, _, _, rfl, rfl, rfl⟩ (QE.len rfl (run_underlying Try.underlying30)) rfl <| GL.g ⟨_, _, _, rfl, rfl, rfl⟩ (QE.cmp rfl rfl) rfl <| GL.u (QE.and rfl rfl) rfl <| GL.u (QE.assign rfl) rfl <| GL.nilK (fun _ _ => rfl) ?_)
  exact GC.ret (ret1 rfl (y1 := ((((!p0.HasPrivate) && (!p0.HasPort)) && (!p0.HasMark)) && (!p0.Replace)) && (cmpI .eql (p0.Peers.length : Int) 0)) (s1 := ()) (RV.tmp rfl) (RO.flat fun _ _ _ => trivial) h)

theorem l35_DifferTells.ok {p0 : TConf} {p1 : TConf} {r0 : R.Raw TConf} {r1 : R.Raw TConf} {K : Bool → Prop} (h : l35_DifferTells.W p0 p1 K) : Ct P 3 [V p0 r0, V p1 r1] [Fk (α := TConf) true p0 r0, Fk (α := TConf) true p1 r1] K := by
  unfold l35_DifferTells.W at h
  refine Ct.of (n := 55) Try.func3 rfl rfl rfl fun w0 m0 => ?_
  refine GC.seq ?_
  refine GC.region (GL.l rfl (LX.box (y := p0) (r := r0) rfl) fun b1 => GL.l rfl (LX.box (y := p1) (r := r1) rfl) fun b2 => GL.u (QE.assign rfl) rfl <| GL.nilK (fun _ _ => rfl) ?_)
  refine GC.seq ?_
  refine GC.seq ?_
  refine GC.region (GL.u (QE.ld 1 Lens.id rfl rfl) rfl <| GL.l rfl (LX.call (.cons rfl (fun _ => rfl) .nil) (fun _ => r34_Large.ok h) (fun h => by cases h) (.cons 0 rfl (fun _ => rfl) .nil)) fun ⟨⟨y1, h⟩, q1⟩ => GL.u (QE.move rfl) rfl <| GL.g ⟨_, _, _, rfl, rfl, rfl⟩ (QE.ld 0 Lens.id rfl rfl) rfl <| GL.l ⟨_, _, _, rfl, rfl, rfl⟩ (LX.call (.cons rfl (fun h => h) .nil) (fun hg => r34_Large.ok (h.1 hg)) (fun hg => h.2 hg) (.cons 2 rfl (fun _ => rfl) .nil)) fun ⟨⟨y2, h⟩, q2⟩ => GL.u (QE.or rfl rfl) rfl <| GL.nilK (fun _ _ => rfl) ?_)
  refine GC.cond rfl (fun hb => ?_) (fun hb => ?_)
  · replace h := h.1 hb
    refine GC.seq ?_
    refine GC.region (GL.l rfl (LX.call .nil (fun _ => l35_alive.ok h) (fun h => by cases h) .nil) fun ⟨⟨y3, h⟩, q3⟩ => GL.u (QE.assign rfl) rfl <| GL.nilK (fun _ _ => rfl) ?_)
    exact GC.ret (ret1 rfl (y1 := y3) (s1 := ()) (RV.tmp rfl) (RO.flat fun _ _ _ => trivial) h)
  · replace h := h.2 hb
    refine GC.skipK (fun _ _ => rfl) ?_
    refine GC.seq ?_
    refine GC.region (GL.u (QE.ld 1 Lens.id rfl rfl) rfl <| GL.u (QE.ld 0 Lens.id rfl rfl) rfl <| GL.l rfl (LX.call (.cons rfl (fun _ => rfl) (.cons rfl (fun _ => rfl) .nil)) (fun _ => differ_Patch.ok h) (fun h => by cases h) (.cons 2 rfl (fun _ => rfl) (.cons 3 rfl (fun _ => rfl) .nil))) fun ⟨⟨y4, h⟩, q4⟩ => GL.l rfl (LX.alloc (y := TRequest_zero) (r := (none, 0))) fun b3 => GL.fact (Fk (α := TRequest) true TRequest_zero (none, 0)) (fun _ _ _ _ => .inl rfl) <| GL.l rfl (LX.st (β := TRequest) (z := y4) (s := q4) 0 Lens.id rfl rfl rfl) fun _ => GL.nilK (fun _ _ => rfl) ?_)
    refine GC.seq ?_
    refine GC.seq ?_
    refine GC.draw (fun _ => True) [] (.q 0 <| .q 1 <| .q 2 <| .l 3 <| .l 4 <| .q 5 <| .q 6 <| .q 7 <| .q 9 <| .l 8 <| .l 10 <| .q 11 <| .q 12 <| .tail []) mixed (by kernel_rfl) (GH.g rfl rfl (QE.ld 0 Lens.id rfl rfl) rfl <| GH.g rfl rfl (QE.ld 2 Lens.id rfl rfl) rfl <| GH.g rfl rfl (QE.ld 1 Lens.id rfl rfl) rfl <| GH.l rfl rfl (LX.call (.cons rfl (fun _ => rfl) (.cons rfl (fun _ => rfl) .nil)) (fun _ => r35_Patch.ok h) (fun h => by cases h) (.cons 4 rfl (fun _ => rfl) (.cons 5 rfl (fun _ => rfl) .nil))) fun ⟨⟨y5, h⟩, q5⟩ => GH.l rfl rfl (LX.call (.cons rfl (fun _ => rfl) (.cons rfl (fun _ => rfl) .nil)) (fun _ => r32_Same.ok h) (fun h => by cases h) (.cons 2 rfl (fun _ => rfl) (.cons 0 rfl (fun _ => rfl) .nil))) fun ⟨⟨y6, h⟩, q6⟩ => GH.g rfl rfl (QE.not rfl) rfl <| GH.g rfl rfl (QE.move rfl) rfl <| GH.g rfl ⟨_, _, _, rfl, rfl, rfl⟩ (QE.ld 0 Lens.id rfl rfl) rfl <| GH.g rfl ⟨_, _, _, rfl, rfl, rfl⟩ (QE.ld 0 Lens.id rfl rfl) rfl <| GH.l rfl ⟨_, _, _, rfl, rfl, rfl⟩ (LX.call (.cons rfl (fun h => h) .nil) (fun hg => differ_Empty.ok (h.1 hg)) (fun hg => h.2 hg) (.cons 3 rfl (fun _ => rfl) .nil)) fun ⟨⟨y7, h⟩, q7⟩ => GH.l rfl ⟨_, _, _, rfl, rfl, rfl⟩ (LX.call (.cons rfl (fun h => h) .nil) (fun hg => r35_Empty.ok (h.1 hg)) (fun hg => h.2 hg) (.cons 4 rfl (fun _ => rfl) .nil)) fun ⟨⟨y8, h⟩, q8⟩ => GH.g rfl ⟨_, _, _, rfl, rfl, rfl⟩ (QE.neB Try.underlying4 rfl rfl) rfl <| GH.g rfl rfl (QE.or rfl rfl) rfl <| GH.tail <| GT.nilK (fun _ _ => rfl) ?_)
    refine GC.cond rfl (fun hb => ?_) (fun hb => ?_)
    · replace h := h.1 hb
      refine GC.seq ?_
      refine GC.region (GL.u (QE.assign rfl) rfl <| GL.nilK (fun _ _ => rfl) ?_)
      exact GC.ret (ret1 rfl (y1 := false) (s1 := ()) (RV.tmp rfl) (RO.flat fun _ _ _ => trivial) h)
    · replace h := h.2 hb
      refine GC.skipK (fun _ _ => rfl) ?_
      refine GC.seq ?_
      refine GC.draw (fun _ => True) [] (.q 0 <| .l 1 <| .q 2 <| .q 3 <| .q 4 <| .l 5 <| .q 6 <| .q 7 <| .q 8 <| .q 9 <| .q 10 <| .q 12 <| .q 13 <| .l 11 <| .l 14 <| .q 15 <| .q 16 <| .q 17 <| .q 18 <| .l 19 <| .l 20 <| .q 21 <| .q 22 <| .q 23 <| .l 24 <| .q 25 <| .q 26 <| .tail []) mixed (by kernel_rfl) (GH.g rfl rfl (QE.ld 2 Lens.id rfl rfl) rfl <| GH.l rfl rfl (LX.call (.cons rfl (fun _ => rfl) .nil) (fun _ => r34_Right.ok h) (fun h => by cases h) (.cons 8 rfl (fun _ => rfl) .nil)) fun ⟨⟨y9, h⟩, q9⟩ => GH.g rfl rfl (QE.not rfl) rfl <| GH.g rfl rfl (QE.move rfl) rfl <| GH.g rfl ⟨_, _, _, rfl, rfl, rfl⟩ (QE.ld 1 Lens.id rfl rfl) rfl <| GH.l rfl ⟨_, _, _, rfl, rfl, rfl⟩ (LX.call (.cons rfl (fun h => h) .nil) (fun hg => r34_Right.ok (h.1 hg)) (fun hg => h.2 hg) (.cons 10 rfl (fun _ => rfl) .nil)) fun ⟨⟨y10, h⟩, q10⟩ => GH.g rfl ⟨_, _, _, rfl, rfl, rfl⟩ (QE.not rfl) rfl <| GH.g rfl rfl (QE.or rfl rfl) rfl <| GH.g rfl rfl (QE.move rfl) rfl <| GH.g rfl ⟨_, _, _, rfl, rfl, rfl⟩ (QE.ld 2 Lens.id rfl rfl) rfl <| GH.g rfl ⟨_, _, _, rfl, rfl, rfl⟩ (QE.ld 1 Lens.id rfl rfl) rfl <| GH.g rfl ⟨_, _, _, rfl, rfl, rfl⟩ (QE.ld 2 Lens.id rfl rfl) rfl <| GH.g rfl ⟨_, _, _, rfl, rfl, rfl⟩ (QE.ld 1 Lens.id rfl rfl) rfl <| GH.l rfl ⟨_, _, _, rfl, rfl, rfl⟩ (LX.call (.cons rfl (fun h => h) (.cons rfl (fun h => h) .nil)) (fun hg => differ_Grows.ok (h.1 hg)) (fun hg => h.2 hg) (.cons 10 rfl (fun _ => rfl) (.cons 11 rfl (fun _ => rfl) .nil))) fun ⟨⟨y11, h⟩, q11⟩ => GH.l rfl ⟨_, _, _, rfl, rfl, rfl⟩ (LX.call (.cons rfl (fun h => h) (.cons rfl (fun h => h) .nil)) (fun hg => r35_Grows.ok (h.1 hg)) (fun hg => h.2 hg) (.cons 11 rfl (fun _ => rfl) (.cons 12 rfl (fun _ => rfl) .nil))) fun ⟨⟨y12, h⟩, q12⟩ => GH.g rfl ⟨_, _, _, rfl, rfl, rfl⟩ (QE.eqB Try.underlying4 rfl rfl) rfl <| GH.g rfl ⟨_, _, _, rfl, rfl, rfl⟩ (QE.move rfl) rfl <| GH.g rfl ⟨_, _, _, rfl, rfl, rfl⟩ (QE.ld 2 Lens.id rfl rfl) rfl <| GH.g rfl ⟨_, _, _, rfl, rfl, rfl⟩ (QE.ld 2 Lens.id rfl rfl) rfl <| GH.l rfl ⟨_, _, _, rfl, rfl, rfl⟩ (LX.call (.cons rfl (fun h => h) (.cons rfl (fun h => h) .nil)) (fun hg => differ_Patch.ok (h.1 hg)) (fun hg => h.2 hg) (.cons 12 rfl (fun _ => rfl) (.cons 12 rfl (fun _ => rfl) .nil))) fun ⟨⟨y13, h⟩, q13⟩ => GH.l rfl ⟨_, _, _, rfl, rfl, rfl⟩ (LX.call (.cons rfl (fun h => h) .nil) (fun hg => differ_Empty.ok (h.1 hg)) (fun hg => h.2 hg) (.cons 0 rfl (fun h => h) .nil)) fun ⟨⟨y14, h⟩, q14⟩ => GH.g rfl ⟨_, _, _, rfl, rfl, rfl⟩ (QE.and rfl rfl) rfl <| GH.g rfl rfl (QE.or rfl rfl) rfl <| GH.g rfl rfl (QE.move rfl) rfl <| GH.l rfl ⟨_, _, _, rfl, rfl, rfl⟩ (LX.call .nil (fun hg => l35_alive.ok (h.1 hg)) (fun hg => h.2 hg) .nil) fun ⟨⟨y15, h⟩, q15⟩ => GH.g rfl rfl (QE.and rfl rfl) rfl <| GH.g rfl rfl (QE.assign rfl) rfl <| GH.tail <| GT.nilK (fun _ _ => rfl) ?_)
      exact GC.ret (ret1 rfl (y1 := (((!y9) || (!y10)) || ((y11 == y12) && y14)) && y15) (s1 := ()) (RV.tmp rfl) (RO.flat fun _ _ _ => trivial) h)

theorem slices_Clone_Peer_Peer.ok {p0 : (List TPeer)} {r0 : R.Raw (List TPeer)} {K : (List TPeer) → Prop} (h : slices_Clone_Peer_Peer.W p0 K) : Ct P 35 [V p0 r0] [Fk (α := (List TPeer)) true p0 r0] K := by
  unfold slices_Clone_Peer_Peer.W at h
  refine Ct.of (n := 8) Try.func35 rfl rfl rfl fun w0 m0 => ?_
  refine GC.seq ?_
  refine GC.region (GL.u (QE.assign (v := V ([] : (List TPeer)) (none, 0)) rfl) rfl <| GL.fact (Fk (α := (List TPeer)) true ([] : (List TPeer)) (none, 0)) (fun _ _ _ _ => .inl rfl) <| GL.nilK (fun _ _ => rfl) ?_)
  refine GC.seq ?_
  refine GC.seq ?_
  refine GC.region (GL.u (QE.move rfl) rfl <| GL.ux (QX.eqNil (xs := p0) (r := r0) 1 Try.underlying25 rfl rfl) rfl fun n1 => GL.pure 0 rfl fun hp1 => GL.nilK (fun _ _ => rfl) ?_)
  refine GC.cond rfl (fun hb => ?_) (fun hb => ?_)
  · replace h := (h n1 hp1).1 hb
    refine GC.seq ?_
    refine GC.region (GL.u (QE.assign (v := V ([] : (List TPeer)) (none, 0)) rfl) rfl <| GL.fact (Fk (α := (List TPeer)) true ([] : (List TPeer)) (none, 0)) (fun _ _ _ _ => .inl rfl) <| GL.nilK (fun _ _ => rfl) ?_)
    exact GC.ret (ret1 rfl (y1 := ([] : (List TPeer))) (s1 := (none, 0)) (RV.tmp rfl) (RO.fact 0 rfl) h)
  · replace h := (h n1 hp1).2 hb
    refine GC.skipK (fun _ _ => rfl) ?_
    refine GC.seq ?_
    refine GC.region (GL.l rfl (LX.lit (xs := ([] : (List TPeer))) (rs := []) (fs1 := []) trivial rfl trivial (fun _ _ hf => trivial) (by kernel_rfl)) fun q1 => GL.u (QE.move rfl) rfl <| GL.l rfl (LX.append (xs := ([] : (List TPeer))) (ys := p0) (r := (q1, 0)) (s := r0) Try.underlying25 0 0 3 rfl rfl rfl rfl rfl h.1) fun q2 => GL.u (QE.assign rfl) rfl <| GL.nilK (fun _ _ => rfl) ?_)
    exact GC.ret (ret1 rfl (y1 := ([] : (List TPeer)) ++ p0) (s1 := q2) (RV.tmp rfl) (RO.fact 0 rfl) h.2)
end Go.Cw
