/- That the code does it. Written by gen.py. -/
import Derived.Test.YtcckclbpajegnaaCwW
import Derived.Test.YtcckclbpajegnaaCwN
import Derived.Test.YtcckclbpajegnaaCwP0
set_option linter.all false
set_option linter.unusedVariables false
set_option linter.unusedSimpArgs false
set_option maxRecDepth 4000
namespace Go.Cw
open Go Go.Proofs
theorem differ_shared.ok {p0 : TConf} {p1 : (Mp (Vector UInt8 32) TPeer)} {r0 : R.Raw TConf} {r1 : R.Raw (Mp (Vector UInt8 32) TPeer)} {K : (List TPeer) → Prop} (h : differ_shared.W p0 p1 K) : Ct P 18 [V p0 r0, V p1 r1] [Fk (α := TConf) true p0 r0, Fk (α := (Mp (Vector UInt8 32) TPeer)) true p1 r1] K := by
  unfold differ_shared.W at h
  refine Ct.of (n := 10) Try.func18 rfl rfl rfl fun w0 m0 => ?_
  refine GC.seq ?_
  refine GC.region (GL.l rfl (LX.box (y := p0) (r := r0) rfl) fun b1 => GL.l rfl (LX.box (y := p1) (r := r1) rfl) fun b2 => GL.via (Via.frzBx (T := 51) 0 rfl (fun _ _ hf => okf hf 1 rfl)) <| GL.u (QE.assign (v := V ([] : (List TPeer)) (none, 0)) rfl) rfl <| GL.fact (Fk (α := (List TPeer)) true ([] : (List TPeer)) (none, 0)) (fun _ _ _ _ => .inl rfl) <| GL.nilK (fun _ _ => rfl) ?_)
  refine GC.seq ?_
  refine GC.region (GL.u (QE.fa rfl) rfl <| GL.u (QE.ld 0 TConf_l_Peers rfl rfl) rfl <| GL.fact (Fk (α := (List TPeer)) true p0.Peers r0) (fun _ _ hf _ => (TConf_l_Peers.okg (hf 2 rfl rfl) :)) <| GL.l rfl (LX.callO (σ := (List TPeer)) (κ := ((Option Go.Addr × Nat) × List (R.Raw TPeer))) (osP := []) (osR := [bx (α := TConf) p0 r0 b1 27]) (val := fun y s => V (α := (List TPeer)) y s.1) (F := fun y s => [Okl (α := TPeer) y s.2]) (O := fun y s => [sv (α := TPeer) 45 (List.length y) y s.2 s.1.1 s.1.2]) (by exact (Enters.fn (.cons rfl (fun _ => rfl) .nil))) (slices_Clone_Peer_Peer_sv.ok h) (.ix 0 rfl .nil) ozN (env' := fun i => (7, true, (fun y s => V (α := (List TPeer)) y s.1) i.1.1 i.2) :: _) (fun _ _ _ _ _ _ h => h.put rfl rfl)) fun ⟨⟨y1, h⟩, q1⟩ => GL.u (QE.mkf (.cons rfl (fun _ => rfl) .nil)) rfl <| GL.l rfl (LX.callO (σ := (List TPeer)) (κ := R.Raw (List TPeer)) (osP := [sv (α := TPeer) 45 (List.length y1) y1 q1.2 (q1.1).1 (q1.1).2]) (osR := [bx (α := TConf) p0 r0 b1 27]) (val := fun y s => V (α := (List TPeer)) y s) (F := fun y s => [Fk (α := (List TPeer)) true y s]) (O := fun y s => []) (by exact (Enters.fn (.cons rfl (fun _ => rfl) (.cons rfl (fun _ => rfl) .nil)))) (slices_DeleteFunc_Peer_Peer_sf36c_consume.ok h) (.ix 0 rfl (.ix 3 rfl .nil)) (ozC oz_sv ozN) (env' := fun i => (9, true, (fun y s => V (α := (List TPeer)) y s) i.1.1 i.2) :: _) (fun _ _ _ _ _ _ h => h.put rfl rfl)) fun ⟨⟨y2, h⟩, q2⟩ => GL.u (QE.assign rfl) rfl <| GL.nilK (fun _ _ => rfl) ?_)
  exact GC.ret (ret1 rfl (y1 := y2) (s1 := q2) (RV.tmp rfl) (RO.fact 0 rfl) h)

theorem differ_Grows.ok {p0 : TConf} {p1 : TConf} {r0 : R.Raw TConf} {r1 : R.Raw TConf} {K : Bool → Prop} (h : differ_Grows.W p0 p1 K) : Ct P 12 [V p0 r0, V p1 r1] [Fk (α := TConf) true p0 r0, Fk (α := TConf) true p1 r1] K := by
  unfold differ_Grows.W at h
  refine Ct.of (n := 52) Try.func12 rfl rfl rfl fun w0 m0 => ?_
  refine GC.seq ?_
  refine GC.region (GL.l rfl (LX.box (y := p0) (r := r0) rfl) fun b1 => GL.l rfl (LX.box (y := p1) (r := r1) rfl) fun b2 => GL.u (QE.assign rfl) rfl <| GL.nilK (fun _ _ => rfl) ?_)
  refine GC.seq ?_
  refine GC.region (GL.u (QE.ld 0 Lens.id rfl rfl) rfl <| GL.l rfl (LX.call (.cons rfl (fun _ => rfl) .nil) (fun _ => differ_byKey.ok h) (fun h => by cases h) (.cons 1 rfl (fun _ => rfl) .nil)) fun ⟨⟨y1, h⟩, q1⟩ => GL.u (QE.assign rfl) rfl <| GL.nilK (fun _ _ => rfl) ?_)
  refine GC.seq ?_
  refine GC.region (GL.u (QE.ld 1 Lens.id rfl rfl) rfl <| GL.u (QE.move rfl) rfl <| GL.l rfl (LX.call (.cons rfl (fun _ => rfl) (.cons rfl (fun _ => rfl) .nil)) (fun _ => differ_shared.ok h) (fun h => by cases h) (.cons 1 rfl (fun _ => rfl) (.cons 0 rfl (fun _ => rfl) .nil))) fun ⟨⟨y2, h⟩, q2⟩ => GL.u (QE.assign rfl) rfl <| GL.nilK (fun _ _ => rfl) ?_)
  refine GC.seq ?_
  refine GC.seq ?_
  refine GC.region (GL.u (QE.move rfl) rfl <| GL.u (QE.len rfl (run_underlying Try.underlying25)) rfl <| GL.u (QE.fa rfl) rfl <| GL.u (QE.ld 0 TConf_l_Peers rfl rfl) rfl <| GL.fact (Fk (α := (List TPeer)) true p1.Peers r1) (fun _ _ hf _ => (TConf_l_Peers.okg (hf 3 rfl rfl) :)) <| GL.u (QE.len rfl (run_underlying Try.underlying25)) rfl <| GL.u (QE.cmp rfl rfl) rfl <| GL.nilK (fun _ _ => rfl) ?_)
  refine GC.cond rfl (fun hb => ?_) (fun hb => ?_)
  · replace h := h.1 hb
    refine GC.seq ?_
    refine GC.region (GL.u (QE.assign rfl) rfl <| GL.nilK (fun _ _ => rfl) ?_)
    exact GC.ret (ret1 rfl (y1 := false) (s1 := ()) (RV.tmp rfl) (RO.flat fun _ _ _ => trivial) h)
  · replace h := h.2 hb
    refine GC.skipK (fun _ _ => rfl) ?_
    refine GC.seq ?_
    refine GC.seq ?_
    refine GC.region (GL.u (QE.move rfl) rfl <| GL.u (QE.len rfl (run_underlying Try.underlying25)) rfl <| GL.u (QE.move rfl) rfl <| GL.nilK (fun _ _ => rfl) ?_)
    refine GC.block ?_
    refine GC.loop ?_
    refine GLoop.weaken (h (fun x1 => GLoop _ _ [(3, true, .pointer (some ⟨b2, 0, none⟩)), (20, true, V (α := (List TPeer)) y2 q2), (21, true, V (α := Int) (y2.length : Int) ()), (22, true, V (α := Int) x1 ())] [Fk (α := (List TPeer)) true y2 q2, Fk (α := TConf) true p1 r1] [bx (α := TConf) p1 r1 b2 27] _) (fun x1 h => ?_)) ⟨rfl, rfl, rfl, rfl, trivial⟩ ⟨⟨1, rfl⟩, ⟨4, rfl⟩, trivial⟩ [0] (by decide) ⟨rfl, trivial⟩
    refine GLoop.round ?_
    refine GC.seq ?_
    refine GC.region (GL.u (QE.cmp rfl rfl) rfl <| GL.nilK (fun _ _ => rfl) ?_)
    refine GC.seq ?_
    refine GC.cond rfl (fun hb => ?_) (fun hb => ?_)
    · replace h := h.1 hb
      refine GC.skipK (fun _ _ => rfl) ?_
      refine GC.seq ?_
      refine GC.block ?_
      refine GC.seq ?_
      refine GC.region (GL.u (QE.move rfl) rfl <| GL.ux (QX.ias (xs := y2) (r := q2) 0 rfl rfl rfl (fun _ => h.1)) rfl fun d1 => GL.ux (QX.ld 0 rfl rfl) rfl fun q3 => GL.l rfl (LX.alloc (y := TPeer_zero) (r := (none, 0))) fun b3 => GL.fact (Fk (α := TPeer) true TPeer_zero (none, 0)) (fun _ _ _ _ => .inl rfl) <| GL.u (QE.assign rfl) rfl <| GL.l rfl (LX.st (β := TPeer) (z := lat y2 x1) (s := q3) 0 Lens.id rfl rfl rfl) fun _ => GL.nilK (fun _ _ => rfl) ?_)
      refine GC.seq ?_
      refine GC.draw (fun _ => True) [] (.q 0 <| .q 1 <| .q 2 <| .q 3 <| .q 4 <| .q 5 <| .q 6 <| .q 7 <| .q 8 <| .q 9 <| .q 10 <| .q 11 <| .l 12 <| .q 13 <| .q 14 <| .q 15 <| .q 16 <| .q 17 <| .q 18 <| .q 19 <| .q 20 <| .l 21 <| .q 22 <| .q 23 <| .tail []) mixed (by kernel_rfl) (GH.g rfl rfl (QE.fa rfl) rfl <| GH.g rfl rfl (QE.ld 1 TConf_l_Peers rfl rfl) rfl <| GH.fact (Fk (α := (List TPeer)) true p1.Peers r1) (fun _ _ hf _ => (TConf_l_Peers.okg (hf 4 rfl rfl) :)) <| GH.g rfl rfl (QE.move rfl) rfl <| GH.gx rfl rfl (QX.ias (xs := p1.Peers) (r := r1) 0 rfl rfl rfl (fun _ => h.2.1)) rfl fun d2 => GH.gx rfl rfl (QX.fa 0 TPeer_l_Key rfl rfl) rfl fun d3 => GH.gx rfl rfl (QX.ld 0 rfl rfl) rfl fun q4 => GH.g rfl rfl (QE.fa rfl) rfl <| GH.g rfl rfl (QE.ld 0 TPeer_l_Key rfl rfl) rfl <| GH.g rfl rfl (QE.neA (α := (Vector UInt8 32)) (a := (lat p1.Peers x1).Key) (b := (lat y2 x1).Key) (r := ()) (s := ()) rfl rfl) rfl <| GH.g rfl rfl (QE.move rfl) rfl <| GH.g rfl ⟨_, _, _, rfl, rfl, rfl⟩ (QE.fa rfl) rfl <| GH.g rfl ⟨_, _, _, rfl, rfl, rfl⟩ (QE.ld 0 TPeer_l_End rfl rfl) rfl <| GH.l rfl ⟨_, _, _, rfl, rfl, rfl⟩ (LX.call (.cons rfl (fun h => h) .nil) (fun hg => hostport_None.ok (h.2.2.1 hg)) (fun hg => h.2.2.2 hg) .nil) fun ⟨⟨y3, h⟩, q5⟩ => GH.g rfl ⟨_, _, _, rfl, rfl, rfl⟩ (QE.not rfl) rfl <| GH.g rfl ⟨_, _, _, rfl, rfl, rfl⟩ (QE.move rfl) rfl <| GH.g rfl ⟨_, _, _, rfl, rfl, rfl⟩ (QE.fa rfl) rfl <| GH.g rfl ⟨_, _, _, rfl, rfl, rfl⟩ (QE.ld 1 TConf_l_Peers rfl rfl) rfl <| GH.g rfl ⟨_, _, _, rfl, rfl, rfl⟩ (QE.move rfl) rfl <| GH.gx rfl ⟨_, _, _, rfl, rfl, rfl⟩ (QX.ias (xs := p1.Peers) (r := r1) 4 rfl rfl rfl h.1) rfl fun d4 => GH.gx rfl ⟨_, _, _, rfl, rfl, rfl⟩ (QX.fa 0 TPeer_l_End rfl rfl) rfl fun d5 => GH.gx rfl ⟨_, _, _, rfl, rfl, rfl⟩ (QX.ld 0 rfl rfl) rfl fun q6 => GH.l rfl ⟨_, _, _, rfl, rfl, rfl⟩ (LX.call (.cons rfl (fun h => h) .nil) (fun hg => hostport_None.ok (h.2.1 hg)) (fun hg => h.2.2 hg) .nil) fun ⟨⟨y4, h⟩, q7⟩ => GH.g rfl ⟨_, _, _, rfl, rfl, rfl⟩ (QE.and rfl rfl) rfl <| GH.g rfl rfl (QE.or rfl rfl) rfl <| GH.tail <| GT.nilK (fun _ _ => rfl) ?_)
      refine GC.cond rfl (fun hb => ?_) (fun hb => ?_)
      · replace h := h.1 hb
        refine GC.seq ?_
        refine GC.region (GL.u (QE.assign rfl) rfl <| GL.nilK (fun _ _ => rfl) ?_)
        exact GC.ret (ret1 rfl (y1 := false) (s1 := ()) (RV.tmp rfl) (RO.flat fun _ _ _ => trivial) h)
      · replace h := h.2 hb
        refine GC.skipK (fun _ _ => rfl) ?_
        exact GC.region (GL.u (QE.ar rfl rfl) rfl <| GL.u (QE.move rfl) rfl <| GL.nil (GLoop.weaken h ⟨rfl, rfl, rfl, rfl, trivial⟩ ⟨⟨12, rfl⟩, ⟨13, rfl⟩, trivial⟩ [1] (by decide) ⟨rfl, trivial⟩))
    · replace h := h.2 hb
      refine GC.exitK (fun _ _ => rfl) ?_
      refine GC.seq ?_
      refine GC.region (GL.u (QE.assign rfl) rfl <| GL.nilK (fun _ _ => rfl) ?_)
      exact GC.ret (ret1 rfl (y1 := true) (s1 := ()) (RV.tmp rfl) (RO.flat fun _ _ _ => trivial) h)

theorem slices_Clone_Prefix_Prefix.ok {p0 : (List TPrefix)} {r0 : R.Raw (List TPrefix)} {K : (List TPrefix) → Prop} (h : slices_Clone_Prefix_Prefix.W p0 K) : Ct P 33 [V p0 r0] [Fk (α := (List TPrefix)) true p0 r0] K := by
  unfold slices_Clone_Prefix_Prefix.W at h
  refine Ct.of (n := 8) Try.func33 rfl rfl rfl fun w0 m0 => ?_
  refine GC.seq ?_
  refine GC.region (GL.u (QE.assign (v := V ([] : (List TPrefix)) (none, 0)) rfl) rfl <| GL.fact (Fk (α := (List TPrefix)) true ([] : (List TPrefix)) (none, 0)) (fun _ _ _ _ => .inl rfl) <| GL.nilK (fun _ _ => rfl) ?_)
  refine GC.seq ?_
  refine GC.seq ?_
  refine GC.region (GL.u (QE.move rfl) rfl <| GL.ux (QX.eqNil (xs := p0) (r := r0) 1 Try.underlying43 rfl rfl) rfl fun n1 => GL.pure 0 rfl fun hp1 => GL.nilK (fun _ _ => rfl) ?_)
  refine GC.cond rfl (fun hb => ?_) (fun hb => ?_)
  · replace h := (h n1 hp1).1 hb
    refine GC.seq ?_
    refine GC.region (GL.u (QE.assign (v := V ([] : (List TPrefix)) (none, 0)) rfl) rfl <| GL.fact (Fk (α := (List TPrefix)) true ([] : (List TPrefix)) (none, 0)) (fun _ _ _ _ => .inl rfl) <| GL.nilK (fun _ _ => rfl) ?_)
    exact GC.ret (ret1 rfl (y1 := ([] : (List TPrefix))) (s1 := (none, 0)) (RV.tmp rfl) (RO.fact 0 rfl) h)
  · replace h := (h n1 hp1).2 hb
    refine GC.skipK (fun _ _ => rfl) ?_
    refine GC.seq ?_
    refine GC.region (GL.l rfl (LX.lit (xs := ([] : (List TPrefix))) (rs := []) (fs1 := []) trivial rfl trivial (fun _ _ _ => trivial) (by kernel_rfl)) fun q1 => GL.u (QE.move rfl) rfl <| GL.l rfl (LX.append (xs := ([] : (List TPrefix))) (ys := p0) (r := (q1, 0)) (s := r0) Try.underlying43 0 0 3 rfl rfl rfl rfl rfl h.1) fun q2 => GL.u (QE.assign rfl) rfl <| GL.nilK (fun _ _ => rfl) ?_)
    exact GC.ret (ret1 rfl (y1 := ([] : (List TPrefix)) ++ p0) (s1 := q2) (RV.tmp rfl) (RO.fact 0 rfl) h.2)

theorem view_Request.ok {p0 : TConf} {r0 : R.Raw TConf} {K : TRequest → Prop} (h : view_Request.W p0 K) : Ct P 15 [V p0 r0] [Fk (α := TConf) true p0 r0] K := by
  unfold view_Request.W at h
  refine Ct.of (n := 48) Try.func15 rfl rfl rfl fun w0 m0 => ?_
  refine GC.seq ?_
  refine GC.region (GL.l rfl (LX.box (y := p0) (r := r0) rfl) fun b1 => GL.l rfl (LX.alloc (y := TRequest_zero) (r := (none, 0))) fun b2 => GL.fact (Fk (α := TRequest) true TRequest_zero (none, 0)) (fun _ _ _ _ => .inl rfl) <| GL.nilK (fun _ _ => rfl) ?_)
  refine GC.seq ?_
  refine GC.region (GL.u (QE.fa rfl) rfl <| GL.u (QE.ld 1 TConf_l_Private rfl rfl) rfl <| GL.u (QE.fa rfl) rfl <| GL.u (QE.ld 1 TConf_l_Port rfl rfl) rfl <| GL.u (QE.fa rfl) rfl <| GL.u (QE.ld 1 TConf_l_Mark rfl rfl) rfl <| GL.u (QE.build (x := ({ HasPrivate := true, Private := p0.Private, HasPort := true, Port := p0.Port, HasMark := true, Mark := p0.Mark, Replace := true, Peers := ([] : (List TPeerChange)) } : TRequest)) (r := (none, 0)) (.cons rfl (fun _ => rfl) (.cons rfl (fun _ => rfl) (.cons rfl (fun _ => rfl) (.cons rfl (fun _ => rfl) (.cons rfl (fun _ => rfl) (.cons rfl (fun _ => rfl) (.cons rfl (fun _ => rfl) .nil))))))) (.cons TRequest_l_HasPrivate (true) () rfl rfl (.cons TRequest_l_Private (p0.Private) () rfl rfl (.cons TRequest_l_HasPort (true) () rfl rfl (.cons TRequest_l_Port (p0.Port) () rfl rfl (.cons TRequest_l_HasMark (true) () rfl rfl (.cons TRequest_l_Mark (p0.Mark) () rfl rfl (.cons TRequest_l_Replace (true) () rfl rfl (.nil _ _))))))))) rfl <| GL.fact (Fk (α := TRequest) true ({ HasPrivate := true, Private := p0.Private, HasPort := true, Port := p0.Port, HasMark := true, Mark := p0.Mark, Replace := true, Peers := ([] : (List TPeerChange)) } : TRequest) (none, 0)) (fun _ _ hf _ => .inl rfl) <| GL.l rfl (LX.alloc (y := TRequest_zero) (r := (none, 0))) fun b3 => GL.fact (Fk (α := TRequest) true TRequest_zero (none, 0)) (fun _ _ _ _ => .inl rfl) <| GL.l rfl (LX.st (β := TRequest) (z := ({ HasPrivate := true, Private := p0.Private, HasPort := true, Port := p0.Port, HasMark := true, Mark := p0.Mark, Replace := true, Peers := ([] : (List TPeerChange)) } : TRequest)) (s := (none, 0)) 0 Lens.id rfl rfl rfl) fun _ => GL.nilK (fun _ _ => rfl) ?_)
  refine GC.seq ?_
  refine GC.seq ?_
  refine GC.region (GL.u (QE.fa rfl) rfl <| GL.u (QE.ld 2 TConf_l_Peers rfl rfl) rfl <| GL.fact (Fk (α := (List TPeer)) true p0.Peers r0) (fun _ _ hf _ => (TConf_l_Peers.okg (hf 3 rfl rfl) :)) <| GL.u (QE.len rfl (run_underlying Try.underlying25)) rfl <| GL.u (QE.move rfl) rfl <| GL.nilK (fun _ _ => rfl) ?_)
  refine GC.block ?_
  refine GC.nilTip 47 (R.size TPeerChange) ?_
  refine GC.loop ?_
  refine GLoop.weaken (h (fun x1 x2 => ∀ (q1 : R.Raw TRequest), GLoop _ _ [(2, true, .pointer (some ⟨b2, 0, none⟩)), (3, true, .pointer (some ⟨b3, 0, none⟩)), (15, true, V (α := (List TPeer)) p0.Peers r0), (16, true, V (α := Int) (p0.Peers.length : Int) ()), (17, true, V (α := Int) x1 ())] [Fk (α := (List TPeer)) true p0.Peers r0, Fk (α := TRequest) true TRequest_zero (none, 0), Fk (α := TRequest) true x2 q1] [tp 47 (R.size TPeerChange) (List.length x2.Peers) (q1).1 (q1).2, bx (α := TRequest) x2 q1 b3 32, bx (α := TRequest) TRequest_zero (none, 0) b2 32] _) (fun x1 x2 h => ?_) (none, 0)) ⟨rfl, rfl, rfl, rfl, rfl, trivial⟩ ⟨⟨0, rfl⟩, ⟨1, rfl⟩, ⟨2, rfl⟩, trivial⟩ [0, 1, 2] (by decide) ⟨rfl, rfl, rfl, trivial⟩
  intro q1
  refine GLoop.round ?_
  refine GC.seq ?_
  refine GC.region (GL.u (QE.cmp rfl rfl) rfl <| GL.nilK (fun _ _ => rfl) ?_)
  refine GC.seq ?_
  refine GC.cond rfl (fun hb => ?_) (fun hb => ?_)
  · replace h := h.1 hb
    refine GC.skipK (fun _ _ => rfl) ?_
    refine GC.seq ?_
    refine GC.block ?_
    refine GC.seq ?_
    refine GC.region (GL.ux (QX.ias (xs := p0.Peers) (r := r0) 0 rfl rfl rfl (fun _ => h.1)) rfl fun d1 => GL.ux (QX.ld 0 rfl rfl) rfl fun q2 => GL.l rfl (LX.alloc (y := TPeer_zero) (r := (none, 0))) fun b4 => GL.fact (Fk (α := TPeer) true TPeer_zero (none, 0)) (fun _ _ _ _ => .inl rfl) <| GL.l rfl (LX.st (β := TPeer) (z := lat p0.Peers x1) (s := q2) 0 Lens.id rfl rfl rfl) fun _ => GL.nilK (fun _ _ => rfl) ?_)
    refine GC.seq ?_
    refine GC.region (GL.u (QE.fa rfl) rfl <| GL.u (QE.ld 0 TPeer_l_Key rfl rfl) rfl <| GL.u (QE.fa rfl) rfl <| GL.u (QE.ld 0 TPeer_l_Psk rfl rfl) rfl <| GL.u (QE.fa rfl) rfl <| GL.u (QE.ld 0 TPeer_l_Keep rfl rfl) rfl <| GL.u (QE.build (x := ({ Key := (lat p0.Peers x1).Key, Remove := false, Update := false, HasPsk := true, Psk := (lat p0.Peers x1).Psk, HasEnd := false, End := TEndpoint_zero, HasKeep := true, Keep := (lat p0.Peers x1).Keep, Replace := true, Allowed := ([] : (List TPrefix)) } : TPeerChange)) (r := (none, 0)) (.cons rfl (fun _ => rfl) (.cons rfl (fun _ => rfl) (.cons rfl (fun _ => rfl) (.cons rfl (fun _ => rfl) (.cons rfl (fun _ => rfl) (.cons rfl (fun _ => rfl) .nil)))))) (.cons TPeerChange_l_Key ((lat p0.Peers x1).Key) () rfl rfl (.cons TPeerChange_l_HasPsk (true) () rfl rfl (.cons TPeerChange_l_Psk ((lat p0.Peers x1).Psk) () rfl rfl (.cons TPeerChange_l_HasKeep (true) () rfl rfl (.cons TPeerChange_l_Keep ((lat p0.Peers x1).Keep) () rfl rfl (.cons TPeerChange_l_Replace (true) () rfl rfl (.nil _ _)))))))) rfl <| GL.fact (Fk (α := TPeerChange) true ({ Key := (lat p0.Peers x1).Key, Remove := false, Update := false, HasPsk := true, Psk := (lat p0.Peers x1).Psk, HasEnd := false, End := TEndpoint_zero, HasKeep := true, Keep := (lat p0.Peers x1).Keep, Replace := true, Allowed := ([] : (List TPrefix)) } : TPeerChange) (none, 0)) (fun _ _ hf _ => .inl rfl) <| GL.l rfl (LX.alloc (y := TPeerChange_zero) (r := (none, 0))) fun b5 => GL.fact (Fk (α := TPeerChange) true TPeerChange_zero (none, 0)) (fun _ _ _ _ => .inl rfl) <| GL.l rfl (LX.st (β := TPeerChange) (z := ({ Key := (lat p0.Peers x1).Key, Remove := false, Update := false, HasPsk := true, Psk := (lat p0.Peers x1).Psk, HasEnd := false, End := TEndpoint_zero, HasKeep := true, Keep := (lat p0.Peers x1).Keep, Replace := true, Allowed := ([] : (List TPrefix)) } : TPeerChange)) (s := (none, 0)) 0 Lens.id rfl rfl rfl) fun _ => GL.nilK (fun _ _ => rfl) ?_)
    refine GC.seq ?_
    refine GC.draw (fun q => q = b5) [10, 11, 12, 13, 14] (.q 0 <| .q 1 <| .x 4 <| .x 5 <| .q 6 <| .q 7 <| .l 2 <| .q 3 <| .q 9 <| .l 8 <| .tail [10, 11, 12, 13, 14]) mixed (by kernel_rfl) (GH.g rfl rfl (QE.fa rfl) rfl <| GH.g rfl rfl (QE.ld 1 TPeer_l_End rfl rfl) rfl <| GH.x rfl rfl (QE.fa rfl) rfl <| GH.x rfl rfl (QE.ld 1 TPeer_l_End rfl rfl (hX := notX1 1 0 rfl rfl)) rfl <| GH.g rfl rfl (QE.fa rfl) rfl <| GH.g rfl rfl (QE.ld 1 TPeer_l_Allowed rfl rfl) rfl <| GH.fact (Fk (α := (List TPrefix)) true ((lat p0.Peers x1).Allowed) q2) (fun _ _ hf _ => (TPeer_l_Allowed.okg (hf 3 rfl rfl) :)) <| GH.l rfl rfl (LX.call (.cons rfl (fun _ => rfl) .nil) (fun _ => hostport_None.ok h.2) (fun h => by cases h) .nil) fun ⟨⟨y1, h⟩, q3⟩ => GH.g rfl rfl (QE.not rfl) rfl <| GH.g rfl rfl (QE.fa rfl) rfl <| GH.l rfl rfl (LX.call (.cons rfl (fun _ => rfl) .nil) (fun _ => slices_Clone_Prefix_Prefix.ok h) (fun h => by cases h) (.cons 1 rfl (fun _ => rfl) .nil)) fun ⟨⟨y2, h⟩, q4⟩ => GH.tail <| GT.l (hX := fun _ h => h) rfl rfl (LX.st (β := Bool) (z := !y1) (s := ()) 0 TPeerChange_l_HasEnd rfl rfl rfl) fun _ => GT.fact (Fk (α := TPeerChange) true ({ Key := (lat p0.Peers x1).Key, Remove := false, Update := false, HasPsk := true, Psk := (lat p0.Peers x1).Psk, HasEnd := !y1, End := TEndpoint_zero, HasKeep := true, Keep := (lat p0.Peers x1).Keep, Replace := true, Allowed := ([] : (List TPrefix)) } : TPeerChange) (none, 0)) (fun _ _ hf _ => ((TPeerChange_l_HasEnd).oks (y := (!y1 : Bool)) (s := ()) (hf 4 rfl rfl) (by exact trivial) :)) <| GT.g rfl rfl (QE.fa rfl) rfl <| GT.l (hX := fun _ h => h) rfl rfl (LX.st (β := TEndpoint) (z := (lat p0.Peers x1).End) (s := ()) 0 TPeerChange_l_End rfl rfl rfl) fun _ => GT.fact (Fk (α := TPeerChange) true ({ Key := (lat p0.Peers x1).Key, Remove := false, Update := false, HasPsk := true, Psk := (lat p0.Peers x1).Psk, HasEnd := !y1, End := (lat p0.Peers x1).End, HasKeep := true, Keep := (lat p0.Peers x1).Keep, Replace := true, Allowed := ([] : (List TPrefix)) } : TPeerChange) (none, 0)) (fun _ _ hf _ => ((TPeerChange_l_End).oks (y := ((lat p0.Peers x1).End : TEndpoint)) (s := ()) (hf 0 rfl rfl) (by exact trivial) :)) <| GT.g rfl rfl (QE.fa rfl) rfl <| GT.l (hX := fun _ h => h) rfl rfl (LX.st (β := (List TPrefix)) (z := y2) (s := q4) 0 TPeerChange_l_Allowed rfl rfl rfl) fun _ => GT.fact (Fk (α := TPeerChange) true ({ Key := (lat p0.Peers x1).Key, Remove := false, Update := false, HasPsk := true, Psk := (lat p0.Peers x1).Psk, HasEnd := !y1, End := (lat p0.Peers x1).End, HasKeep := true, Keep := (lat p0.Peers x1).Keep, Replace := true, Allowed := y2 } : TPeerChange) q4) (fun _ _ hf _ => ((TPeerChange_l_Allowed).oks (y := (y2 : (List TPrefix))) (s := q4) (hf 0 rfl rfl) (hf 2 rfl rfl) :)) <| GT.nilK (fun _ _ => rfl) ?_)
    refine GC.region (GL.u (QE.fa rfl) rfl <| GL.u (QE.ld 3 TRequest_l_Peers rfl rfl) rfl <| GL.fact (Fk (α := (List TPeerChange)) true x2.Peers q1) (fun _ _ hf _ => (TRequest_l_Peers.okg (hf 13 rfl rfl) :)) <| GL.u (QE.ld 0 Lens.id rfl rfl) rfl <| GL.l rfl (LX.lit (xs := ([({ Key := (lat p0.Peers x1).Key, Remove := false, Update := false, HasPsk := true, Psk := (lat p0.Peers x1).Psk, HasEnd := !y1, End := (lat p0.Peers x1).End, HasKeep := true, Keep := (lat p0.Peers x1).Keep, Replace := true, Allowed := y2 } : TPeerChange)] : (List TPeerChange))) (rs := [q4]) (fs1 := [Fk (α := TPeerChange) true ({ Key := (lat p0.Peers x1).Key, Remove := false, Update := false, HasPsk := true, Psk := (lat p0.Peers x1).Psk, HasEnd := !y1, End := (lat p0.Peers x1).End, HasKeep := true, Keep := (lat p0.Peers x1).Keep, Replace := true, Allowed := y2 } : TPeerChange) q4]) ⟨rfl, rfl, trivial⟩ rfl ⟨⟨1, rfl⟩, trivial⟩ (fun _ _ hf => ⟨hf (Fk (α := TPeerChange) true ({ Key := (lat p0.Peers x1).Key, Remove := false, Update := false, HasPsk := true, Psk := (lat p0.Peers x1).Psk, HasEnd := !y1, End := (lat p0.Peers x1).End, HasKeep := true, Keep := (lat p0.Peers x1).Keep, Replace := true, Allowed := y2 } : TPeerChange) q4) (by simp) rfl, trivial⟩) (by kernel_rfl)) fun q5 => GL.l rfl (LX.append (xs := x2.Peers) (ys := ([({ Key := (lat p0.Peers x1).Key, Remove := false, Update := false, HasPsk := true, Psk := (lat p0.Peers x1).Psk, HasEnd := !y1, End := (lat p0.Peers x1).End, HasKeep := true, Keep := (lat p0.Peers x1).Keep, Replace := true, Allowed := y2 } : TPeerChange)] : (List TPeerChange))) (r := q1) (s := (q5, 1)) Try.underlying30 3 1 0 rfl rfl rfl rfl rfl h.1) fun q6 => GL.u (QE.fa rfl) rfl <| GL.l rfl (LX.st (β := (List TPeerChange)) (z := x2.Peers ++ ([({ Key := (lat p0.Peers x1).Key, Remove := false, Update := false, HasPsk := true, Psk := (lat p0.Peers x1).Psk, HasEnd := !y1, End := (lat p0.Peers x1).End, HasKeep := true, Keep := (lat p0.Peers x1).Keep, Replace := true, Allowed := y2 } : TPeerChange)] : (List TPeerChange))) (s := q6) 4 TRequest_l_Peers rfl rfl rfl) fun _ => GL.fact (Fk (α := TRequest) true { x2 with Peers := x2.Peers ++ ([({ Key := (lat p0.Peers x1).Key, Remove := false, Update := false, HasPsk := true, Psk := (lat p0.Peers x1).Psk, HasEnd := !y1, End := (lat p0.Peers x1).End, HasKeep := true, Keep := (lat p0.Peers x1).Keep, Replace := true, Allowed := y2 } : TPeerChange)] : (List TPeerChange)) } q6) (fun _ _ hf _ => ((TRequest_l_Peers).oks (y := (x2.Peers ++ ([({ Key := (lat p0.Peers x1).Key, Remove := false, Update := false, HasPsk := true, Psk := (lat p0.Peers x1).Psk, HasEnd := !y1, End := (lat p0.Peers x1).End, HasKeep := true, Keep := (lat p0.Peers x1).Keep, Replace := true, Allowed := y2 } : TPeerChange)] : (List TPeerChange)) : (List TPeerChange))) (s := q6) (hf 16 rfl rfl) (hf 0 rfl rfl) :)) <| GL.nilK (fun _ _ => rfl) ?_)
    exact GC.region (GL.u (QE.ar rfl rfl) rfl <| GL.u (QE.move rfl) rfl <| GL.nil (GLoop.weaken (h.2 q6) ⟨rfl, rfl, rfl, rfl, rfl, trivial⟩ ⟨⟨15, rfl⟩, ⟨16, rfl⟩, ⟨0, rfl⟩, trivial⟩ [3, 4, 5] (by decide) ⟨rfl, rfl, rfl, trivial⟩))
  · replace h := h.2 hb
    refine GC.exitK (fun _ _ => rfl) ?_
    refine GC.seq ?_
    refine GC.region (GL.u (QE.ld 1 Lens.id rfl rfl) rfl <| GL.l rfl (LX.st (β := TRequest) (z := x2) (s := q1) 2 Lens.id rfl rfl rfl) fun _ => GL.nilK (fun _ _ => rfl) ?_)
    exact GC.ret (ret1 rfl (y1 := x2) (s1 := q1) (RV.cell 2 rfl rfl) (RO.fact 2 rfl) h)

theorem differ_device_o.ok {p0 : TRequest} {p1 : TConf} {p2 : TConf} {b0 : Nat} {r0 : R.Raw TRequest} {r1 : R.Raw TConf} {r2 : R.Raw TConf} {K : TRequest → Prop} (h : differ_device_o.W p0 p1 p2 K) : CtO (κ := Unit) P 16 [.pointer (some ⟨b0, 0, none⟩), V p1 r1, V p2 r2] [Fk (α := TRequest) true p0 r0, Fk (α := TConf) true p1 r1, Fk (α := TConf) true p2 r2] [bx (α := TRequest) p0 r0 b0 32] K (fun y s => .tuple #[]) (fun y s => [Fk (α := TRequest) true y r0]) (fun y s => [bx (α := TRequest) y r0 b0 32]) := by
  unfold differ_device_o.W at h
  refine CtO.of (n := 45) Try.func16 rfl rfl rfl fun w0 m0 => ?_
  refine GC.seq ?_
  refine GC.region (GL.l rfl (LX.box (y := p1) (r := r1) rfl) fun b1 => GL.l rfl (LX.box (y := p2) (r := r2) rfl) fun b2 => GL.nilK (fun _ _ => rfl) ?_)
  refine GC.seq ?_
  refine GC.seq ?_
  refine GC.region (GL.u (QE.fa rfl) rfl <| GL.u (QE.ld 1 TConf_l_Private rfl rfl) rfl <| GL.u (QE.fa rfl) rfl <| GL.u (QE.ld 0 TConf_l_Private rfl rfl) rfl <| GL.u (QE.neA (α := (Vector UInt8 32)) (a := p1.Private) (b := p2.Private) (r := ()) (s := ()) rfl rfl) rfl <| GL.nilK (fun _ _ => rfl) ?_)
  obtain ⟨J1, hj1W, h⟩ := WJ.open h
  refine GC.joinAt (fun _ _ => rfl) (fun cx Q c => ∀ (x1 : TRequest), J1 x1 → GC cx Q [(0, true, .pointer (some ⟨b0, 0, none⟩)), (4, true, .pointer (some ⟨b1, 0, none⟩)), (5, true, .pointer (some ⟨b2, 0, none⟩))] [Fk (α := TRequest) true x1 r0, Fk (α := TConf) true p1 r1, Fk (α := TConf) true p2 r2] [bx (α := TConf) p2 r2 b2 27, bx (α := TConf) p1 r1 b1 27, bx (α := TRequest) x1 r0 b0 32] c) ?_ (fun hj1 => ?_)
  · intro x1 h
    rw [hj1W] at h
    refine GC.seq ?_
    refine GC.seq ?_
    refine GC.region (GL.u (QE.fa rfl) rfl <| GL.u (QE.ld 1 TConf_l_Port rfl rfl) rfl <| GL.u (QE.fa rfl) rfl <| GL.u (QE.ld 0 TConf_l_Port rfl rfl) rfl <| GL.u (QE.cmp rfl rfl) rfl <| GL.nilK (fun _ _ => rfl) ?_)
    obtain ⟨J2, hj2W, h⟩ := WJ.open h
    refine GC.joinAt (fun _ _ => rfl) (fun cx Q c => ∀ (x2 : TRequest), J2 x2 → GC cx Q [(0, true, .pointer (some ⟨b0, 0, none⟩)), (4, true, .pointer (some ⟨b1, 0, none⟩)), (5, true, .pointer (some ⟨b2, 0, none⟩))] [Fk (α := TRequest) true x2 r0, Fk (α := TConf) true p1 r1, Fk (α := TConf) true p2 r2] [bx (α := TConf) p2 r2 b2 27, bx (α := TConf) p1 r1 b1 27, bx (α := TRequest) x2 r0 b0 32] c) ?_ (fun hj2 => ?_)
    · intro x2 h
      rw [hj2W] at h
      refine GC.seq ?_
      refine GC.region (GL.u (QE.fa rfl) rfl <| GL.u (QE.ld 1 TConf_l_Mark rfl rfl) rfl <| GL.u (QE.fa rfl) rfl <| GL.u (QE.ld 0 TConf_l_Mark rfl rfl) rfl <| GL.u (QE.cmp rfl rfl) rfl <| GL.nilK (fun _ _ => rfl) ?_)
      refine GC.cond rfl (fun hb => ?_) (fun hb => ?_)
      · replace h := h.1 hb
        exact GC.draw (fun q => q = b0) [6, 7, 8, 9] (.q 0 <| .u 1 <| .x 2 <| .x 3 <| .q 4 <| .q 5 <| .tail [6, 7, 8, 9]) mixed (by kernel_rfl) (GH.g rfl rfl (QE.move rfl) rfl <| GH.u rfl rfl (PE.move rfl) rfl <| GH.x rfl rfl (QE.fa rfl) rfl <| GH.x rfl rfl (QE.ld 0 TConf_l_Mark rfl rfl (hX := notX1 0 2 rfl rfl)) rfl <| GH.g rfl rfl (QE.nilCheck rfl) rfl <| GH.g rfl rfl (QE.fa rfl) rfl <| GH.tail <| GT.l (hX := fun _ h => h) rfl rfl (LX.st (β := Bool) (z := true) (s := ()) 2 TRequest_l_HasMark rfl rfl rfl) fun _ => GT.fact (Fk (α := TRequest) true { x2 with HasMark := true } r0) (fun _ _ hf _ => ((TRequest_l_HasMark).oks (y := (true : Bool)) (s := ()) (hf 0 rfl rfl) (by exact trivial) :)) <| GT.g rfl rfl (QE.nilCheck rfl) rfl <| GT.g rfl rfl (QE.fa rfl) rfl <| GT.l (hX := fun _ h => h) rfl rfl (LX.st (β := UInt32) (z := p2.Mark) (s := ()) 2 TRequest_l_Mark rfl rfl rfl) fun _ => GT.fact (Fk (α := TRequest) true { x2 with HasMark := true, Mark := p2.Mark } r0) (fun _ _ hf _ => ((TRequest_l_Mark).oks (y := (p2.Mark : UInt32)) (s := ()) (hf 0 rfl rfl) (by exact trivial) :)) <| GT.nil (retO { x2 with HasMark := true, Mark := p2.Mark } () (RVs.r0 rfl ) (.ix 0 rfl .nil) [2] (by decide) (SubO.cons rfl SubO.nil) h))
      · replace h := h.2 hb
        exact GC.skip (retO x2 () (RVs.r0 rfl ) (.ix 0 rfl .nil) [2] (by decide) (SubO.cons rfl SubO.nil) h)
    refine GC.cond rfl (fun hb => ?_) (fun hb => ?_)
    · replace h := h.1 hb
      exact GC.draw (fun q => q = b0) [6, 7, 8, 9] (.q 0 <| .u 1 <| .x 2 <| .x 3 <| .q 4 <| .q 5 <| .tail [6, 7, 8, 9]) mixed (by kernel_rfl) (GH.g rfl rfl (QE.move rfl) rfl <| GH.u rfl rfl (PE.move rfl) rfl <| GH.x rfl rfl (QE.fa rfl) rfl <| GH.x rfl rfl (QE.ld 0 TConf_l_Port rfl rfl (hX := notX1 0 2 rfl rfl)) rfl <| GH.g rfl rfl (QE.nilCheck rfl) rfl <| GH.g rfl rfl (QE.fa rfl) rfl <| GH.tail <| GT.l (hX := fun _ h => h) rfl rfl (LX.st (β := Bool) (z := true) (s := ()) 2 TRequest_l_HasPort rfl rfl rfl) fun _ => GT.fact (Fk (α := TRequest) true { x1 with HasPort := true } r0) (fun _ _ hf _ => ((TRequest_l_HasPort).oks (y := (true : Bool)) (s := ()) (hf 0 rfl rfl) (by exact trivial) :)) <| GT.g rfl rfl (QE.nilCheck rfl) rfl <| GT.g rfl rfl (QE.fa rfl) rfl <| GT.l (hX := fun _ h => h) rfl rfl (LX.st (β := Int) (z := p2.Port) (s := ()) 2 TRequest_l_Port rfl rfl rfl) fun _ => GT.fact (Fk (α := TRequest) true { x1 with HasPort := true, Port := p2.Port } r0) (fun _ _ hf _ => ((TRequest_l_Port).oks (y := (p2.Port : Int)) (s := ()) (hf 0 rfl rfl) (by exact trivial) :)) <| GT.nil (GC.weaken (hj2 _ h) ⟨rfl, rfl, rfl, trivial⟩ ⟨⟨0, rfl⟩, ⟨3, rfl⟩, ⟨4, rfl⟩, trivial⟩ [0, 1, 2] (by decide) ⟨rfl, rfl, rfl, trivial⟩))
    · replace h := h.2 hb
      exact GC.skip (GC.weaken (hj2 _ h) ⟨rfl, rfl, rfl, trivial⟩ ⟨⟨0, rfl⟩, ⟨1, rfl⟩, ⟨2, rfl⟩, trivial⟩ [0, 1, 2] (by decide) ⟨rfl, rfl, rfl, trivial⟩)
  refine GC.cond rfl (fun hb => ?_) (fun hb => ?_)
  · replace h := h.1 hb
    exact GC.draw (fun q => q = b0) [6, 7, 8, 9] (.q 0 <| .u 1 <| .x 2 <| .x 3 <| .q 4 <| .q 5 <| .tail [6, 7, 8, 9]) mixed (by kernel_rfl) (GH.g rfl rfl (QE.move rfl) rfl <| GH.u rfl rfl (PE.move rfl) rfl <| GH.x rfl rfl (QE.fa rfl) rfl <| GH.x rfl rfl (QE.ld 0 TConf_l_Private rfl rfl (hX := notX1 0 2 rfl rfl)) rfl <| GH.g rfl rfl (QE.nilCheck rfl) rfl <| GH.g rfl rfl (QE.fa rfl) rfl <| GH.tail <| GT.l (hX := fun _ h => h) rfl rfl (LX.st (β := Bool) (z := true) (s := ()) 2 TRequest_l_HasPrivate rfl rfl rfl) fun _ => GT.fact (Fk (α := TRequest) true { p0 with HasPrivate := true } r0) (fun _ _ hf _ => ((TRequest_l_HasPrivate).oks (y := (true : Bool)) (s := ()) (hf 0 rfl rfl) (by exact trivial) :)) <| GT.g rfl rfl (QE.nilCheck rfl) rfl <| GT.g rfl rfl (QE.fa rfl) rfl <| GT.l (hX := fun _ h => h) rfl rfl (LX.st (β := (Vector UInt8 32)) (z := p2.Private) (s := ()) 2 TRequest_l_Private rfl rfl rfl) fun _ => GT.fact (Fk (α := TRequest) true { p0 with HasPrivate := true, Private := p2.Private } r0) (fun _ _ hf _ => ((TRequest_l_Private).oks (y := (p2.Private : (Vector UInt8 32))) (s := ()) (hf 0 rfl rfl) (by exact trivial) :)) <| GT.nil (GC.weaken (hj1 _ h) ⟨rfl, rfl, rfl, trivial⟩ ⟨⟨0, rfl⟩, ⟨3, rfl⟩, ⟨4, rfl⟩, trivial⟩ [0, 1, 2] (by decide) ⟨rfl, rfl, rfl, trivial⟩))
  · replace h := h.2 hb
    exact GC.skip (GC.weaken (hj1 _ h) ⟨rfl, rfl, rfl, trivial⟩ ⟨⟨0, rfl⟩, ⟨1, rfl⟩, ⟨2, rfl⟩, trivial⟩ [0, 1, 2] (by decide) ⟨rfl, rfl, rfl, trivial⟩)

theorem slices_Equal_Prefix_Prefix.ok {p0 : (List TPrefix)} {p1 : (List TPrefix)} {r0 : R.Raw (List TPrefix)} {r1 : R.Raw (List TPrefix)} {K : Bool → Prop} (h : slices_Equal_Prefix_Prefix.W p0 p1 K) : Ct P 19 [V p0 r0, V p1 r1] [Fk (α := (List TPrefix)) true p0 r0, Fk (α := (List TPrefix)) true p1 r1] K := by
  unfold slices_Equal_Prefix_Prefix.W at h
  refine Ct.of (n := 26) Try.func19 rfl rfl rfl fun w0 m0 => ?_
  refine GC.seq ?_
  refine GC.region (GL.u (QE.assign rfl) rfl <| GL.nilK (fun _ _ => rfl) ?_)
  refine GC.seq ?_
  refine GC.seq ?_
  refine GC.region (GL.u (QE.move rfl) rfl <| GL.u (QE.len rfl (run_underlying Try.underlying43)) rfl <| GL.u (QE.move rfl) rfl <| GL.u (QE.len rfl (run_underlying Try.underlying43)) rfl <| GL.u (QE.cmp rfl rfl) rfl <| GL.nilK (fun _ _ => rfl) ?_)
  refine GC.cond rfl (fun hb => ?_) (fun hb => ?_)
  · replace h := h.1 hb
    refine GC.seq ?_
    refine GC.region (GL.u (QE.assign rfl) rfl <| GL.nilK (fun _ _ => rfl) ?_)
    exact GC.ret (ret1 rfl (y1 := false) (s1 := ()) (RV.tmp rfl) (RO.flat fun _ _ _ => trivial) h)
  · replace h := h.2 hb
    refine GC.skipK (fun _ _ => rfl) ?_
    refine GC.seq ?_
    refine GC.seq ?_
    refine GC.region (GL.u (QE.move rfl) rfl <| GL.u (QE.len rfl (run_underlying Try.underlying43)) rfl <| GL.u (QE.move rfl) rfl <| GL.nilK (fun _ _ => rfl) ?_)
    refine GC.block ?_
    refine GC.loop ?_
    refine GLoop.weaken (h (fun x1 => GLoop _ _ [(0, true, V (α := (List TPrefix)) p0 r0), (1, true, V (α := (List TPrefix)) p1 r1), (12, true, V (α := Int) (p0.length : Int) ()), (13, true, V (α := Int) x1 ())] [Fk (α := (List TPrefix)) true p0 r0, Fk (α := (List TPrefix)) true p1 r1] [] _) (fun x1 h => ?_)) ⟨rfl, rfl, rfl, rfl, trivial⟩ ⟨⟨0, rfl⟩, ⟨1, rfl⟩, trivial⟩ [] (by decide) trivial
    refine GLoop.round ?_
    refine GC.seq ?_
    refine GC.region (GL.u (QE.cmp rfl rfl) rfl <| GL.nilK (fun _ _ => rfl) ?_)
    refine GC.seq ?_
    refine GC.cond rfl (fun hb => ?_) (fun hb => ?_)
    · replace h := h.1 hb
      refine GC.skipK (fun _ _ => rfl) ?_
      refine GC.seq ?_
      refine GC.block ?_
      refine GC.seq ?_
      refine GC.region (GL.u (QE.move rfl) rfl <| GL.u (QE.assign rfl) rfl <| GL.nilK (fun _ _ => rfl) ?_)
      refine GC.seq ?_
      refine GC.draw (fun _ => True) [] (.q 0 <| .q 1 <| .q 2 <| .q 3 <| .q 4 <| .q 5 <| .q 6 <| .q 7 <| .q 8 <| .tail []) mixed (by kernel_rfl) (GH.g rfl rfl (QE.move rfl) rfl <| GH.g rfl rfl (QE.move rfl) rfl <| GH.gx rfl rfl (QX.ias (xs := p0) (r := r0) 0 rfl rfl rfl (fun _ => h.1)) rfl fun d1 => GH.gx rfl rfl (QX.ld 0 rfl rfl) rfl fun q1 => GH.g rfl rfl (QE.move rfl) rfl <| GH.g rfl rfl (QE.move rfl) rfl <| GH.gx rfl rfl (QX.ias (xs := p1) (r := r1) 3 rfl rfl rfl (fun _ => h.2.1)) rfl fun d2 => GH.gx rfl rfl (QX.ld 0 rfl rfl) rfl fun q2 => GH.g rfl rfl (QE.neA (α := TPrefix) (a := lat p0 x1) (b := lat p1 x1) (r := ()) (s := ()) rfl rfl) rfl <| GH.tail <| GT.nilK (fun _ _ => rfl) ?_)
      refine GC.cond rfl (fun hb => ?_) (fun hb => ?_)
      · replace h := h.2.2.1 hb
        refine GC.seq ?_
        refine GC.region (GL.u (QE.assign rfl) rfl <| GL.nilK (fun _ _ => rfl) ?_)
        exact GC.ret (ret1 rfl (y1 := false) (s1 := ()) (RV.tmp rfl) (RO.flat fun _ _ _ => trivial) h)
      · replace h := h.2.2.2 hb
        refine GC.skipK (fun _ _ => rfl) ?_
        exact GC.region (GL.u (QE.ar rfl rfl) rfl <| GL.u (QE.move rfl) rfl <| GL.nil (GLoop.weaken h ⟨rfl, rfl, rfl, rfl, trivial⟩ ⟨⟨4, rfl⟩, ⟨5, rfl⟩, trivial⟩ [] (by decide) trivial))
    · replace h := h.2 hb
      refine GC.exitK (fun _ _ => rfl) ?_
      refine GC.seq ?_
      refine GC.region (GL.u (QE.assign rfl) rfl <| GL.nilK (fun _ _ => rfl) ?_)
      exact GC.ret (ret1 rfl (y1 := true) (s1 := ()) (RV.tmp rfl) (RO.flat fun _ _ _ => trivial) h)

theorem differ_change.ok {p0 : TPeer} {p1 : TPeer} {p2 : Bool} {r0 : R.Raw TPeer} {r1 : R.Raw TPeer} {K : TPeerChange × Bool → Prop} (h : differ_change.W p0 p1 p2 K) : Ct P 20 [V p0 r0, V p1 r1, V p2 ()] [Fk (α := TPeer) true p0 r0, Fk (α := TPeer) true p1 r1] K := by
  unfold differ_change.W at h
  refine Ct.of (n := 76) Try.func20 rfl rfl rfl fun w0 m0 => ?_
  refine GC.seq ?_
  refine GC.region (GL.l rfl (LX.box (y := p0) (r := r0) rfl) fun b1 => GL.l rfl (LX.box (y := p1) (r := r1) rfl) fun b2 => GL.l rfl (LX.alloc (y := TPeerChange_zero) (r := (none, 0))) fun b3 => GL.fact (Fk (α := TPeerChange) true TPeerChange_zero (none, 0)) (fun _ _ _ _ => .inl rfl) <| GL.u (QE.assign rfl) rfl <| GL.nilK (fun _ _ => rfl) ?_)
  refine GC.seq ?_
  refine GC.region (GL.u (QE.fa rfl) rfl <| GL.u (QE.ld 1 TPeer_l_Key rfl rfl) rfl <| GL.u (QE.move rfl) rfl <| GL.u (QE.not rfl) rfl <| GL.u (QE.build (x := ({ Key := p1.Key, Remove := false, Update := !p2, HasPsk := false, Psk := (Vector.replicate 32 (0 : UInt8)), HasEnd := false, End := TEndpoint_zero, HasKeep := false, Keep := (0 : Int), Replace := false, Allowed := ([] : (List TPrefix)) } : TPeerChange)) (r := (none, 0)) (.cons rfl (fun _ => rfl) (.cons rfl (fun _ => rfl) .nil)) (.cons TPeerChange_l_Key (p1.Key) () rfl rfl (.cons TPeerChange_l_Update (!p2) () rfl rfl (.nil _ _)))) rfl <| GL.fact (Fk (α := TPeerChange) true ({ Key := p1.Key, Remove := false, Update := !p2, HasPsk := false, Psk := (Vector.replicate 32 (0 : UInt8)), HasEnd := false, End := TEndpoint_zero, HasKeep := false, Keep := (0 : Int), Replace := false, Allowed := ([] : (List TPrefix)) } : TPeerChange) (none, 0)) (fun _ _ hf _ => .inl rfl) <| GL.l rfl (LX.alloc (y := TPeerChange_zero) (r := (none, 0))) fun b4 => GL.fact (Fk (α := TPeerChange) true TPeerChange_zero (none, 0)) (fun _ _ _ _ => .inl rfl) <| GL.l rfl (LX.st (β := TPeerChange) (z := ({ Key := p1.Key, Remove := false, Update := !p2, HasPsk := false, Psk := (Vector.replicate 32 (0 : UInt8)), HasEnd := false, End := TEndpoint_zero, HasKeep := false, Keep := (0 : Int), Replace := false, Allowed := ([] : (List TPrefix)) } : TPeerChange)) (s := (none, 0)) 0 Lens.id rfl rfl rfl) fun _ => GL.nilK (fun _ _ => rfl) ?_)
  refine GC.seq ?_
  refine GC.seq ?_
  refine GC.region (GL.u (QE.move rfl) rfl <| GL.u (QE.move rfl) rfl <| GL.g ⟨_, _, _, rfl, rfl, rfl⟩ (QE.fa rfl) rfl <| GL.g ⟨_, _, _, rfl, rfl, rfl⟩ (QE.ld 3 TPeer_l_Psk rfl rfl) rfl <| GL.g ⟨_, _, _, rfl, rfl, rfl⟩ (QE.fa rfl) rfl <| GL.g ⟨_, _, _, rfl, rfl, rfl⟩ (QE.ld 2 TPeer_l_Psk rfl rfl) rfl <| GL.g ⟨_, _, _, rfl, rfl, rfl⟩ (QE.neA (α := (Vector UInt8 32)) (a := p0.Psk) (b := p1.Psk) (r := ()) (s := ()) rfl rfl) rfl <| GL.u (QE.or rfl rfl) rfl <| GL.nilK (fun _ _ => rfl) ?_)
  obtain ⟨J1, hj1W, h⟩ := WJ.open h
  refine GC.joinAt (fun _ _ => rfl) (fun cx Q c => ∀ (x1 : TPeerChange), J1 x1 → GC cx Q [(2, true, V (α := Bool) p2 ()), (3, true, .pointer (some ⟨b1, 0, none⟩)), (4, true, .pointer (some ⟨b2, 0, none⟩)), (6, true, .pointer (some ⟨b3, 0, none⟩)), (8, true, .pointer (some ⟨b4, 0, none⟩))] [Fk (α := TPeer) true p0 r0, Fk (α := TPeer) true p1 r1, Fk (α := TPeerChange) true TPeerChange_zero (none, 0), Fk (α := TPeerChange) true x1 (none, 0)] [bx (α := TPeerChange) x1 (none, 0) b4 47, bx (α := TPeerChange) TPeerChange_zero (none, 0) b3 47, bx (α := TPeer) p1 r1 b2 45, bx (α := TPeer) p0 r0 b1 45] c) ?_ (fun hj1 => ?_)
  · intro x1 h
    rw [hj1W] at h
    refine GC.seq ?_
    refine GC.seq ?_
    refine GC.region (GL.u (QE.fa rfl) rfl <| GL.u (QE.ld 3 TPeer_l_End rfl rfl) rfl <| GL.u (QE.fa rfl) rfl <| GL.u (QE.ld 2 TPeer_l_End rfl rfl) rfl <| GL.u (QE.neA (α := TEndpoint) (a := p0.End) (b := p1.End) (r := ()) (s := ()) rfl rfl) rfl <| GL.nilK (fun _ _ => rfl) ?_)
    obtain ⟨J2, hj2W, h⟩ := WJ.open h
    refine GC.joinAt (fun _ _ => rfl) (fun cx Q c => ∀ (x2 : TPeerChange), J2 x2 → GC cx Q [(2, true, V (α := Bool) p2 ()), (3, true, .pointer (some ⟨b1, 0, none⟩)), (4, true, .pointer (some ⟨b2, 0, none⟩)), (6, true, .pointer (some ⟨b3, 0, none⟩)), (8, true, .pointer (some ⟨b4, 0, none⟩))] [Fk (α := TPeer) true p0 r0, Fk (α := TPeer) true p1 r1, Fk (α := TPeerChange) true TPeerChange_zero (none, 0), Fk (α := TPeerChange) true x2 (none, 0)] [bx (α := TPeerChange) x2 (none, 0) b4 47, bx (α := TPeerChange) TPeerChange_zero (none, 0) b3 47, bx (α := TPeer) p1 r1 b2 45, bx (α := TPeer) p0 r0 b1 45] c) ?_ (fun hj2 => ?_)
    · intro x2 h
      rw [hj2W] at h
      refine GC.seq ?_
      refine GC.seq ?_
      refine GC.region (GL.u (QE.move rfl) rfl <| GL.u (QE.move rfl) rfl <| GL.g ⟨_, _, _, rfl, rfl, rfl⟩ (QE.fa rfl) rfl <| GL.g ⟨_, _, _, rfl, rfl, rfl⟩ (QE.ld 3 TPeer_l_Keep rfl rfl) rfl <| GL.g ⟨_, _, _, rfl, rfl, rfl⟩ (QE.fa rfl) rfl <| GL.g ⟨_, _, _, rfl, rfl, rfl⟩ (QE.ld 2 TPeer_l_Keep rfl rfl) rfl <| GL.g ⟨_, _, _, rfl, rfl, rfl⟩ (QE.cmp rfl rfl) rfl <| GL.u (QE.or rfl rfl) rfl <| GL.nilK (fun _ _ => rfl) ?_)
      obtain ⟨J3, hj3W, h⟩ := WJ.open h
      refine GC.joinAt (fun _ _ => rfl) (fun cx Q c => ∀ (x3 : TPeerChange), J3 x3 → GC cx Q [(2, true, V (α := Bool) p2 ()), (3, true, .pointer (some ⟨b1, 0, none⟩)), (4, true, .pointer (some ⟨b2, 0, none⟩)), (6, true, .pointer (some ⟨b3, 0, none⟩)), (8, true, .pointer (some ⟨b4, 0, none⟩))] [Fk (α := TPeer) true p0 r0, Fk (α := TPeer) true p1 r1, Fk (α := TPeerChange) true TPeerChange_zero (none, 0), Fk (α := TPeerChange) true x3 (none, 0)] [bx (α := TPeerChange) x3 (none, 0) b4 47, bx (α := TPeerChange) TPeerChange_zero (none, 0) b3 47, bx (α := TPeer) p1 r1 b2 45, bx (α := TPeer) p0 r0 b1 45] c) ?_ (fun hj3 => ?_)
      · intro x3 h
        rw [hj3W] at h
        refine GC.seq ?_
        refine GC.region (GL.u (QE.fa rfl) rfl <| GL.u (QE.ld 3 TPeer_l_Allowed rfl rfl) rfl <| GL.fact (Fk (α := (List TPrefix)) true p0.Allowed r0) (fun _ _ hf _ => (TPeer_l_Allowed.okg (hf 0 rfl rfl) :)) <| GL.u (QE.fa rfl) rfl <| GL.u (QE.ld 2 TPeer_l_Allowed rfl rfl) rfl <| GL.fact (Fk (α := (List TPrefix)) true p1.Allowed r1) (fun _ _ hf _ => (TPeer_l_Allowed.okg (hf 2 rfl rfl) :)) <| GL.l rfl (LX.call (.cons rfl (fun _ => rfl) (.cons rfl (fun _ => rfl) .nil)) (fun _ => slices_Equal_Prefix_Prefix.ok h) (fun h => by cases h) (.cons 1 rfl (fun _ => rfl) (.cons 0 rfl (fun _ => rfl) .nil))) fun ⟨⟨y1, h⟩, q1⟩ => GL.u (QE.not rfl) rfl <| GL.u (QE.assign rfl) rfl <| GL.nilK (fun _ _ => rfl) ?_)
        refine GC.seq ?_
        refine GC.seq ?_
        refine GC.region (GL.u (QE.move rfl) rfl <| GL.nilK (fun _ _ => rfl) ?_)
        obtain ⟨J4, hj4W, h⟩ := WJ.open h
        refine GC.joinAt (fun _ _ => rfl) (fun cx Q c => ∀ (x4 : TPeerChange) (q2 : R.Raw TPeerChange), J4 x4 → GC cx Q [(2, true, V (α := Bool) p2 ()), (6, true, .pointer (some ⟨b3, 0, none⟩)), (8, true, .pointer (some ⟨b4, 0, none⟩)), (9, true, V (α := Bool) (!y1) ())] [Fk (α := TPeerChange) true TPeerChange_zero (none, 0), Fk (α := TPeerChange) true x4 q2] [bx (α := TPeerChange) x4 q2 b4 47, bx (α := TPeerChange) TPeerChange_zero (none, 0) b3 47] c) ?_ (fun hj4 => ?_)
        · intro x4 q2 h
          rw [hj4W] at h
          refine GC.seq ?_
          refine GC.region (GL.u (QE.ld 0 Lens.id rfl rfl) rfl <| GL.u (QE.move rfl) rfl <| GL.u (QE.move rfl) rfl <| GL.g ⟨_, _, _, rfl, rfl, rfl⟩ (QE.fa rfl) rfl <| GL.g ⟨_, _, _, rfl, rfl, rfl⟩ (QE.ld 0 TPeerChange_l_HasPsk rfl rfl) rfl <| GL.u (QE.or rfl rfl) rfl <| GL.u (QE.move rfl) rfl <| GL.g ⟨_, _, _, rfl, rfl, rfl⟩ (QE.fa rfl) rfl <| GL.g ⟨_, _, _, rfl, rfl, rfl⟩ (QE.ld 0 TPeerChange_l_HasEnd rfl rfl) rfl <| GL.u (QE.or rfl rfl) rfl <| GL.u (QE.move rfl) rfl <| GL.g ⟨_, _, _, rfl, rfl, rfl⟩ (QE.fa rfl) rfl <| GL.g ⟨_, _, _, rfl, rfl, rfl⟩ (QE.ld 0 TPeerChange_l_HasKeep rfl rfl) rfl <| GL.u (QE.or rfl rfl) rfl <| GL.u (QE.move rfl) rfl <| GL.g ⟨_, _, _, rfl, rfl, rfl⟩ (QE.move rfl) rfl <| GL.u (QE.or rfl rfl) rfl <| GL.l rfl (LX.st (β := TPeerChange) (z := x4) (s := q2) 1 Lens.id rfl rfl rfl) fun _ => GL.u (QE.assign rfl) rfl <| GL.nilK (fun _ _ => rfl) ?_)
          exact GC.ret (ret2 rfl (y1 := x4) (s1 := q2) (y2 := (((p2 || x4.HasPsk) || x4.HasEnd) || x4.HasKeep) || (!y1)) (s2 := ()) (RV.cell 1 rfl rfl) (RV.tmp rfl) (RO.fact 1 rfl) (RO.flat fun _ _ _ => trivial) h)
        refine GC.cond rfl (fun hb => ?_) (fun hb => ?_)
        · replace h := h.1 hb
          exact GC.region (GL.u (QE.fa rfl) rfl <| GL.u (QE.ld 2 TPeer_l_Allowed rfl rfl) rfl <| GL.l rfl (LX.call (.cons rfl (fun _ => rfl) .nil) (fun _ => slices_Clone_Prefix_Prefix.ok h) (fun h => by cases h) (.cons 1 rfl (fun _ => rfl) .nil)) fun ⟨⟨y2, h⟩, q3⟩ => GL.u (QE.fa rfl) rfl <| GL.l rfl (LX.st (β := (List TPrefix)) (z := y2) (s := q3) 0 TPeerChange_l_Allowed rfl rfl rfl) fun _ => GL.fact (Fk (α := TPeerChange) true { x3 with Allowed := y2 } q3) (fun _ _ hf _ => ((TPeerChange_l_Allowed).oks (y := (y2 : (List TPrefix))) (s := q3) (hf 7 rfl rfl) (hf 0 rfl rfl) :)) <| GL.nil (GC.weaken (hj4 _ q3 h) ⟨rfl, rfl, rfl, rfl, trivial⟩ ⟨⟨7, rfl⟩, ⟨0, rfl⟩, trivial⟩ [0, 1] (by decide) ⟨rfl, rfl, trivial⟩))
        · replace h := h.2 hb
          exact GC.skip (GC.weaken (hj4 _ (none, 0) h) ⟨rfl, rfl, rfl, rfl, trivial⟩ ⟨⟨5, rfl⟩, ⟨6, rfl⟩, trivial⟩ [0, 1] (by decide) ⟨rfl, rfl, trivial⟩)
      refine GC.cond rfl (fun hb => ?_) (fun hb => ?_)
      · replace h := h.1 hb
        exact GC.draw (fun q => q = b4) [3, 4, 5] (.x 0 <| .x 1 <| .q 2 <| .tail [3, 4, 5]) mixed (by kernel_rfl) (GH.x rfl rfl (QE.fa rfl) rfl <| GH.x rfl rfl (QE.ld 2 TPeer_l_Keep rfl rfl (hX := notX1 2 0 rfl rfl)) rfl <| GH.g rfl rfl (QE.fa rfl) rfl <| GH.tail <| GT.l (hX := fun _ h => h) rfl rfl (LX.st (β := Bool) (z := true) (s := ()) 0 TPeerChange_l_HasKeep rfl rfl rfl) fun _ => GT.fact (Fk (α := TPeerChange) true { x2 with HasKeep := true } (none, 0)) (fun _ _ hf _ => ((TPeerChange_l_HasKeep).oks (y := (true : Bool)) (s := ()) (hf 3 rfl rfl) (by exact trivial) :)) <| GT.g rfl rfl (QE.fa rfl) rfl <| GT.l (hX := fun _ h => h) rfl rfl (LX.st (β := Int) (z := p1.Keep) (s := ()) 0 TPeerChange_l_Keep rfl rfl rfl) fun _ => GT.fact (Fk (α := TPeerChange) true { x2 with HasKeep := true, Keep := p1.Keep } (none, 0)) (fun _ _ hf _ => ((TPeerChange_l_Keep).oks (y := (p1.Keep : Int)) (s := ()) (hf 0 rfl rfl) (by exact trivial) :)) <| GT.nil (GC.weaken (hj3 _ h) ⟨rfl, rfl, rfl, rfl, rfl, trivial⟩ ⟨⟨2, rfl⟩, ⟨3, rfl⟩, ⟨4, rfl⟩, ⟨0, rfl⟩, trivial⟩ [0, 1, 2, 3] (by decide) ⟨rfl, rfl, rfl, rfl, trivial⟩))
      · replace h := h.2 hb
        exact GC.skip (GC.weaken (hj3 _ h) ⟨rfl, rfl, rfl, rfl, rfl, trivial⟩ ⟨⟨0, rfl⟩, ⟨1, rfl⟩, ⟨2, rfl⟩, ⟨3, rfl⟩, trivial⟩ [0, 1, 2, 3] (by decide) ⟨rfl, rfl, rfl, rfl, trivial⟩)
    refine GC.cond rfl (fun hb => ?_) (fun hb => ?_)
    · replace h := h.1 hb
      exact GC.draw (fun q => q = b4) [3, 4, 5] (.x 0 <| .x 1 <| .q 2 <| .tail [3, 4, 5]) mixed (by kernel_rfl) (GH.x rfl rfl (QE.fa rfl) rfl <| GH.x rfl rfl (QE.ld 2 TPeer_l_End rfl rfl (hX := notX1 2 0 rfl rfl)) rfl <| GH.g rfl rfl (QE.fa rfl) rfl <| GH.tail <| GT.l (hX := fun _ h => h) rfl rfl (LX.st (β := Bool) (z := true) (s := ()) 0 TPeerChange_l_HasEnd rfl rfl rfl) fun _ => GT.fact (Fk (α := TPeerChange) true { x1 with HasEnd := true } (none, 0)) (fun _ _ hf _ => ((TPeerChange_l_HasEnd).oks (y := (true : Bool)) (s := ()) (hf 3 rfl rfl) (by exact trivial) :)) <| GT.g rfl rfl (QE.fa rfl) rfl <| GT.l (hX := fun _ h => h) rfl rfl (LX.st (β := TEndpoint) (z := p1.End) (s := ()) 0 TPeerChange_l_End rfl rfl rfl) fun _ => GT.fact (Fk (α := TPeerChange) true { x1 with HasEnd := true, End := p1.End } (none, 0)) (fun _ _ hf _ => ((TPeerChange_l_End).oks (y := (p1.End : TEndpoint)) (s := ()) (hf 0 rfl rfl) (by exact trivial) :)) <| GT.nil (GC.weaken (hj2 _ h) ⟨rfl, rfl, rfl, rfl, rfl, trivial⟩ ⟨⟨2, rfl⟩, ⟨3, rfl⟩, ⟨4, rfl⟩, ⟨0, rfl⟩, trivial⟩ [0, 1, 2, 3] (by decide) ⟨rfl, rfl, rfl, rfl, trivial⟩))
    · replace h := h.2 hb
      exact GC.skip (GC.weaken (hj2 _ h) ⟨rfl, rfl, rfl, rfl, rfl, trivial⟩ ⟨⟨0, rfl⟩, ⟨1, rfl⟩, ⟨2, rfl⟩, ⟨3, rfl⟩, trivial⟩ [0, 1, 2, 3] (by decide) ⟨rfl, rfl, rfl, rfl, trivial⟩)
  refine GC.cond rfl (fun hb => ?_) (fun hb => ?_)
  · replace h := h.1 hb
    exact GC.draw (fun q => q = b4) [3, 4, 5] (.x 0 <| .x 1 <| .q 2 <| .tail [3, 4, 5]) mixed (by kernel_rfl) (GH.x rfl rfl (QE.fa rfl) rfl <| GH.x rfl rfl (QE.ld 2 TPeer_l_Psk rfl rfl (hX := notX1 2 0 rfl rfl)) rfl <| GH.g rfl rfl (QE.fa rfl) rfl <| GH.tail <| GT.l (hX := fun _ h => h) rfl rfl (LX.st (β := Bool) (z := true) (s := ()) 0 TPeerChange_l_HasPsk rfl rfl rfl) fun _ => GT.fact (Fk (α := TPeerChange) true ({ Key := p1.Key, Remove := false, Update := !p2, HasPsk := true, Psk := (Vector.replicate 32 (0 : UInt8)), HasEnd := false, End := TEndpoint_zero, HasKeep := false, Keep := (0 : Int), Replace := false, Allowed := ([] : (List TPrefix)) } : TPeerChange) (none, 0)) (fun _ _ hf _ => ((TPeerChange_l_HasPsk).oks (y := (true : Bool)) (s := ()) (hf 1 rfl rfl) (by exact trivial) :)) <| GT.g rfl rfl (QE.fa rfl) rfl <| GT.l (hX := fun _ h => h) rfl rfl (LX.st (β := (Vector UInt8 32)) (z := p1.Psk) (s := ()) 0 TPeerChange_l_Psk rfl rfl rfl) fun _ => GT.fact (Fk (α := TPeerChange) true ({ Key := p1.Key, Remove := false, Update := !p2, HasPsk := true, Psk := p1.Psk, HasEnd := false, End := TEndpoint_zero, HasKeep := false, Keep := (0 : Int), Replace := false, Allowed := ([] : (List TPrefix)) } : TPeerChange) (none, 0)) (fun _ _ hf _ => ((TPeerChange_l_Psk).oks (y := (p1.Psk : (Vector UInt8 32))) (s := ()) (hf 0 rfl rfl) (by exact trivial) :)) <| GT.nil (GC.weaken (hj1 _ h) ⟨rfl, rfl, rfl, rfl, rfl, trivial⟩ ⟨⟨5, rfl⟩, ⟨6, rfl⟩, ⟨2, rfl⟩, ⟨0, rfl⟩, trivial⟩ [0, 1, 2, 3] (by decide) ⟨rfl, rfl, rfl, rfl, trivial⟩))
  · replace h := h.2 hb
    exact GC.skip (GC.weaken (hj1 _ h) ⟨rfl, rfl, rfl, rfl, rfl, trivial⟩ ⟨⟨3, rfl⟩, ⟨4, rfl⟩, ⟨0, rfl⟩, ⟨1, rfl⟩, trivial⟩ [0, 1, 2, 3] (by decide) ⟨rfl, rfl, rfl, rfl, trivial⟩)

theorem differ_Patch.ok {p0 : TConf} {p1 : TConf} {r0 : R.Raw TConf} {r1 : R.Raw TConf} {K : TRequest → Prop} (h : differ_Patch.W p0 p1 K) : Ct P 6 [V p0 r0, V p1 r1] [Fk (α := TConf) true p0 r0, Fk (α := TConf) true p1 r1] K := by
  unfold differ_Patch.W at h
  refine Ct.of (n := 126) Try.func6 rfl rfl rfl fun w0 m0 => ?_
  refine GC.seq ?_
  refine GC.region (GL.l rfl (LX.box (y := p0) (r := r0) rfl) fun b1 => GL.l rfl (LX.box (y := p1) (r := r1) rfl) fun b2 => GL.l rfl (LX.alloc (y := TRequest_zero) (r := (none, 0))) fun b3 => GL.fact (Fk (α := TRequest) true TRequest_zero (none, 0)) (fun _ _ _ _ => .inl rfl) <| GL.nilK (fun _ _ => rfl) ?_)
  refine GC.seq ?_
  refine GC.region (GL.l rfl (LX.alloc (y := TRequest_zero) (r := (none, 0))) fun b4 => GL.fact (Fk (α := TRequest) true TRequest_zero (none, 0)) (fun _ _ _ _ => .inl rfl) <| GL.nilK (fun _ _ => rfl) ?_)
  refine GC.seq ?_
  refine GC.block ?_
  refine GC.seq ?_
  refine GC.region (GL.u (QE.ld 3 Lens.id rfl rfl) rfl <| GL.l rfl (LX.call (.cons rfl (fun _ => rfl) .nil) (fun _ => view_Right.ok h) (fun h => by cases h) (.cons 2 rfl (fun _ => rfl) .nil)) fun ⟨⟨y1, h⟩, q1⟩ => GL.u (QE.not rfl) rfl <| GL.u (QE.move rfl) rfl <| GL.g ⟨_, _, _, rfl, rfl, rfl⟩ (QE.ld 2 Lens.id rfl rfl) rfl <| GL.l ⟨_, _, _, rfl, rfl, rfl⟩ (LX.call (.cons rfl (fun h => h) .nil) (fun hg => view_Right.ok (h.1 hg)) (fun hg => h.2 hg) (.cons 4 rfl (fun _ => rfl) .nil)) fun ⟨⟨y2, h⟩, q2⟩ => GL.g ⟨_, _, _, rfl, rfl, rfl⟩ (QE.not rfl) rfl <| GL.u (QE.or rfl rfl) rfl <| GL.u (QE.assign rfl) rfl <| GL.nilK (fun _ _ => rfl) ?_)
  refine GC.cond rfl (fun hb => ?_) (fun hb => ?_)
  · replace h := h.1 hb
    refine GC.seq ?_
    refine GC.region (GL.u (QE.ld 0 Lens.id rfl rfl) rfl <| GL.l rfl (LX.st (β := TRequest) (z := TRequest_zero) (s := (none, 0)) 1 Lens.id rfl rfl rfl) fun _ => GL.nilK (fun _ _ => rfl) ?_)
    exact GC.ret (ret1 rfl (y1 := TRequest_zero) (s1 := (none, 0)) (RV.cell 1 rfl rfl) (RO.fact 2 rfl) h)
  · replace h := h.2 hb
    refine GC.seq ?_
    refine GC.region (GL.u (QE.ld 3 Lens.id rfl rfl) rfl <| GL.u (QE.ld 2 Lens.id rfl rfl) rfl <| GL.l rfl (LX.call (.cons rfl (fun _ => rfl) (.cons rfl (fun _ => rfl) .nil)) (fun _ => differ_Grows.ok h) (fun h => by cases h) (.cons 4 rfl (fun _ => rfl) (.cons 5 rfl (fun _ => rfl) .nil))) fun ⟨⟨y3, h⟩, q3⟩ => GL.u (QE.not rfl) rfl <| GL.u (QE.assign rfl) rfl <| GL.nilK (fun _ _ => rfl) ?_)
    refine GC.cond rfl (fun hb => ?_) (fun hb => ?_)
    · replace h := h.1 hb
      refine GC.seq ?_
      refine GC.region (GL.u (QE.ld 2 Lens.id rfl rfl) rfl <| GL.l rfl (LX.call (.cons rfl (fun _ => rfl) .nil) (fun _ => view_Request.ok h) (fun h => by cases h) (.cons 6 rfl (fun _ => rfl) .nil)) fun ⟨⟨y4, h⟩, q4⟩ => GL.l rfl (LX.st (β := TRequest) (z := y4) (s := q4) 1 Lens.id rfl rfl rfl) fun _ => GL.nilK (fun _ _ => rfl) ?_)
      exact GC.ret (ret1 rfl (y1 := y4) (s1 := q4) (RV.cell 1 rfl rfl) (RO.fact 0 rfl) h)
    · replace h := h.2 hb
      refine GC.skipK (fun _ _ => rfl) ?_
      refine GC.seq ?_
      refine GC.region (GL.u (QE.ld 3 Lens.id rfl rfl) rfl <| GL.u (QE.ld 2 Lens.id rfl rfl) rfl <| GL.l rfl (LX.callO (σ := TRequest) (κ := Unit) (osP := [bx (α := TRequest) TRequest_zero (none, 0) b4 32]) (osR := [bx (α := TRequest) TRequest_zero (none, 0) b3 32, bx (α := TConf) p1 r1 b2 27, bx (α := TConf) p0 r0 b1 27]) (val := fun y s => .tuple #[]) (F := fun y s => [Fk (α := TRequest) true y (none, 0)]) (O := fun y s => [bx (α := TRequest) y (none, 0) b4 32]) (by exact (Enters.fn (.cons rfl (fun _ => rfl) (.cons rfl (fun _ => rfl) (.cons rfl (fun _ => rfl) .nil))))) (differ_device_o.ok h) (.ix 3 rfl (.ix 5 rfl (.ix 6 rfl .nil))) (ozC oz_bx ozN) (env' := fun i => (39, true, (fun y s => .tuple #[]) i.1.1 i.2) :: _) (fun _ _ _ _ _ _ h => h.put rfl rfl)) fun ⟨⟨y5, h⟩, q5⟩ => GL.nilK (fun _ _ => rfl) ?_)
      refine GC.seq ?_
      refine GC.draw (fun _ => True) [] (.q 0 <| .q 2 <| .l 1 <| .l 3 <| .q 4 <| .q 5 <| .tail []) mixed (by kernel_rfl) (GH.g rfl rfl (QE.ld 3 Lens.id rfl rfl) rfl <| GH.g rfl rfl (QE.ld 2 Lens.id rfl rfl) rfl <| GH.l rfl rfl (LX.call (.cons rfl (fun _ => rfl) .nil) (fun _ => differ_byKey.ok h) (fun h => by cases h) (.cons 6 rfl (fun _ => rfl) .nil)) fun ⟨⟨y6, h⟩, q6⟩ => GH.l rfl rfl (LX.call (.cons rfl (fun _ => rfl) .nil) (fun _ => differ_byKey.ok h) (fun h => by cases h) (.cons 8 rfl (fun _ => rfl) .nil)) fun ⟨⟨y7, h⟩, q7⟩ => GH.g rfl rfl (QE.assign rfl) rfl <| GH.g rfl rfl (QE.assign rfl) rfl <| GH.tail <| GT.nilK (fun _ _ => rfl) ?_)
      refine GC.seq ?_
      refine GC.seq ?_
      refine GC.region (GL.u (QE.fa rfl) rfl <| GL.u (QE.ld 3 TConf_l_Peers rfl rfl) rfl <| GL.fact (Fk (α := (List TPeer)) true p0.Peers r0) (fun _ _ hf _ => (TConf_l_Peers.okg (hf 8 rfl rfl) :)) <| GL.u (QE.len rfl (run_underlying Try.underlying25)) rfl <| GL.u (QE.move rfl) rfl <| GL.nilK (fun _ _ => rfl) ?_)
      refine GC.block ?_
      refine GC.via (Via.fact (Fk (α := (List TPeerChange)) true y5.Peers (none, 0)) (fun _ _ hf _ => (TRequest_l_Peers.okg (hf 3 rfl rfl) :))) ?_
      refine GC.via (Via.nilTipOf (xs := y5.Peers) 47 (R.size TPeerChange) 0 rfl) ?_
      refine GC.loop ?_
      refine GLoop.weaken (h (fun x1 x2 => ∀ (q8 : R.Raw TRequest), GLoop _ _ [(3, true, .pointer (some ⟨b2, 0, none⟩)), (4, true, .pointer (some ⟨b3, 0, none⟩)), (5, true, .pointer (some ⟨b4, 0, none⟩)), (6, true, V (α := (Mp (Vector UInt8 32) TPeer)) y6 q6), (7, true, V (α := (Mp (Vector UInt8 32) TPeer)) y7 q7), (45, true, V (α := (List TPeer)) p0.Peers r0), (46, true, V (α := Int) (p0.Peers.length : Int) ()), (47, true, V (α := Int) x1 ())] [Fk (α := (Mp (Vector UInt8 32) TPeer)) true y6 q6, Fk (α := (Mp (Vector UInt8 32) TPeer)) true y7 q7, Fk (α := (List TPeer)) true p0.Peers r0, Fk (α := TConf) true p1 r1, Fk (α := TRequest) true TRequest_zero (none, 0), Fk (α := TRequest) true x2 q8] [tp 47 (R.size TPeerChange) (List.length x2.Peers) (q8).1 (q8).2, bx (α := TRequest) x2 q8 b4 32, bx (α := TRequest) TRequest_zero (none, 0) b3 32, bx (α := TConf) p1 r1 b2 27] _) (fun x1 x2 h => ?_) (none, 0)) ⟨rfl, rfl, rfl, rfl, rfl, rfl, rfl, rfl, trivial⟩ ⟨⟨3, rfl⟩, ⟨2, rfl⟩, ⟨1, rfl⟩, ⟨11, rfl⟩, ⟨8, rfl⟩, ⟨4, rfl⟩, trivial⟩ [0, 1, 2, 3] (by decide) ⟨rfl, rfl, rfl, rfl, trivial⟩
      intro q8
      refine GLoop.round ?_
      refine GC.seq ?_
      refine GC.region (GL.u (QE.cmp rfl rfl) rfl <| GL.nilK (fun _ _ => rfl) ?_)
      refine GC.seq ?_
      refine GC.cond rfl (fun hb => ?_) (fun hb => ?_)
      · replace h := h.1 hb
        refine GC.skipK (fun _ _ => rfl) ?_
        refine GC.seq ?_
        refine GC.block ?_
        refine GC.seq ?_
        refine GC.region (GL.ux (QX.ias (xs := p0.Peers) (r := r0) 2 rfl rfl rfl (fun _ => h.1)) rfl fun d1 => GL.ux (QX.ld 0 rfl rfl) rfl fun q9 => GL.l rfl (LX.alloc (y := TPeer_zero) (r := (none, 0))) fun b5 => GL.fact (Fk (α := TPeer) true TPeer_zero (none, 0)) (fun _ _ _ _ => .inl rfl) <| GL.l rfl (LX.st (β := TPeer) (z := lat p0.Peers x1) (s := q9) 0 Lens.id rfl rfl rfl) fun _ => GL.nilK (fun _ _ => rfl) ?_)
        refine GC.seq ?_
        refine GC.region (GL.u (QE.move rfl) rfl <| GL.u (QE.fa rfl) rfl <| GL.u (QE.ld 0 TPeer_l_Key rfl rfl) rfl <| GL.ux (QX.lookF (κ := (Vector UInt8 32)) (β := TPeer) (k := (lat p0.Peers x1).Key) (z := TPeer_zero) (zr := (none, 0)) 4 rfl rfl rfl (fun _ _ => .inl rfl)) rfl fun q10 => GL.u (QE.move rfl) rfl <| GL.u (QE.extract rfl rfl) rfl <| GL.u (QE.extract rfl rfl) rfl <| GL.l rfl (LX.alloc (y := TPeer_zero) (r := (none, 0))) fun b6 => GL.fact (Fk (α := TPeer) true TPeer_zero (none, 0)) (fun _ _ _ _ => .inl rfl) <| GL.l rfl (LX.st (β := TPeer) (z := mval y7.l ((lat p0.Peers x1).Key) TPeer_zero) (s := q10) 0 Lens.id rfl rfl rfl) fun _ => GL.u (QE.assign rfl) rfl <| GL.nilK (fun _ _ => rfl) ?_)
        refine GC.seq ?_
        refine GC.region (GL.u (QE.move rfl) rfl <| GL.u (QE.not rfl) rfl <| GL.nilK (fun _ _ => rfl) ?_)
        obtain ⟨J1, hj1W, h⟩ := WJ.open h.2
        refine GC.joinAt (fun _ _ => rfl) (fun cx Q c => ∀ (x3 : TRequest) (q11 : R.Raw TRequest), J1 x3 → GC cx Q [(3, true, .pointer (some ⟨b2, 0, none⟩)), (4, true, .pointer (some ⟨b3, 0, none⟩)), (5, true, .pointer (some ⟨b4, 0, none⟩)), (6, true, V (α := (Mp (Vector UInt8 32) TPeer)) y6 q6), (7, true, V (α := (Mp (Vector UInt8 32) TPeer)) y7 q7), (45, true, V (α := (List TPeer)) p0.Peers r0), (46, true, V (α := Int) (p0.Peers.length : Int) ()), (47, true, V (α := Int) x1 ())] [Fk (α := (Mp (Vector UInt8 32) TPeer)) true y6 q6, Fk (α := (Mp (Vector UInt8 32) TPeer)) true y7 q7, Fk (α := (List TPeer)) true p0.Peers r0, Fk (α := TConf) true p1 r1, Fk (α := TRequest) true TRequest_zero (none, 0), Fk (α := TRequest) true x3 q11] [tp 47 (R.size TPeerChange) (List.length x3.Peers) (q11).1 (q11).2, bx (α := TRequest) x3 q11 b4 32, bx (α := TRequest) TRequest_zero (none, 0) b3 32, bx (α := TConf) p1 r1 b2 27] c) ?_ (fun hj1 => ?_)
        · intro x3 q11 h
          rw [hj1W] at h
          exact GC.region (GL.u (QE.ar rfl rfl) rfl <| GL.u (QE.move rfl) rfl <| GL.nil (GLoop.weaken (h q11) ⟨rfl, rfl, rfl, rfl, rfl, rfl, rfl, rfl, trivial⟩ ⟨⟨0, rfl⟩, ⟨1, rfl⟩, ⟨2, rfl⟩, ⟨3, rfl⟩, ⟨4, rfl⟩, ⟨5, rfl⟩, trivial⟩ [0, 1, 2, 3] (by decide) ⟨rfl, rfl, rfl, rfl, trivial⟩))
        refine GC.cond rfl (fun hb => ?_) (fun hb => ?_)
        · replace h := h.1 hb
          exact GC.region (GL.u (QE.fa rfl) rfl <| GL.u (QE.ld 3 TRequest_l_Peers rfl rfl) rfl <| GL.fact (Fk (α := (List TPeerChange)) true x2.Peers q8) (fun _ _ hf _ => (TRequest_l_Peers.okg (hf 10 rfl rfl) :)) <| GL.u (QE.fa rfl) rfl <| GL.u (QE.ld 1 TPeer_l_Key rfl rfl) rfl <| GL.u (QE.build (x := ({ Key := (lat p0.Peers x1).Key, Remove := true, Update := false, HasPsk := false, Psk := (Vector.replicate 32 (0 : UInt8)), HasEnd := false, End := TEndpoint_zero, HasKeep := false, Keep := (0 : Int), Replace := false, Allowed := ([] : (List TPrefix)) } : TPeerChange)) (r := (none, 0)) (.cons rfl (fun _ => rfl) (.cons rfl (fun _ => rfl) .nil)) (.cons TPeerChange_l_Key ((lat p0.Peers x1).Key) () rfl rfl (.cons TPeerChange_l_Remove (true) () rfl rfl (.nil _ _)))) rfl <| GL.fact (Fk (α := TPeerChange) true ({ Key := (lat p0.Peers x1).Key, Remove := true, Update := false, HasPsk := false, Psk := (Vector.replicate 32 (0 : UInt8)), HasEnd := false, End := TEndpoint_zero, HasKeep := false, Keep := (0 : Int), Replace := false, Allowed := ([] : (List TPrefix)) } : TPeerChange) (none, 0)) (fun _ _ hf _ => .inl rfl) <| GL.l rfl (LX.lit (xs := ([({ Key := (lat p0.Peers x1).Key, Remove := true, Update := false, HasPsk := false, Psk := (Vector.replicate 32 (0 : UInt8)), HasEnd := false, End := TEndpoint_zero, HasKeep := false, Keep := (0 : Int), Replace := false, Allowed := ([] : (List TPrefix)) } : TPeerChange)] : (List TPeerChange))) (rs := [(none, 0)]) (fs1 := [Fk (α := TPeerChange) true ({ Key := (lat p0.Peers x1).Key, Remove := true, Update := false, HasPsk := false, Psk := (Vector.replicate 32 (0 : UInt8)), HasEnd := false, End := TEndpoint_zero, HasKeep := false, Keep := (0 : Int), Replace := false, Allowed := ([] : (List TPrefix)) } : TPeerChange) (none, 0)]) ⟨rfl, rfl, trivial⟩ rfl ⟨⟨0, rfl⟩, trivial⟩ (fun _ _ hf => ⟨hf (Fk (α := TPeerChange) true ({ Key := (lat p0.Peers x1).Key, Remove := true, Update := false, HasPsk := false, Psk := (Vector.replicate 32 (0 : UInt8)), HasEnd := false, End := TEndpoint_zero, HasKeep := false, Keep := (0 : Int), Replace := false, Allowed := ([] : (List TPrefix)) } : TPeerChange) (none, 0)) (by simp) rfl, trivial⟩) (by kernel_rfl)) fun q12 => GL.l rfl (LX.append (xs := x2.Peers) (ys := ([({ Key := (lat p0.Peers x1).Key, Remove := true, Update := false, HasPsk := false, Psk := (Vector.replicate 32 (0 : UInt8)), HasEnd := false, End := TEndpoint_zero, HasKeep := false, Keep := (0 : Int), Replace := false, Allowed := ([] : (List TPrefix)) } : TPeerChange)] : (List TPeerChange))) (r := q8) (s := (q12, 1)) Try.underlying30 3 2 0 rfl rfl rfl rfl rfl h.1) fun q13 => GL.u (QE.fa rfl) rfl <| GL.l rfl (LX.st (β := (List TPeerChange)) (z := x2.Peers ++ ([({ Key := (lat p0.Peers x1).Key, Remove := true, Update := false, HasPsk := false, Psk := (Vector.replicate 32 (0 : UInt8)), HasEnd := false, End := TEndpoint_zero, HasKeep := false, Keep := (0 : Int), Replace := false, Allowed := ([] : (List TPrefix)) } : TPeerChange)] : (List TPeerChange))) (s := q13) 4 TRequest_l_Peers rfl rfl rfl) fun _ => GL.fact (Fk (α := TRequest) true { x2 with Peers := x2.Peers ++ ([({ Key := (lat p0.Peers x1).Key, Remove := true, Update := false, HasPsk := false, Psk := (Vector.replicate 32 (0 : UInt8)), HasEnd := false, End := TEndpoint_zero, HasKeep := false, Keep := (0 : Int), Replace := false, Allowed := ([] : (List TPrefix)) } : TPeerChange)] : (List TPeerChange)) } q13) (fun _ _ hf _ => ((TRequest_l_Peers).oks (y := (x2.Peers ++ ([({ Key := (lat p0.Peers x1).Key, Remove := true, Update := false, HasPsk := false, Psk := (Vector.replicate 32 (0 : UInt8)), HasEnd := false, End := TEndpoint_zero, HasKeep := false, Keep := (0 : Int), Replace := false, Allowed := ([] : (List TPrefix)) } : TPeerChange)] : (List TPeerChange)) : (List TPeerChange))) (s := q13) (hf 14 rfl rfl) (hf 0 rfl rfl) :)) <| GL.nil (GC.weaken (hj1 _ q13 h.2) ⟨rfl, rfl, rfl, rfl, rfl, rfl, rfl, rfl, trivial⟩ ⟨⟨10, rfl⟩, ⟨11, rfl⟩, ⟨12, rfl⟩, ⟨13, rfl⟩, ⟨14, rfl⟩, ⟨0, rfl⟩, trivial⟩ [3, 4, 5, 6] (by decide) ⟨rfl, rfl, rfl, rfl, trivial⟩))
        · replace h := h.2 hb
          exact GC.skip (GC.weaken (hj1 _ q8 h) ⟨rfl, rfl, rfl, rfl, rfl, rfl, rfl, rfl, trivial⟩ ⟨⟨5, rfl⟩, ⟨6, rfl⟩, ⟨7, rfl⟩, ⟨8, rfl⟩, ⟨9, rfl⟩, ⟨10, rfl⟩, trivial⟩ [2, 3, 4, 5] (by decide) ⟨rfl, rfl, rfl, rfl, trivial⟩)
      · replace h := h.2 hb
        refine GC.exitK (fun _ _ => rfl) ?_
        refine GC.seq ?_
        refine GC.seq ?_
        refine GC.region (GL.u (QE.ld 3 Lens.id rfl rfl) rfl <| GL.u (QE.move rfl) rfl <| GL.l rfl (LX.call (.cons rfl (fun _ => rfl) (.cons rfl (fun _ => rfl) .nil)) (fun _ => differ_shared.ok h) (fun h => by cases h) (.cons 3 rfl (fun _ => rfl) (.cons 0 rfl (fun _ => rfl) .nil))) fun ⟨⟨y8, h⟩, q14⟩ => GL.u (QE.len rfl (run_underlying Try.underlying25)) rfl <| GL.u (QE.move rfl) rfl <| GL.nilK (fun _ _ => rfl) ?_)
        refine GC.block ?_
        refine GC.loop ?_
        refine GLoop.weaken (h (fun x4 x5 => ∀ (q15 : R.Raw TRequest), GLoop _ _ [(3, true, .pointer (some ⟨b2, 0, none⟩)), (4, true, .pointer (some ⟨b3, 0, none⟩)), (5, true, .pointer (some ⟨b4, 0, none⟩)), (6, true, V (α := (Mp (Vector UInt8 32) TPeer)) y6 q6), (71, true, V (α := (List TPeer)) y8 q14), (72, true, V (α := Int) (y8.length : Int) ()), (73, true, V (α := Int) x4 ())] [Fk (α := (Mp (Vector UInt8 32) TPeer)) true y6 q6, Fk (α := (List TPeer)) true y8 q14, Fk (α := TConf) true p1 r1, Fk (α := TRequest) true TRequest_zero (none, 0), Fk (α := TRequest) true x5 q15] [tp 47 (R.size TPeerChange) (List.length x5.Peers) (q15).1 (q15).2, bx (α := TRequest) x5 q15 b4 32, bx (α := TRequest) TRequest_zero (none, 0) b3 32, bx (α := TConf) p1 r1 b2 27] _) (fun x4 x5 h => ?_) q8) ⟨rfl, rfl, rfl, rfl, rfl, rfl, rfl, trivial⟩ ⟨⟨1, rfl⟩, ⟨0, rfl⟩, ⟨4, rfl⟩, ⟨5, rfl⟩, ⟨6, rfl⟩, trivial⟩ [0, 1, 2, 3] (by decide) ⟨rfl, rfl, rfl, rfl, trivial⟩
        intro q15
        refine GLoop.round ?_
        refine GC.seq ?_
        refine GC.region (GL.u (QE.cmp rfl rfl) rfl <| GL.nilK (fun _ _ => rfl) ?_)
        refine GC.seq ?_
        refine GC.cond rfl (fun hb => ?_) (fun hb => ?_)
        · replace h := h.1 hb
          refine GC.skipK (fun _ _ => rfl) ?_
          refine GC.seq ?_
          refine GC.block ?_
          refine GC.seq ?_
          refine GC.region (GL.ux (QX.ias (xs := y8) (r := q14) 1 rfl rfl rfl (fun _ => h.1)) rfl fun d2 => GL.ux (QX.ld 0 rfl rfl) rfl fun q16 => GL.l rfl (LX.alloc (y := TPeer_zero) (r := (none, 0))) fun b7 => GL.fact (Fk (α := TPeer) true TPeer_zero (none, 0)) (fun _ _ _ _ => .inl rfl) <| GL.l rfl (LX.st (β := TPeer) (z := lat y8 x4) (s := q16) 0 Lens.id rfl rfl rfl) fun _ => GL.nilK (fun _ _ => rfl) ?_)
          refine GC.seq ?_
          refine GC.draw (fun _ => True) [] (.q 0 <| .q 1 <| .q 2 <| .q 3 <| .q 4 <| .q 5 <| .q 6 <| .l 7 <| .q 8 <| .tail []) mixed (by kernel_rfl) (GH.g rfl rfl (QE.move rfl) rfl <| GH.g rfl rfl (QE.fa rfl) rfl <| GH.g rfl rfl (QE.ld 0 TPeer_l_Key rfl rfl) rfl <| GH.gx rfl rfl (QX.lookF (κ := (Vector UInt8 32)) (β := TPeer) (k := (lat y8 x4).Key) (z := TPeer_zero) (zr := (none, 0)) 3 rfl rfl rfl (fun _ _ => .inl rfl)) rfl fun q17 => GH.g rfl rfl (QE.field (y := mval y6.l ((lat y8 x4).Key) TPeer_zero) (r := q17) TPeer_l_Allowed rfl) rfl <| GH.fact (Fk (α := (List TPrefix)) true ((mval y6.l ((lat y8 x4).Key) TPeer_zero).Allowed) q17) (fun _ _ hf hg => (TPeer_l_Allowed.okg (hf 0 rfl hg) :)) <| GH.g rfl rfl (QE.fa rfl) rfl <| GH.g rfl rfl (QE.ld 0 TPeer_l_Allowed rfl rfl) rfl <| GH.fact (Fk (α := (List TPrefix)) true ((lat y8 x4).Allowed) q16) (fun _ _ hf _ => (TPeer_l_Allowed.okg (hf 3 rfl rfl) :)) <| GH.l rfl rfl (LX.call (.cons rfl (fun _ => rfl) (.cons rfl (fun _ => rfl) .nil)) (fun _ => slices_Equal_Prefix_Prefix.ok h.2) (fun h => by cases h) (.cons 1 rfl (fun _ => rfl) (.cons 0 rfl (fun _ => rfl) .nil))) fun ⟨⟨y9, h⟩, q18⟩ => GH.g rfl rfl (QE.not rfl) rfl <| GH.tail <| GT.nilK (fun _ _ => rfl) ?_)
          obtain ⟨J2, hj2W, h⟩ := WJ.open h
          refine GC.joinAt (fun _ _ => rfl) (fun cx Q c => ∀ (x6 : TRequest) (q19 : R.Raw TRequest), J2 x6 → GC cx Q [(3, true, .pointer (some ⟨b2, 0, none⟩)), (4, true, .pointer (some ⟨b3, 0, none⟩)), (5, true, .pointer (some ⟨b4, 0, none⟩)), (6, true, V (α := (Mp (Vector UInt8 32) TPeer)) y6 q6), (71, true, V (α := (List TPeer)) y8 q14), (72, true, V (α := Int) (y8.length : Int) ()), (73, true, V (α := Int) x4 ())] [Fk (α := (Mp (Vector UInt8 32) TPeer)) true y6 q6, Fk (α := (List TPeer)) true y8 q14, Fk (α := TConf) true p1 r1, Fk (α := TRequest) true TRequest_zero (none, 0), Fk (α := TRequest) true x6 q19] [tp 47 (R.size TPeerChange) (List.length x6.Peers) (q19).1 (q19).2, bx (α := TRequest) x6 q19 b4 32, bx (α := TRequest) TRequest_zero (none, 0) b3 32, bx (α := TConf) p1 r1 b2 27] c) ?_ (fun hj2 => ?_)
          · intro x6 q19 h
            rw [hj2W] at h
            exact GC.region (GL.u (QE.ar rfl rfl) rfl <| GL.u (QE.move rfl) rfl <| GL.nil (GLoop.weaken (h q19) ⟨rfl, rfl, rfl, rfl, rfl, rfl, rfl, trivial⟩ ⟨⟨0, rfl⟩, ⟨1, rfl⟩, ⟨2, rfl⟩, ⟨3, rfl⟩, ⟨4, rfl⟩, trivial⟩ [0, 1, 2, 3] (by decide) ⟨rfl, rfl, rfl, rfl, trivial⟩))
          refine GC.cond rfl (fun hb => ?_) (fun hb => ?_)
          · replace h := h.1 hb
            exact GC.region (GL.u (QE.fa rfl) rfl <| GL.u (QE.ld 2 TRequest_l_Peers rfl rfl) rfl <| GL.fact (Fk (α := (List TPeerChange)) true x5.Peers q15) (fun _ _ hf _ => (TRequest_l_Peers.okg (hf 11 rfl rfl) :)) <| GL.u (QE.fa rfl) rfl <| GL.u (QE.ld 0 TPeer_l_Key rfl rfl) rfl <| GL.u (QE.build (x := ({ Key := (lat y8 x4).Key, Remove := false, Update := true, HasPsk := false, Psk := (Vector.replicate 32 (0 : UInt8)), HasEnd := false, End := TEndpoint_zero, HasKeep := false, Keep := (0 : Int), Replace := true, Allowed := ([] : (List TPrefix)) } : TPeerChange)) (r := (none, 0)) (.cons rfl (fun _ => rfl) (.cons rfl (fun _ => rfl) (.cons rfl (fun _ => rfl) .nil))) (.cons TPeerChange_l_Key ((lat y8 x4).Key) () rfl rfl (.cons TPeerChange_l_Update (true) () rfl rfl (.cons TPeerChange_l_Replace (true) () rfl rfl (.nil _ _))))) rfl <| GL.fact (Fk (α := TPeerChange) true ({ Key := (lat y8 x4).Key, Remove := false, Update := true, HasPsk := false, Psk := (Vector.replicate 32 (0 : UInt8)), HasEnd := false, End := TEndpoint_zero, HasKeep := false, Keep := (0 : Int), Replace := true, Allowed := ([] : (List TPrefix)) } : TPeerChange) (none, 0)) (fun _ _ hf _ => .inl rfl) <| GL.l rfl (LX.lit (xs := ([({ Key := (lat y8 x4).Key, Remove := false, Update := true, HasPsk := false, Psk := (Vector.replicate 32 (0 : UInt8)), HasEnd := false, End := TEndpoint_zero, HasKeep := false, Keep := (0 : Int), Replace := true, Allowed := ([] : (List TPrefix)) } : TPeerChange)] : (List TPeerChange))) (rs := [(none, 0)]) (fs1 := [Fk (α := TPeerChange) true ({ Key := (lat y8 x4).Key, Remove := false, Update := true, HasPsk := false, Psk := (Vector.replicate 32 (0 : UInt8)), HasEnd := false, End := TEndpoint_zero, HasKeep := false, Keep := (0 : Int), Replace := true, Allowed := ([] : (List TPrefix)) } : TPeerChange) (none, 0)]) ⟨rfl, rfl, trivial⟩ rfl ⟨⟨0, rfl⟩, trivial⟩ (fun _ _ hf => ⟨hf (Fk (α := TPeerChange) true ({ Key := (lat y8 x4).Key, Remove := false, Update := true, HasPsk := false, Psk := (Vector.replicate 32 (0 : UInt8)), HasEnd := false, End := TEndpoint_zero, HasKeep := false, Keep := (0 : Int), Replace := true, Allowed := ([] : (List TPrefix)) } : TPeerChange) (none, 0)) (by simp) rfl, trivial⟩) (by kernel_rfl)) fun q20 => GL.l rfl (LX.append (xs := x5.Peers) (ys := ([({ Key := (lat y8 x4).Key, Remove := false, Update := true, HasPsk := false, Psk := (Vector.replicate 32 (0 : UInt8)), HasEnd := false, End := TEndpoint_zero, HasKeep := false, Keep := (0 : Int), Replace := true, Allowed := ([] : (List TPrefix)) } : TPeerChange)] : (List TPeerChange))) (r := q15) (s := (q20, 1)) Try.underlying30 2 2 0 rfl rfl rfl rfl rfl h.1) fun q21 => GL.u (QE.fa rfl) rfl <| GL.l rfl (LX.st (β := (List TPeerChange)) (z := x5.Peers ++ ([({ Key := (lat y8 x4).Key, Remove := false, Update := true, HasPsk := false, Psk := (Vector.replicate 32 (0 : UInt8)), HasEnd := false, End := TEndpoint_zero, HasKeep := false, Keep := (0 : Int), Replace := true, Allowed := ([] : (List TPrefix)) } : TPeerChange)] : (List TPeerChange))) (s := q21) 3 TRequest_l_Peers rfl rfl rfl) fun _ => GL.fact (Fk (α := TRequest) true { x5 with Peers := x5.Peers ++ ([({ Key := (lat y8 x4).Key, Remove := false, Update := true, HasPsk := false, Psk := (Vector.replicate 32 (0 : UInt8)), HasEnd := false, End := TEndpoint_zero, HasKeep := false, Keep := (0 : Int), Replace := true, Allowed := ([] : (List TPrefix)) } : TPeerChange)] : (List TPeerChange)) } q21) (fun _ _ hf _ => ((TRequest_l_Peers).oks (y := (x5.Peers ++ ([({ Key := (lat y8 x4).Key, Remove := false, Update := true, HasPsk := false, Psk := (Vector.replicate 32 (0 : UInt8)), HasEnd := false, End := TEndpoint_zero, HasKeep := false, Keep := (0 : Int), Replace := true, Allowed := ([] : (List TPrefix)) } : TPeerChange)] : (List TPeerChange)) : (List TPeerChange))) (s := q21) (hf 15 rfl rfl) (hf 0 rfl rfl) :)) <| GL.nil (GC.weaken (hj2 _ q21 h.2) ⟨rfl, rfl, rfl, rfl, rfl, rfl, rfl, trivial⟩ ⟨⟨12, rfl⟩, ⟨13, rfl⟩, ⟨14, rfl⟩, ⟨15, rfl⟩, ⟨0, rfl⟩, trivial⟩ [2, 3, 4, 5] (by decide) ⟨rfl, rfl, rfl, rfl, trivial⟩))
          · replace h := h.2 hb
            exact GC.skip (GC.weaken (hj2 _ q15 h) ⟨rfl, rfl, rfl, rfl, rfl, rfl, rfl, trivial⟩ ⟨⟨7, rfl⟩, ⟨8, rfl⟩, ⟨9, rfl⟩, ⟨10, rfl⟩, ⟨11, rfl⟩, trivial⟩ [1, 2, 3, 4] (by decide) ⟨rfl, rfl, rfl, rfl, trivial⟩)
        · replace h := h.2 hb
          refine GC.exitK (fun _ _ => rfl) ?_
          refine GC.seq ?_
          refine GC.seq ?_
          refine GC.region (GL.u (QE.fa rfl) rfl <| GL.u (QE.ld 3 TConf_l_Peers rfl rfl) rfl <| GL.fact (Fk (α := (List TPeer)) true p1.Peers r1) (fun _ _ hf _ => (TConf_l_Peers.okg (hf 2 rfl rfl) :)) <| GL.u (QE.len rfl (run_underlying Try.underlying25)) rfl <| GL.u (QE.move rfl) rfl <| GL.nilK (fun _ _ => rfl) ?_)
          refine GC.block ?_
          refine GC.loop ?_
          refine GLoop.weaken (h (fun x7 x8 => ∀ (q22 : R.Raw TRequest), GLoop _ _ [(4, true, .pointer (some ⟨b3, 0, none⟩)), (5, true, .pointer (some ⟨b4, 0, none⟩)), (6, true, V (α := (Mp (Vector UInt8 32) TPeer)) y6 q6), (96, true, V (α := (List TPeer)) p1.Peers r1), (97, true, V (α := Int) (p1.Peers.length : Int) ()), (98, true, V (α := Int) x7 ())] [Fk (α := (Mp (Vector UInt8 32) TPeer)) true y6 q6, Fk (α := (List TPeer)) true p1.Peers r1, Fk (α := TRequest) true TRequest_zero (none, 0), Fk (α := TRequest) true x8 q22] [tp 47 (R.size TPeerChange) (List.length x8.Peers) (q22).1 (q22).2, bx (α := TRequest) x8 q22 b4 32, bx (α := TRequest) TRequest_zero (none, 0) b3 32] _) (fun x7 x8 h => ?_) q15) ⟨rfl, rfl, rfl, rfl, rfl, rfl, trivial⟩ ⟨⟨1, rfl⟩, ⟨0, rfl⟩, ⟨4, rfl⟩, ⟨5, rfl⟩, trivial⟩ [0, 1, 2] (by decide) ⟨rfl, rfl, rfl, trivial⟩
          intro q22
          refine GLoop.round ?_
          refine GC.seq ?_
          refine GC.region (GL.u (QE.cmp rfl rfl) rfl <| GL.nilK (fun _ _ => rfl) ?_)
          refine GC.seq ?_
          refine GC.cond rfl (fun hb => ?_) (fun hb => ?_)
          · replace h := h.1 hb
            refine GC.skipK (fun _ _ => rfl) ?_
            refine GC.seq ?_
            refine GC.block ?_
            refine GC.seq ?_
            refine GC.region (GL.ux (QX.ias (xs := p1.Peers) (r := r1) 1 rfl rfl rfl (fun _ => h.1)) rfl fun d3 => GL.ux (QX.ld 0 rfl rfl) rfl fun q23 => GL.l rfl (LX.alloc (y := TPeer_zero) (r := (none, 0))) fun b8 => GL.fact (Fk (α := TPeer) true TPeer_zero (none, 0)) (fun _ _ _ _ => .inl rfl) <| GL.l rfl (LX.st (β := TPeer) (z := lat p1.Peers x7) (s := q23) 0 Lens.id rfl rfl rfl) fun _ => GL.nilK (fun _ _ => rfl) ?_)
            refine GC.seq ?_
            refine GC.region (GL.u (QE.move rfl) rfl <| GL.u (QE.fa rfl) rfl <| GL.u (QE.ld 0 TPeer_l_Key rfl rfl) rfl <| GL.ux (QX.lookF (κ := (Vector UInt8 32)) (β := TPeer) (k := (lat p1.Peers x7).Key) (z := TPeer_zero) (zr := (none, 0)) 3 rfl rfl rfl (fun _ _ => .inl rfl)) rfl fun q24 => GL.u (QE.move rfl) rfl <| GL.u (QE.extract rfl rfl) rfl <| GL.u (QE.extract rfl rfl) rfl <| GL.l rfl (LX.alloc (y := TPeer_zero) (r := (none, 0))) fun b9 => GL.fact (Fk (α := TPeer) true TPeer_zero (none, 0)) (fun _ _ _ _ => .inl rfl) <| GL.l rfl (LX.st (β := TPeer) (z := mval y6.l ((lat p1.Peers x7).Key) TPeer_zero) (s := q24) 0 Lens.id rfl rfl rfl) fun _ => GL.u (QE.assign rfl) rfl <| GL.nilK (fun _ _ => rfl) ?_)
            refine GC.seq ?_
            refine GC.region (GL.u (QE.ld 0 Lens.id rfl rfl) rfl <| GL.u (QE.ld 1 Lens.id rfl rfl) rfl <| GL.u (QE.move rfl) rfl <| GL.u (QE.not rfl) rfl <| GL.l rfl (LX.call (.cons rfl (fun _ => rfl) (.cons rfl (fun _ => rfl) (.cons rfl (fun _ => rfl) .nil))) (fun _ => differ_change.ok h.2) (fun h => by cases h) (.cons 1 rfl (fun _ => rfl) (.cons 3 rfl (fun _ => rfl) .nil))) fun ⟨⟨y10, h⟩, q25⟩ => GL.u (QE.move rfl) rfl <| GL.u (QE.extract rfl rfl) rfl <| GL.u (QE.extract rfl rfl) rfl <| GL.l rfl (LX.alloc (y := TPeerChange_zero) (r := (none, 0))) fun b10 => GL.fact (Fk (α := TPeerChange) true TPeerChange_zero (none, 0)) (fun _ _ _ _ => .inl rfl) <| GL.l rfl (LX.st (β := TPeerChange) (z := y10.1) (s := q25.1) 0 Lens.id rfl rfl rfl) fun _ => GL.u (QE.assign rfl) rfl <| GL.nilK (fun _ _ => rfl) ?_)
            refine GC.seq ?_
            refine GC.region (GL.u (QE.move rfl) rfl <| GL.nilK (fun _ _ => rfl) ?_)
            obtain ⟨J3, hj3W, h⟩ := WJ.open h
            refine GC.joinAt (fun _ _ => rfl) (fun cx Q c => ∀ (x9 : TRequest) (q26 : R.Raw TRequest), J3 x9 → GC cx Q [(4, true, .pointer (some ⟨b3, 0, none⟩)), (5, true, .pointer (some ⟨b4, 0, none⟩)), (6, true, V (α := (Mp (Vector UInt8 32) TPeer)) y6 q6), (96, true, V (α := (List TPeer)) p1.Peers r1), (97, true, V (α := Int) (p1.Peers.length : Int) ()), (98, true, V (α := Int) x7 ())] [Fk (α := (Mp (Vector UInt8 32) TPeer)) true y6 q6, Fk (α := (List TPeer)) true p1.Peers r1, Fk (α := TRequest) true TRequest_zero (none, 0), Fk (α := TRequest) true x9 q26] [tp 47 (R.size TPeerChange) (List.length x9.Peers) (q26).1 (q26).2, bx (α := TRequest) x9 q26 b4 32, bx (α := TRequest) TRequest_zero (none, 0) b3 32] c) ?_ (fun hj3 => ?_)
            · intro x9 q26 h
              rw [hj3W] at h
              exact GC.region (GL.u (QE.ar rfl rfl) rfl <| GL.u (QE.move rfl) rfl <| GL.nil (GLoop.weaken (h q26) ⟨rfl, rfl, rfl, rfl, rfl, rfl, trivial⟩ ⟨⟨0, rfl⟩, ⟨1, rfl⟩, ⟨2, rfl⟩, ⟨3, rfl⟩, trivial⟩ [0, 1, 2] (by decide) ⟨rfl, rfl, rfl, trivial⟩))
            refine GC.cond rfl (fun hb => ?_) (fun hb => ?_)
            · replace h := h.1 hb
              exact GC.region (GL.u (QE.fa rfl) rfl <| GL.u (QE.ld 4 TRequest_l_Peers rfl rfl) rfl <| GL.fact (Fk (α := (List TPeerChange)) true x8.Peers q22) (fun _ _ hf _ => (TRequest_l_Peers.okg (hf 11 rfl rfl) :)) <| GL.u (QE.ld 0 Lens.id rfl rfl) rfl <| GL.l rfl (LX.lit (xs := ([y10.1] : (List TPeerChange))) (rs := [q25.1]) (fs1 := [Fk (α := TPeerChange) true y10.1 q25.1]) ⟨rfl, rfl, trivial⟩ rfl ⟨⟨2, rfl⟩, trivial⟩ (fun _ _ hf => ⟨hf (Fk (α := TPeerChange) true y10.1 q25.1) (by simp) rfl, trivial⟩) (by kernel_rfl)) fun q27 => GL.l rfl (LX.append (xs := x8.Peers) (ys := ([y10.1] : (List TPeerChange))) (r := q22) (s := (q27, 1)) Try.underlying30 4 1 0 rfl rfl rfl rfl rfl h.1) fun q28 => GL.u (QE.fa rfl) rfl <| GL.l rfl (LX.st (β := (List TPeerChange)) (z := x8.Peers ++ ([y10.1] : (List TPeerChange))) (s := q28) 5 TRequest_l_Peers rfl rfl rfl) fun _ => GL.fact (Fk (α := TRequest) true { x8 with Peers := x8.Peers ++ ([y10.1] : (List TPeerChange)) } q28) (fun _ _ hf _ => ((TRequest_l_Peers).oks (y := (x8.Peers ++ ([y10.1] : (List TPeerChange)) : (List TPeerChange))) (s := q28) (hf 14 rfl rfl) (hf 0 rfl rfl) :)) <| GL.nil (GC.weaken (hj3 _ q28 h.2) ⟨rfl, rfl, rfl, rfl, rfl, rfl, trivial⟩ ⟨⟨12, rfl⟩, ⟨13, rfl⟩, ⟨14, rfl⟩, ⟨0, rfl⟩, trivial⟩ [4, 5, 6] (by decide) ⟨rfl, rfl, rfl, trivial⟩))
            · replace h := h.2 hb
              exact GC.skip (GC.weaken (hj3 _ q22 h) ⟨rfl, rfl, rfl, rfl, rfl, rfl, trivial⟩ ⟨⟨8, rfl⟩, ⟨9, rfl⟩, ⟨10, rfl⟩, ⟨11, rfl⟩, trivial⟩ [3, 4, 5] (by decide) ⟨rfl, rfl, rfl, trivial⟩)
          · replace h := h.2 hb
            refine GC.exitK (fun _ _ => rfl) ?_
            refine GC.seq ?_
            refine GC.region (GL.u (QE.ld 1 Lens.id rfl rfl) rfl <| GL.l rfl (LX.st (β := TRequest) (z := x8) (s := q22) 2 Lens.id rfl rfl rfl) fun _ => GL.nilK (fun _ _ => rfl) ?_)
            exact GC.ret (ret1 rfl (y1 := x8) (s1 := q22) (RV.cell 2 rfl rfl) (RO.fact 3 rfl) h)

theorem differ_Empty.ok {p0 : TRequest} {r0 : R.Raw TRequest} {K : Bool → Prop} (h : differ_Empty.W p0 K) : Ct P 9 [V p0 r0] [Fk (α := TRequest) true p0 r0] K := by
  unfold differ_Empty.W at h
  refine Ct.of (n := 27) Try.func9 rfl rfl rfl fun w0 m0 => ?_
  refine GC.seq ?_
  refine GC.region (GL.l rfl (LX.box (y := p0) (r := r0) rfl) fun b1 => GL.u (QE.assign rfl) rfl <| GL.nilK (fun _ _ => rfl) ?_)
  refine GC.seq ?_
  refine GC.region (GL.u (QE.fa rfl) rfl <| GL.u (QE.ld 0 TRequest_l_HasPrivate rfl rfl) rfl <| GL.u (QE.not rfl) rfl <| GL.u (QE.move rfl) rfl <| GL.g ⟨_, _, _, rfl, rfl, rfl⟩ (QE.fa rfl) rfl <| GL.g ⟨_, _, _, rfl, rfl, rfl⟩ (QE.ld 0 TRequest_l_HasPort rfl rfl) rfl <| GL.g ⟨_, _, _, rfl, rfl, rfl⟩ (QE.not rfl) rfl <| GL.u (QE.and rfl rfl) rfl <| GL.u (QE.move rfl) rfl <| GL.g ⟨_, _, _, rfl, rfl, rfl⟩ (QE.fa rfl) rfl <| GL.g ⟨_, _, _, rfl, rfl, rfl⟩ (QE.ld 0 TRequest_l_HasMark rfl rfl) rfl <| GL.g ⟨_, _, _, rfl, rfl, rfl⟩ (QE.not rfl) rfl <| GL.u (QE.and rfl rfl) rfl <| GL.u (QE.move rfl) rfl <| GL.g ⟨_, _, _, rfl, rfl, rfl⟩ (QE.fa rfl) rfl <| GL.g ⟨_, _, _, rfl, rfl, rfl⟩ (QE.ld 0 TRequest_l_Replace rfl rfl) rfl <| GL.g ⟨_, _, _, rfl, rfl, rfl⟩ (QE.not rfl) rfl <| GL.u (QE.and rfl rfl) rfl <| GL.u (QE.move rfl) rfl <| GL.g ⟨_, _, _, rfl, rfl, rfl⟩ (QE.fa rfl) rfl <| GL.g ⟨_, _, _, rfl, rfl, rfl⟩ (QE.ld 0 TRequest_l_Peers rfl rfl) rfl <| GL.fact (Fk (α := (List TPeerChange)) true p0.Peers r0) (fun _ _ hf _ => (TRequest_l_Peers.okg (hf 0 rfl rfl) :)) <| GL.g ⟨_, _, _, rfl, rfl, rfl⟩ (QE.len rfl (run_underlying Try.underlying30)) rfl <| GL.g ⟨_, _, _, rfl, rfl, rfl⟩ (QE.cmp rfl rfl) rfl <| GL.u (QE.and rfl rfl) rfl <| GL.u (QE.assign rfl) rfl <| GL.nilK (fun _ _ => rfl) ?_)
  exact GC.ret (ret1 rfl (y1 := ((((!p0.HasPrivate) && (!p0.HasPort)) && (!p0.HasMark)) && (!p0.Replace)) && (cmpI .eql (p0.Peers.length : Int) 0)) (s1 := ()) (RV.tmp rfl) (RO.flat fun _ _ _ => trivial) h)

theorem l35_alive.ok  {K : Bool → Prop} (h : l35_alive.W  K) : Ct P 5 [] [] K := by
  unfold l35_alive.W at h
  refine Ct.of (n := 37) Try.func5 rfl rfl rfl fun w0 m0 => ?_
  refine GC.seq ?_
  refine GC.region (GL.u (QE.assign rfl) rfl <| GL.nilK (fun _ _ => rfl) ?_)
  refine GC.seq ?_
  refine GC.region (GL.u (QE.buildV (x := vset (Vector.replicate 32 (0 : UInt8)) 0 (1 : UInt8)) (.cons rfl (fun _ => rfl) .nil) (.cons (Lens.vec 0 (by decide)) ((1 : UInt8)) () rfl rfl (.nil _ _))) rfl <| GL.u (QE.build (x := ({ Key := vset (Vector.replicate 32 (0 : UInt8)) 0 (1 : UInt8), Psk := (Vector.replicate 32 (0 : UInt8)), End := TEndpoint_zero, Keep := (0 : Int), Sent := (0 : UInt64), Got := (0 : UInt64), Allowed := ([] : (List TPrefix)) } : TPeer)) (r := (none, 0)) (.cons rfl (fun _ => rfl) .nil) (.cons TPeer_l_Key (vset (Vector.replicate 32 (0 : UInt8)) 0 (1 : UInt8)) () rfl rfl (.nil _ _))) rfl <| GL.fact (Fk (α := TPeer) true ({ Key := vset (Vector.replicate 32 (0 : UInt8)) 0 (1 : UInt8), Psk := (Vector.replicate 32 (0 : UInt8)), End := TEndpoint_zero, Keep := (0 : Int), Sent := (0 : UInt64), Got := (0 : UInt64), Allowed := ([] : (List TPrefix)) } : TPeer) (none, 0)) (fun _ _ hf _ => .inl rfl) <| GL.l rfl (LX.lit (xs := ([({ Key := vset (Vector.replicate 32 (0 : UInt8)) 0 (1 : UInt8), Psk := (Vector.replicate 32 (0 : UInt8)), End := TEndpoint_zero, Keep := (0 : Int), Sent := (0 : UInt64), Got := (0 : UInt64), Allowed := ([] : (List TPrefix)) } : TPeer)] : (List TPeer))) (rs := [(none, 0)]) (fs1 := [Fk (α := TPeer) true ({ Key := vset (Vector.replicate 32 (0 : UInt8)) 0 (1 : UInt8), Psk := (Vector.replicate 32 (0 : UInt8)), End := TEndpoint_zero, Keep := (0 : Int), Sent := (0 : UInt64), Got := (0 : UInt64), Allowed := ([] : (List TPrefix)) } : TPeer) (none, 0)]) ⟨rfl, rfl, trivial⟩ rfl ⟨⟨0, rfl⟩, trivial⟩ (fun _ _ hf => ⟨hf (Fk (α := TPeer) true ({ Key := vset (Vector.replicate 32 (0 : UInt8)) 0 (1 : UInt8), Psk := (Vector.replicate 32 (0 : UInt8)), End := TEndpoint_zero, Keep := (0 : Int), Sent := (0 : UInt64), Got := (0 : UInt64), Allowed := ([] : (List TPrefix)) } : TPeer) (none, 0)) (by simp) rfl, trivial⟩) (by kernel_rfl)) fun q1 => GL.u (QE.build (x := ({ Private := (Vector.replicate 32 (0 : UInt8)), Port := (0 : Int), Mark := (0 : UInt32), Peers := ([({ Key := vset (Vector.replicate 32 (0 : UInt8)) 0 (1 : UInt8), Psk := (Vector.replicate 32 (0 : UInt8)), End := TEndpoint_zero, Keep := (0 : Int), Sent := (0 : UInt64), Got := (0 : UInt64), Allowed := ([] : (List TPrefix)) } : TPeer)] : (List TPeer)) } : TConf)) (r := (q1, 1)) (.cons rfl (fun _ => rfl) .nil) (.cons TConf_l_Peers (([({ Key := vset (Vector.replicate 32 (0 : UInt8)) 0 (1 : UInt8), Psk := (Vector.replicate 32 (0 : UInt8)), End := TEndpoint_zero, Keep := (0 : Int), Sent := (0 : UInt64), Got := (0 : UInt64), Allowed := ([] : (List TPrefix)) } : TPeer)] : (List TPeer))) (q1, 1) rfl rfl (.nil _ _))) rfl <| GL.fact (Fk (α := TConf) true ({ Private := (Vector.replicate 32 (0 : UInt8)), Port := (0 : Int), Mark := (0 : UInt32), Peers := ([({ Key := vset (Vector.replicate 32 (0 : UInt8)) 0 (1 : UInt8), Psk := (Vector.replicate 32 (0 : UInt8)), End := TEndpoint_zero, Keep := (0 : Int), Sent := (0 : UInt64), Got := (0 : UInt64), Allowed := ([] : (List TPrefix)) } : TPeer)] : (List TPeer)) } : TConf) (q1, 1)) (fun _ _ hf _ => hf 0 rfl rfl) <| GL.u (QE.build (x := ({ Private := (Vector.replicate 32 (0 : UInt8)), Port := (0 : Int), Mark := (0 : UInt32), Peers := ([] : (List TPeer)) } : TConf)) (r := (none, 0)) .nil (.nil _ _)) rfl <| GL.fact (Fk (α := TConf) true ({ Private := (Vector.replicate 32 (0 : UInt8)), Port := (0 : Int), Mark := (0 : UInt32), Peers := ([] : (List TPeer)) } : TConf) (none, 0)) (fun _ _ hf _ => .inl rfl) <| GL.l rfl (LX.call (.cons rfl (fun _ => rfl) (.cons rfl (fun _ => rfl) .nil)) (fun _ => differ_Patch.ok h) (fun h => by cases h) (.cons 1 rfl (fun _ => rfl) (.cons 0 rfl (fun _ => rfl) .nil))) fun ⟨⟨y1, h⟩, q2⟩ => GL.l rfl (LX.alloc (y := TRequest_zero) (r := (none, 0))) fun b1 => GL.fact (Fk (α := TRequest) true TRequest_zero (none, 0)) (fun _ _ _ _ => .inl rfl) <| GL.l rfl (LX.st (β := TRequest) (z := y1) (s := q2) 0 Lens.id rfl rfl rfl) fun _ => GL.nilK (fun _ _ => rfl) ?_)
  refine GC.seq ?_
  refine GC.region (GL.u (QE.fa rfl) rfl <| GL.u (QE.ld 0 TRequest_l_Peers rfl rfl) rfl <| GL.fact (Fk (α := (List TPeerChange)) true y1.Peers q2) (fun _ _ hf _ => (TRequest_l_Peers.okg (hf 1 rfl rfl) :)) <| GL.u (QE.len rfl (run_underlying Try.underlying30)) rfl <| GL.u (QE.cmp rfl rfl) rfl <| GL.u (QE.move rfl) rfl <| GL.g ⟨_, _, _, rfl, rfl, rfl⟩ (QE.fa rfl) rfl <| GL.g ⟨_, _, _, rfl, rfl, rfl⟩ (QE.ld 0 TRequest_l_Peers rfl rfl) rfl <| GL.gx ⟨_, _, _, rfl, rfl, rfl⟩ (QX.ias (xs := y1.Peers) (r := q2) 0 rfl rfl rfl h.1) rfl fun d1 => GL.gx ⟨_, _, _, rfl, rfl, rfl⟩ (QX.fa 0 TPeerChange_l_Remove rfl rfl) rfl fun d2 => GL.gx ⟨_, _, _, rfl, rfl, rfl⟩ (QX.ld 0 rfl rfl) rfl fun q3 => GL.u (QE.and rfl rfl) rfl <| GL.u (QE.move rfl) rfl <| GL.g ⟨_, _, _, rfl, rfl, rfl⟩ (QE.fa rfl) rfl <| GL.g ⟨_, _, _, rfl, rfl, rfl⟩ (QE.ld 0 TRequest_l_Peers rfl rfl) rfl <| GL.gx ⟨_, _, _, rfl, rfl, rfl⟩ (QX.ias (xs := y1.Peers) (r := q2) 3 rfl rfl rfl h.2.1) rfl fun d3 => GL.gx ⟨_, _, _, rfl, rfl, rfl⟩ (QX.fa 0 TPeerChange_l_Key rfl rfl) rfl fun d4 => GL.gx ⟨_, _, _, rfl, rfl, rfl⟩ (QX.ld 0 rfl rfl) rfl fun q4 => GL.g ⟨_, _, _, rfl, rfl, rfl⟩ (QE.buildV (x := vset (Vector.replicate 32 (0 : UInt8)) 0 (1 : UInt8)) (.cons rfl (fun _ => rfl) .nil) (.cons (Lens.vec 0 (by decide)) ((1 : UInt8)) () rfl rfl (.nil _ _))) rfl <| GL.g ⟨_, _, _, rfl, rfl, rfl⟩ (QE.eqA (α := (Vector UInt8 32)) (a := (lat y1.Peers 0).Key) (b := vset (Vector.replicate 32 (0 : UInt8)) 0 (1 : UInt8)) (r := ()) (s := ()) rfl rfl) rfl <| GL.u (QE.and rfl rfl) rfl <| GL.u (QE.move rfl) rfl <| GL.g ⟨_, _, _, rfl, rfl, rfl⟩ (QE.build (x := ({ HasPrivate := false, Private := (Vector.replicate 32 (0 : UInt8)), HasPort := false, Port := (0 : Int), HasMark := false, Mark := (0 : UInt32), Replace := false, Peers := ([] : (List TPeerChange)) } : TRequest)) (r := (none, 0)) .nil (.nil _ _)) rfl <| GL.fact (Fk (α := TRequest) true ({ HasPrivate := false, Private := (Vector.replicate 32 (0 : UInt8)), HasPort := false, Port := (0 : Int), HasMark := false, Mark := (0 : UInt32), Replace := false, Peers := ([] : (List TPeerChange)) } : TRequest) (none, 0)) (fun _ _ hf _ => .inl rfl) <| GL.l ⟨_, _, _, rfl, rfl, rfl⟩ (LX.call (.cons rfl (fun h => h) .nil) (fun hg => differ_Empty.ok (h.2.2.1 hg)) (fun hg => h.2.2.2 hg) (.cons 0 rfl (fun _ => rfl) .nil)) fun ⟨⟨y2, h⟩, q5⟩ => GL.u (QE.and rfl rfl) rfl <| GL.u (QE.move rfl) rfl <| GL.g ⟨_, _, _, rfl, rfl, rfl⟩ (QE.ld 0 Lens.id rfl rfl) rfl <| GL.l ⟨_, _, _, rfl, rfl, rfl⟩ (LX.call (.cons rfl (fun h => h) .nil) (fun hg => differ_Empty.ok (h.1 hg)) (fun hg => h.2 hg) (.cons 10 rfl (fun _ => rfl) .nil)) fun ⟨⟨y3, h⟩, q6⟩ => GL.g ⟨_, _, _, rfl, rfl, rfl⟩ (QE.not rfl) rfl <| GL.u (QE.and rfl rfl) rfl <| GL.u (QE.assign rfl) rfl <| GL.nilK (fun _ _ => rfl) ?_)
  exact GC.ret (ret1 rfl (y1 := ((((cmpI .eql (y1.Peers.length : Int) 1) && ((lat y1.Peers 0).Remove)) && (decide ((lat y1.Peers 0).Key = vset (Vector.replicate 32 (0 : UInt8)) 0 (1 : UInt8)))) && y2) && (!y3)) (s1 := ()) (RV.tmp rfl) (RO.flat fun _ _ _ => trivial) h)

theorem r34_from.ok {p0 : Int} {K : Bool → Prop} (h : r34_from.W p0 K) : Ct P 25 [V p0 ()] [] K := by
  unfold r34_from.W at h
  refine Ct.of (n := 9) Try.func25 rfl rfl rfl fun w0 m0 => ?_
  refine GC.seq ?_
  refine GC.region (GL.u (QE.assign rfl) rfl <| GL.nilK (fun _ _ => rfl) ?_)
  refine GC.seq ?_
  refine GC.region (GL.u (QE.move rfl) rfl <| GL.u (QE.cmp rfl rfl) rfl <| GL.u (QE.move rfl) rfl <| GL.g ⟨_, _, _, rfl, rfl, rfl⟩ (QE.move rfl) rfl <| GL.g ⟨_, _, _, rfl, rfl, rfl⟩ (QE.cmp rfl rfl) rfl <| GL.u (QE.and rfl rfl) rfl <| GL.u (QE.assign rfl) rfl <| GL.nilK (fun _ _ => rfl) ?_)
  exact GC.ret (ret1 rfl (y1 := (cmpI .geq p0 0) && (cmpI .leq p0 65535)) (s1 := ()) (RV.tmp rfl) (RO.flat fun _ _ _ => trivial) h)

theorem r10_Right.ok {p0 : TAddr} {K : Bool → Prop} (h : r10_Right.W p0 K) : Ct P 37 [V p0 ()] [] K := by
  unfold r10_Right.W at h
  refine Ct.of (n := 19) Try.func37 rfl rfl rfl fun w0 m0 => ?_
  refine GC.seq ?_
  refine GC.region (GL.l rfl (LX.box (y := p0) (r := ()) rfl) fun b1 => GL.u (QE.assign rfl) rfl <| GL.nilK (fun _ _ => rfl) ?_)
  refine GC.seq ?_
  refine GC.seq ?_
  refine GC.region (GL.u (QE.fa rfl) rfl <| GL.u (QE.ld 0 TAddr_l_V rfl rfl) rfl <| GL.u (QE.cmp rfl rfl) rfl <| GL.nilK (fun _ _ => rfl) ?_)
  refine GC.cond rfl (fun hb => ?_) (fun hb => ?_)
  · replace h := h.1 hb
    refine GC.seq ?_
    refine GC.region (GL.u (QE.assign rfl) rfl <| GL.nilK (fun _ _ => rfl) ?_)
    exact GC.ret (ret1 rfl (y1 := true) (s1 := ()) (RV.tmp rfl) (RO.flat fun _ _ _ => trivial) h)
  · replace h := h.2 hb
    refine GC.skipK (fun _ _ => rfl) ?_
    refine GC.seq ?_
    refine GC.seq ?_
    refine GC.region (GL.u (QE.assign rfl) rfl <| GL.nilK (fun _ _ => rfl) ?_)
    refine GC.block ?_
    refine GC.loop ?_
    refine GLoop.weaken (h (fun x1 => GLoop _ _ [(1, true, .pointer (some ⟨b1, 0, none⟩)), (3, true, V (α := Int) x1 ())] [] [bx (α := TAddr) p0 () b1 39] _) (fun x1 h => ?_)) ⟨rfl, rfl, trivial⟩ trivial [0] (by decide) ⟨rfl, trivial⟩
    refine GLoop.round ?_
    refine GC.seq ?_
    refine GC.seq ?_
    refine GC.region (GL.u (QE.move rfl) rfl <| GL.u (QE.cmp rfl rfl) rfl <| GL.nilK (fun _ _ => rfl) ?_)
    refine GC.cond rfl (fun hb => ?_) (fun hb => ?_)
    · replace h := h.1 hb
      refine GC.skipK (fun _ _ => rfl) ?_
      refine GC.seq ?_
      refine GC.block ?_
      refine GC.seq ?_
      refine GC.region (GL.u (QE.move rfl) rfl <| GL.u (QE.fa rfl) rfl <| GL.u (QE.ia rfl rfl (fun _ => h.1)) rfl <| GL.u (QE.ld 0 (TAddr_l_B.comp (Lens.vec x1 (h.1))) rfl rfl) rfl <| GL.u (QE.cmp rfl rfl) rfl <| GL.nilK (fun _ _ => rfl) ?_)
      refine GC.cond rfl (fun hb => ?_) (fun hb => ?_)
      · replace h := h.2.1 hb
        refine GC.seq ?_
        refine GC.region (GL.u (QE.assign rfl) rfl <| GL.nilK (fun _ _ => rfl) ?_)
        exact GC.ret (ret1 rfl (y1 := false) (s1 := ()) (RV.tmp rfl) (RO.flat fun _ _ _ => trivial) h)
      · replace h := h.2.2 hb
        refine GC.skipK (fun _ _ => rfl) ?_
        exact GC.region (GL.u (QE.move rfl) rfl <| GL.u (QE.ar rfl rfl) rfl <| GL.u (QE.assign rfl) rfl <| GL.nil (GLoop.weaken h ⟨rfl, rfl, trivial⟩ trivial [0] (by decide) ⟨rfl, trivial⟩))
    · replace h := h.2 hb
      refine GC.exitK (fun _ _ => rfl) ?_
      refine GC.seq ?_
      refine GC.region (GL.u (QE.fa rfl) rfl <| GL.u (QE.ld 0 TAddr_l_V rfl rfl) rfl <| GL.u (QE.cmp rfl rfl) rfl <| GL.u (QE.assign rfl) rfl <| GL.nilK (fun _ _ => rfl) ?_)
      exact GC.ret (ret1 rfl (y1 := cmpI .eql p0.V 4) (s1 := ()) (RV.tmp rfl) (RO.flat fun _ _ _ => trivial) h)

theorem r12_Right.ok {p0 : TEndpoint} {K : Bool → Prop} (h : r12_Right.W p0 K) : Ct P 26 [V p0 ()] [] K := by
  unfold r12_Right.W at h
  refine Ct.of (n := 16) Try.func26 rfl rfl rfl fun w0 m0 => ?_
  refine GC.seq ?_
  refine GC.region (GL.l rfl (LX.box (y := p0) (r := ()) rfl) fun b1 => GL.u (QE.assign rfl) rfl <| GL.nilK (fun _ _ => rfl) ?_)
  refine GC.seq ?_
  refine GC.region (GL.u (QE.fa rfl) rfl <| GL.u (QE.ld 0 TEndpoint_l_A rfl rfl) rfl <| GL.l rfl (LX.call (.cons rfl (fun _ => rfl) .nil) (fun _ => r10_Right.ok h) (fun h => by cases h) .nil) fun ⟨⟨y1, h⟩, q1⟩ => GL.u (QE.move rfl) rfl <| GL.g ⟨_, _, _, rfl, rfl, rfl⟩ (QE.fa rfl) rfl <| GL.g ⟨_, _, _, rfl, rfl, rfl⟩ (QE.ld 0 TEndpoint_l_Port rfl rfl) rfl <| GL.g ⟨_, _, _, rfl, rfl, rfl⟩ (QE.cmp rfl rfl) rfl <| GL.u (QE.and rfl rfl) rfl <| GL.u (QE.move rfl) rfl <| GL.g ⟨_, _, _, rfl, rfl, rfl⟩ (QE.fa rfl) rfl <| GL.g ⟨_, _, _, rfl, rfl, rfl⟩ (QE.ld 0 TEndpoint_l_Port rfl rfl) rfl <| GL.g ⟨_, _, _, rfl, rfl, rfl⟩ (QE.cmp rfl rfl) rfl <| GL.u (QE.and rfl rfl) rfl <| GL.u (QE.assign rfl) rfl <| GL.nilK (fun _ _ => rfl) ?_)
  exact GC.ret (ret1 rfl (y1 := (y1 && (cmpI .geq p0.Port 1)) && (cmpI .leq p0.Port 65535)) (s1 := ()) (RV.tmp rfl) (RO.flat fun _ _ _ => trivial) h)

theorem r10_Width.ok {p0 : TAddr} {K : Int → Prop} (h : r10_Width.W p0 K) : Ct P 38 [V p0 ()] [] K := by
  unfold r10_Width.W at h
  refine Ct.of (n := 9) Try.func38 rfl rfl rfl fun w0 m0 => ?_
  refine GC.seq ?_
  refine GC.region (GL.l rfl (LX.box (y := p0) (r := ()) rfl) fun b1 => GL.u (QE.assign rfl) rfl <| GL.nilK (fun _ _ => rfl) ?_)
  refine GC.seq ?_
  refine GC.seq ?_
  refine GC.region (GL.u (QE.ld 0 Lens.id rfl rfl) rfl <| GL.l rfl (LX.call (.cons rfl (fun _ => rfl) .nil) (fun _ => r10_Right.ok h) (fun h => by cases h) .nil) fun ⟨⟨y1, h⟩, q1⟩ => GL.u (QE.not rfl) rfl <| GL.nilK (fun _ _ => rfl) ?_)
  refine GC.cond rfl (fun hb => ?_) (fun hb => ?_)
  · replace h := h.1 hb
    refine GC.seq ?_
    refine GC.region (GL.u (QE.assign rfl) rfl <| GL.nilK (fun _ _ => rfl) ?_)
    exact GC.ret (ret1 rfl (y1 := 0) (s1 := ()) (RV.tmp rfl) (RO.flat fun _ _ _ => trivial) h)
  · replace h := h.2 hb
    refine GC.skipK (fun _ _ => rfl) ?_
    refine GC.seq ?_
    refine GC.seq ?_
    refine GC.region (GL.u (QE.fa rfl) rfl <| GL.u (QE.ld 0 TAddr_l_V rfl rfl) rfl <| GL.u (QE.cmp rfl rfl) rfl <| GL.nilK (fun _ _ => rfl) ?_)
    refine GC.cond rfl (fun hb => ?_) (fun hb => ?_)
    · replace h := h.1 hb
      refine GC.seq ?_
      refine GC.region (GL.u (QE.assign rfl) rfl <| GL.nilK (fun _ _ => rfl) ?_)
      exact GC.ret (ret1 rfl (y1 := 32) (s1 := ()) (RV.tmp rfl) (RO.flat fun _ _ _ => trivial) h)
    · replace h := h.2 hb
      refine GC.skipK (fun _ _ => rfl) ?_
      refine GC.seq ?_
      refine GC.region (GL.u (QE.assign rfl) rfl <| GL.nilK (fun _ _ => rfl) ?_)
      exact GC.ret (ret1 rfl (y1 := 128) (s1 := ()) (RV.tmp rfl) (RO.flat fun _ _ _ => trivial) h)

theorem r10_digit.ok {p0 : TAddr} {p1 : Int} {K : Int → Prop} (h : r10_digit.W p0 p1 K) : Ct P 45 [V p0 (), V p1 ()] [] K := by
  unfold r10_digit.W at h
  refine Ct.of (n := 23) Try.func45 rfl rfl rfl fun w0 m0 => ?_
  refine GC.seq ?_
  refine GC.region (GL.l rfl (LX.box (y := p0) (r := ()) rfl) fun b1 => GL.u (QE.assign rfl) rfl <| GL.nilK (fun _ _ => rfl) ?_)
  refine GC.seq ?_
  refine GC.region (GL.u (QE.move rfl) rfl <| GL.u (QE.div rfl rfl (fun _ => by decide)) rfl <| GL.u (QE.fa rfl) rfl <| GL.u (QE.ia rfl rfl (fun _ => h.1)) rfl <| GL.u (QE.ld 0 (TAddr_l_B.comp (Lens.vec (arI .quo .i64 p1 8) (h.1))) rfl rfl) rfl <| GL.u (QE.convI (α := UInt8) (a := vat p0.B (arI .quo .i64 p1 8)) rfl (by decide) (run_underlying Try.underlying3) ⟨_, run_underlying Try.underlying5⟩) rfl <| GL.u (QE.assign rfl) rfl <| GL.nilK (fun _ _ => rfl) ?_)
  refine GC.seq ?_
  refine GC.seq ?_
  refine GC.region (GL.u (QE.assign rfl) rfl <| GL.nilK (fun _ _ => rfl) ?_)
  refine GC.block ?_
  refine GC.loop ?_
  refine GLoop.weaken (h.2 (fun x1 x2 => GLoop _ _ [(1, true, V (α := Int) p1 ()), (5, true, V (α := Int) x1 ()), (6, true, V (α := Int) x2 ())] [] [] _) (fun x1 x2 h => ?_)) ⟨rfl, rfl, rfl, trivial⟩ trivial [] (by decide) trivial
  refine GLoop.round ?_
  refine GC.seq ?_
  refine GC.seq ?_
  refine GC.region (GL.u (QE.move rfl) rfl <| GL.u (QE.move rfl) rfl <| GL.u (QE.div rfl rfl (fun _ => by decide)) rfl <| GL.u (QE.cmp rfl rfl) rfl <| GL.nilK (fun _ _ => rfl) ?_)
  refine GC.cond rfl (fun hb => ?_) (fun hb => ?_)
  · replace h := h.1 hb
    refine GC.skipK (fun _ _ => rfl) ?_
    refine GC.seq ?_
    refine GC.block ?_
    refine GC.region (GL.u (QE.move rfl) rfl <| GL.u (QE.div rfl rfl (fun _ => by decide)) rfl <| GL.u (QE.assign rfl) rfl <| GL.nilK (fun _ _ => rfl) ?_)
    exact GC.region (GL.u (QE.move rfl) rfl <| GL.u (QE.ar rfl rfl) rfl <| GL.u (QE.assign rfl) rfl <| GL.nil (GLoop.weaken h ⟨rfl, rfl, rfl, trivial⟩ trivial [] (by decide) trivial))
  · replace h := h.2 hb
    refine GC.exitK (fun _ _ => rfl) ?_
    refine GC.seq ?_
    refine GC.region (GL.u (QE.move rfl) rfl <| GL.u (QE.div rfl rfl (fun _ => by decide)) rfl <| GL.u (QE.assign rfl) rfl <| GL.nilK (fun _ _ => rfl) ?_)
    exact GC.ret (ret1 rfl (y1 := arI .rem .i64 x1 2) (s1 := ()) (RV.tmp rfl) (RO.flat fun _ _ _ => trivial) h)

theorem r10_Mask.ok {p0 : TAddr} {p1 : Int} {K : TAddr → Prop} (h : r10_Mask.W p0 p1 K) : Ct P 39 [V p0 (), V p1 ()] [] K := by
  unfold r10_Mask.W at h
  refine Ct.of (n := 54) Try.func39 rfl rfl rfl fun w0 m0 => ?_
  refine GC.seq ?_
  refine GC.region (GL.l rfl (LX.box (y := p0) (r := ()) rfl) fun b1 => GL.l rfl (LX.alloc (y := TAddr_zero) (r := ())) fun b2 => GL.nilK (fun _ _ => rfl) ?_)
  refine GC.seq ?_
  refine GC.seq ?_
  refine GC.region (GL.u (QE.ld 1 Lens.id rfl rfl) rfl <| GL.l rfl (LX.call (.cons rfl (fun _ => rfl) .nil) (fun _ => r10_Right.ok h) (fun h => by cases h) .nil) fun ⟨⟨y1, h⟩, q1⟩ => GL.u (QE.not rfl) rfl <| GL.nilK (fun _ _ => rfl) ?_)
  refine GC.cond rfl (fun hb => ?_) (fun hb => ?_)
  · replace h := h.1 hb
    refine GC.seq ?_
    refine GC.region (GL.u (QE.build (x := ({ V := (0 : Int), B := (Vector.replicate 16 (0 : UInt8)) } : TAddr)) (r := ()) .nil (.nil _ _)) rfl <| GL.l rfl (LX.st (β := TAddr) (z := ({ V := (0 : Int), B := (Vector.replicate 16 (0 : UInt8)) } : TAddr)) (s := ()) 0 Lens.id rfl rfl rfl) fun _ => GL.nilK (fun _ _ => rfl) ?_)
    exact GC.ret (ret1 rfl (y1 := ({ V := (0 : Int), B := (Vector.replicate 16 (0 : UInt8)) } : TAddr)) (s1 := ()) (RV.cell 0 rfl rfl) (RO.flat fun _ _ _ => trivial) h)
  · replace h := h.2 hb
    refine GC.skipK (fun _ _ => rfl) ?_
    refine GC.seq ?_
    refine GC.region (GL.u (QE.fa rfl) rfl <| GL.u (QE.ld 1 TAddr_l_V rfl rfl) rfl <| GL.u (QE.build (x := ({ V := p0.V, B := (Vector.replicate 16 (0 : UInt8)) } : TAddr)) (r := ()) (.cons rfl (fun _ => rfl) .nil) (.cons TAddr_l_V (p0.V) () rfl rfl (.nil _ _))) rfl <| GL.l rfl (LX.alloc (y := TAddr_zero) (r := ())) fun b3 => GL.l rfl (LX.st (β := TAddr) (z := ({ V := p0.V, B := (Vector.replicate 16 (0 : UInt8)) } : TAddr)) (s := ()) 0 Lens.id rfl rfl rfl) fun _ => GL.nilK (fun _ _ => rfl) ?_)
    refine GC.seq ?_
    refine GC.region (GL.u (QE.ld 2 Lens.id rfl rfl) rfl <| GL.l rfl (LX.call (.cons rfl (fun _ => rfl) .nil) (fun _ => r10_Width.ok h) (fun h => by cases h) .nil) fun ⟨⟨y2, h⟩, q2⟩ => GL.u (QE.assign rfl) rfl <| GL.nilK (fun _ _ => rfl) ?_)
    refine GC.seq ?_
    refine GC.seq ?_
    refine GC.region (GL.u (QE.assign rfl) rfl <| GL.nilK (fun _ _ => rfl) ?_)
    refine GC.block ?_
    refine GC.loop ?_
    refine GLoop.weaken (h (fun x1 x2 => GLoop _ _ [(1, true, V (α := Int) p1 ()), (2, true, .pointer (some ⟨b1, 0, none⟩)), (4, true, .pointer (some ⟨b2, 0, none⟩)), (5, true, .pointer (some ⟨b3, 0, none⟩)), (6, true, V (α := Int) y2 ()), (7, true, V (α := Int) x1 ())] [] [bx (α := TAddr) x2 () b3 39, bx (α := TAddr) TAddr_zero () b2 39, bx (α := TAddr) p0 () b1 39] _) (fun x1 x2 h => ?_)) ⟨rfl, rfl, rfl, rfl, rfl, rfl, trivial⟩ trivial [0, 1, 2] (by decide) ⟨rfl, rfl, rfl, trivial⟩
    refine GLoop.round ?_
    refine GC.seq ?_
    refine GC.seq ?_
    refine GC.region (GL.u (QE.move rfl) rfl <| GL.u (QE.move rfl) rfl <| GL.u (QE.cmp rfl rfl) rfl <| GL.u (QE.move rfl) rfl <| GL.g ⟨_, _, _, rfl, rfl, rfl⟩ (QE.move rfl) rfl <| GL.g ⟨_, _, _, rfl, rfl, rfl⟩ (QE.move rfl) rfl <| GL.g ⟨_, _, _, rfl, rfl, rfl⟩ (QE.cmp rfl rfl) rfl <| GL.u (QE.and rfl rfl) rfl <| GL.nilK (fun _ _ => rfl) ?_)
    refine GC.cond rfl (fun hb => ?_) (fun hb => ?_)
    · replace h := h.1 hb
      refine GC.skipK (fun _ _ => rfl) ?_
      refine GC.seq ?_
      refine GC.block ?_
      refine GC.seq ?_
      refine GC.region (GL.u (QE.ld 2 Lens.id rfl rfl) rfl <| GL.u (QE.move rfl) rfl <| GL.l rfl (LX.call (.cons rfl (fun _ => rfl) (.cons rfl (fun _ => rfl) .nil)) (fun _ => r10_digit.ok h) (fun h => by cases h) .nil) fun ⟨⟨y3, h⟩, q3⟩ => GL.u (QE.cmp rfl rfl) rfl <| GL.nilK (fun _ _ => rfl) ?_)
      obtain ⟨J1, hj1W, h⟩ := WJ.open h
      refine GC.joinAt (fun _ _ => rfl) (fun cx Q c => ∀ (x3 : TAddr), J1 x3 → GC cx Q [(1, true, V (α := Int) p1 ()), (2, true, .pointer (some ⟨b1, 0, none⟩)), (4, true, .pointer (some ⟨b2, 0, none⟩)), (5, true, .pointer (some ⟨b3, 0, none⟩)), (6, true, V (α := Int) y2 ()), (7, true, V (α := Int) x1 ())] [] [bx (α := TAddr) x3 () b3 39, bx (α := TAddr) TAddr_zero () b2 39, bx (α := TAddr) p0 () b1 39] c) ?_ (fun hj1 => ?_)
      · intro x3 h
        rw [hj1W] at h
        exact GC.region (GL.u (QE.move rfl) rfl <| GL.u (QE.ar rfl rfl) rfl <| GL.u (QE.assign rfl) rfl <| GL.nil (GLoop.weaken h ⟨rfl, rfl, rfl, rfl, rfl, rfl, trivial⟩ trivial [0, 1, 2] (by decide) ⟨rfl, rfl, rfl, trivial⟩))
      refine GC.cond rfl (fun hb => ?_) (fun hb => ?_)
      · replace h := h.1 hb
        refine GC.seq ?_
        refine GC.region (GL.u (QE.assign rfl) rfl <| GL.nilK (fun _ _ => rfl) ?_)
        refine GC.seq ?_
        refine GC.seq ?_
        refine GC.region (GL.u (QE.assign rfl) rfl <| GL.nilK (fun _ _ => rfl) ?_)
        refine GC.block ?_
        refine GC.loop ?_
        refine GLoop.weaken (h (fun x4 x5 => GLoop _ _ [(1, true, V (α := Int) p1 ()), (2, true, .pointer (some ⟨b1, 0, none⟩)), (4, true, .pointer (some ⟨b2, 0, none⟩)), (5, true, .pointer (some ⟨b3, 0, none⟩)), (6, true, V (α := Int) y2 ()), (7, true, V (α := Int) x1 ()), (8, true, V (α := Int) x4 ()), (9, true, V (α := Int) x5 ())] [] [bx (α := TAddr) x2 () b3 39, bx (α := TAddr) TAddr_zero () b2 39, bx (α := TAddr) p0 () b1 39] _) (fun x4 x5 h => ?_)) ⟨rfl, rfl, rfl, rfl, rfl, rfl, rfl, rfl, trivial⟩ trivial [0, 1, 2] (by decide) ⟨rfl, rfl, rfl, trivial⟩
        refine GLoop.round ?_
        refine GC.seq ?_
        refine GC.seq ?_
        refine GC.region (GL.u (QE.move rfl) rfl <| GL.u (QE.move rfl) rfl <| GL.u (QE.div rfl rfl (fun _ => by decide)) rfl <| GL.u (QE.cmp rfl rfl) rfl <| GL.nilK (fun _ _ => rfl) ?_)
        refine GC.cond rfl (fun hb => ?_) (fun hb => ?_)
        · replace h := h.1 hb
          refine GC.skipK (fun _ _ => rfl) ?_
          refine GC.seq ?_
          refine GC.block ?_
          refine GC.region (GL.u (QE.move rfl) rfl <| GL.u (QE.div rfl rfl (fun _ => by decide)) rfl <| GL.u (QE.assign rfl) rfl <| GL.nilK (fun _ _ => rfl) ?_)
          exact GC.region (GL.u (QE.move rfl) rfl <| GL.u (QE.ar rfl rfl) rfl <| GL.u (QE.assign rfl) rfl <| GL.nil (GLoop.weaken h ⟨rfl, rfl, rfl, rfl, rfl, rfl, rfl, rfl, trivial⟩ trivial [0, 1, 2] (by decide) ⟨rfl, rfl, rfl, trivial⟩))
        · replace h := h.2 hb
          refine GC.exitK (fun _ _ => rfl) ?_
          exact GC.region (GL.u (QE.move rfl) rfl <| GL.u (QE.div rfl rfl (fun _ => by decide)) rfl <| GL.u (QE.move rfl) rfl <| GL.u (QE.div rfl rfl (fun _ => by decide)) rfl <| GL.u (QE.fa rfl) rfl <| GL.u (QE.ia rfl rfl (fun _ => h.1)) rfl <| GL.u (QE.ld 0 (TAddr_l_B.comp (Lens.vec (arI .quo .i64 x1 8) (h.1))) rfl rfl) rfl <| GL.u (QE.move rfl) rfl <| GL.u (QE.convU (α := UInt8) rfl (run_underlying Try.underlying5) ⟨_, run_underlying Try.underlying3⟩) rfl <| GL.u (QE.arU (α := UInt8) rfl rfl) rfl <| GL.u (QE.fa rfl) rfl <| GL.u (QE.ia rfl rfl (fun _ => h.2.1)) rfl <| GL.l rfl (LX.st (β := UInt8) (z := (UI.of (arI .add .u8 ((vat x2.B (arI .quo .i64 x1 8)).toNat : Int) (((UI.of (IntKind.u8.wrap x4) : UInt8)).toNat : Int)) : UInt8)) (s := ()) 0 (TAddr_l_B.comp (Lens.vec (arI .quo .i64 x1 8) (h.2.1))) rfl rfl rfl) fun _ => GL.nil (GC.weaken (hj1 _ h.2.2) ⟨rfl, rfl, rfl, rfl, rfl, rfl, trivial⟩ trivial [0, 1, 2] (by decide) ⟨rfl, rfl, rfl, trivial⟩))
      · replace h := h.2 hb
        exact GC.skip (GC.weaken (hj1 _ h) ⟨rfl, rfl, rfl, rfl, rfl, rfl, trivial⟩ trivial [0, 1, 2] (by decide) ⟨rfl, rfl, rfl, trivial⟩)
    · replace h := h.2 hb
      refine GC.exitK (fun _ _ => rfl) ?_
      refine GC.seq ?_
      refine GC.region (GL.u (QE.ld 0 Lens.id rfl rfl) rfl <| GL.l rfl (LX.st (β := TAddr) (z := x2) (s := ()) 1 Lens.id rfl rfl rfl) fun _ => GL.nilK (fun _ _ => rfl) ?_)
      exact GC.ret (ret1 rfl (y1 := x2) (s1 := ()) (RV.cell 1 rfl rfl) (RO.flat fun _ _ _ => trivial) h)

theorem r11_Right.ok {p0 : TPrefix} {K : Bool → Prop} (h : r11_Right.W p0 K) : Ct P 27 [V p0 ()] [] K := by
  unfold r11_Right.W at h
  refine Ct.of (n := 28) Try.func27 rfl rfl rfl fun w0 m0 => ?_
  refine GC.seq ?_
  refine GC.region (GL.l rfl (LX.box (y := p0) (r := ()) rfl) fun b1 => GL.u (QE.assign rfl) rfl <| GL.nilK (fun _ _ => rfl) ?_)
  refine GC.seq ?_
  refine GC.seq ?_
  refine GC.draw (fun _ => True) [] (.q 0 <| .q 1 <| .l 2 <| .q 3 <| .q 4 <| .q 5 <| .q 6 <| .q 7 <| .q 8 <| .q 9 <| .q 10 <| .q 11 <| .q 12 <| .q 13 <| .l 14 <| .q 15 <| .q 16 <| .tail []) mixed (by kernel_rfl) (GH.g rfl rfl (QE.fa rfl) rfl <| GH.g rfl rfl (QE.ld 0 TPrefix_l_A rfl rfl) rfl <| GH.l rfl rfl (LX.call (.cons rfl (fun _ => rfl) .nil) (fun _ => r10_Right.ok h) (fun h => by cases h) .nil) fun ⟨⟨y1, h⟩, q1⟩ => GH.g rfl rfl (QE.not rfl) rfl <| GH.g rfl rfl (QE.move rfl) rfl <| GH.g rfl ⟨_, _, _, rfl, rfl, rfl⟩ (QE.fa rfl) rfl <| GH.g rfl ⟨_, _, _, rfl, rfl, rfl⟩ (QE.ld 0 TPrefix_l_Bits rfl rfl) rfl <| GH.g rfl ⟨_, _, _, rfl, rfl, rfl⟩ (QE.cmp rfl rfl) rfl <| GH.g rfl rfl (QE.or rfl rfl) rfl <| GH.g rfl rfl (QE.move rfl) rfl <| GH.g rfl ⟨_, _, _, rfl, rfl, rfl⟩ (QE.fa rfl) rfl <| GH.g rfl ⟨_, _, _, rfl, rfl, rfl⟩ (QE.ld 0 TPrefix_l_Bits rfl rfl) rfl <| GH.g rfl ⟨_, _, _, rfl, rfl, rfl⟩ (QE.fa rfl) rfl <| GH.g rfl ⟨_, _, _, rfl, rfl, rfl⟩ (QE.ld 0 TPrefix_l_A rfl rfl) rfl <| GH.l rfl ⟨_, _, _, rfl, rfl, rfl⟩ (LX.call (.cons rfl (fun h => h) .nil) (fun hg => r10_Width.ok (h.1 hg)) (fun hg => h.2 hg) .nil) fun ⟨⟨y2, h⟩, q2⟩ => GH.g rfl ⟨_, _, _, rfl, rfl, rfl⟩ (QE.cmp rfl rfl) rfl <| GH.g rfl rfl (QE.or rfl rfl) rfl <| GH.tail <| GT.nilK (fun _ _ => rfl) ?_)
  refine GC.cond rfl (fun hb => ?_) (fun hb => ?_)
  · replace h := h.1 hb
    refine GC.seq ?_
    refine GC.region (GL.u (QE.assign rfl) rfl <| GL.nilK (fun _ _ => rfl) ?_)
    exact GC.ret (ret1 rfl (y1 := false) (s1 := ()) (RV.tmp rfl) (RO.flat fun _ _ _ => trivial) h)
  · replace h := h.2 hb
    refine GC.skipK (fun _ _ => rfl) ?_
    refine GC.seq ?_
    refine GC.draw (fun _ => True) [] (.q 0 <| .q 1 <| .q 2 <| .q 3 <| .q 4 <| .q 5 <| .l 6 <| .q 7 <| .q 8 <| .tail []) mixed (by kernel_rfl) (GH.g rfl rfl (QE.fa rfl) rfl <| GH.g rfl rfl (QE.ld 0 TPrefix_l_A rfl rfl) rfl <| GH.g rfl rfl (QE.fa rfl) rfl <| GH.g rfl rfl (QE.ld 0 TPrefix_l_A rfl rfl) rfl <| GH.g rfl rfl (QE.fa rfl) rfl <| GH.g rfl rfl (QE.ld 0 TPrefix_l_Bits rfl rfl) rfl <| GH.l rfl rfl (LX.call (.cons rfl (fun _ => rfl) (.cons rfl (fun _ => rfl) .nil)) (fun _ => r10_Mask.ok h) (fun h => by cases h) .nil) fun ⟨⟨y3, h⟩, q3⟩ => GH.g rfl rfl (QE.eqA (α := TAddr) (a := p0.A) (b := y3) (r := ()) (s := ()) rfl rfl) rfl <| GH.g rfl rfl (QE.assign rfl) rfl <| GH.tail <| GT.nilK (fun _ _ => rfl) ?_)
    exact GC.ret (ret1 rfl (y1 := decide (p0.A = y3)) (s1 := ()) (RV.tmp rfl) (RO.flat fun _ _ _ => trivial) h)

theorem r10_Less.ok {p0 : TAddr} {p1 : TAddr} {K : Bool → Prop} (h : r10_Less.W p0 p1 K) : Ct P 40 [V p0 (), V p1 ()] [] K := by
  unfold r10_Less.W at h
  refine Ct.of (n := 38) Try.func40 rfl rfl rfl fun w0 m0 => ?_
  refine GC.seq ?_
  refine GC.region (GL.l rfl (LX.box (y := p0) (r := ()) rfl) fun b1 => GL.l rfl (LX.box (y := p1) (r := ()) rfl) fun b2 => GL.u (QE.assign rfl) rfl <| GL.nilK (fun _ _ => rfl) ?_)
  refine GC.seq ?_
  refine GC.seq ?_
  refine GC.region (GL.u (QE.fa rfl) rfl <| GL.u (QE.ld 1 TAddr_l_V rfl rfl) rfl <| GL.u (QE.fa rfl) rfl <| GL.u (QE.ld 0 TAddr_l_V rfl rfl) rfl <| GL.u (QE.cmp rfl rfl) rfl <| GL.nilK (fun _ _ => rfl) ?_)
  refine GC.cond rfl (fun hb => ?_) (fun hb => ?_)
  · replace h := h.1 hb
    refine GC.seq ?_
    refine GC.region (GL.u (QE.fa rfl) rfl <| GL.u (QE.ld 1 TAddr_l_V rfl rfl) rfl <| GL.u (QE.fa rfl) rfl <| GL.u (QE.ld 0 TAddr_l_V rfl rfl) rfl <| GL.u (QE.cmp rfl rfl) rfl <| GL.u (QE.assign rfl) rfl <| GL.nilK (fun _ _ => rfl) ?_)
    exact GC.ret (ret1 rfl (y1 := cmpI .lss p0.V p1.V) (s1 := ()) (RV.tmp rfl) (RO.flat fun _ _ _ => trivial) h)
  · replace h := h.2 hb
    refine GC.skipK (fun _ _ => rfl) ?_
    refine GC.seq ?_
    refine GC.seq ?_
    refine GC.region (GL.u (QE.assign rfl) rfl <| GL.nilK (fun _ _ => rfl) ?_)
    refine GC.block ?_
    refine GC.loop ?_
    refine GLoop.weaken (h (fun x1 => GLoop _ _ [(2, true, .pointer (some ⟨b1, 0, none⟩)), (3, true, .pointer (some ⟨b2, 0, none⟩)), (5, true, V (α := Int) x1 ())] [] [bx (α := TAddr) p1 () b2 39, bx (α := TAddr) p0 () b1 39] _) (fun x1 h => ?_)) ⟨rfl, rfl, rfl, trivial⟩ trivial [0, 1] (by decide) ⟨rfl, rfl, trivial⟩
    refine GLoop.round ?_
    refine GC.seq ?_
    refine GC.seq ?_
    refine GC.region (GL.u (QE.move rfl) rfl <| GL.u (QE.cmp rfl rfl) rfl <| GL.nilK (fun _ _ => rfl) ?_)
    refine GC.cond rfl (fun hb => ?_) (fun hb => ?_)
    · replace h := h.1 hb
      refine GC.skipK (fun _ _ => rfl) ?_
      refine GC.seq ?_
      refine GC.block ?_
      refine GC.seq ?_
      refine GC.draw (fun _ => True) [] (.q 0 <| .q 1 <| .q 2 <| .q 3 <| .q 4 <| .q 5 <| .q 6 <| .q 7 <| .q 8 <| .tail []) mixed (by kernel_rfl) (GH.g rfl rfl (QE.move rfl) rfl <| GH.g rfl rfl (QE.fa rfl) rfl <| GH.g rfl rfl (QE.ia rfl rfl (fun _ => h.1)) rfl <| GH.g rfl rfl (QE.ld 1 (TAddr_l_B.comp (Lens.vec x1 (h.1))) rfl rfl) rfl <| GH.g rfl rfl (QE.move rfl) rfl <| GH.g rfl rfl (QE.fa rfl) rfl <| GH.g rfl rfl (QE.ia rfl rfl (fun _ => h.2.1)) rfl <| GH.g rfl rfl (QE.ld 0 (TAddr_l_B.comp (Lens.vec x1 (h.2.1))) rfl rfl) rfl <| GH.g rfl rfl (QE.cmp rfl rfl) rfl <| GH.tail <| GT.nilK (fun _ _ => rfl) ?_)
      refine GC.cond rfl (fun hb => ?_) (fun hb => ?_)
      · replace h := h.2.2.1 hb
        refine GC.seq ?_
        refine GC.draw (fun _ => True) [] (.q 0 <| .q 1 <| .q 2 <| .q 3 <| .q 4 <| .q 5 <| .q 6 <| .q 7 <| .q 8 <| .q 9 <| .tail []) mixed (by kernel_rfl) (GH.g rfl rfl (QE.move rfl) rfl <| GH.g rfl rfl (QE.fa rfl) rfl <| GH.g rfl rfl (QE.ia rfl rfl (fun _ => h.1)) rfl <| GH.g rfl rfl (QE.ld 1 (TAddr_l_B.comp (Lens.vec x1 (h.1))) rfl rfl) rfl <| GH.g rfl rfl (QE.move rfl) rfl <| GH.g rfl rfl (QE.fa rfl) rfl <| GH.g rfl rfl (QE.ia rfl rfl (fun _ => h.2.1)) rfl <| GH.g rfl rfl (QE.ld 0 (TAddr_l_B.comp (Lens.vec x1 (h.2.1))) rfl rfl) rfl <| GH.g rfl rfl (QE.cmp rfl rfl) rfl <| GH.g rfl rfl (QE.assign rfl) rfl <| GH.tail <| GT.nilK (fun _ _ => rfl) ?_)
        exact GC.ret (ret1 rfl (y1 := cmpI .lss ((vat p0.B x1).toNat : Int) ((vat p1.B x1).toNat : Int)) (s1 := ()) (RV.tmp rfl) (RO.flat fun _ _ _ => trivial) h.2.2)
      · replace h := h.2.2.2 hb
        refine GC.skipK (fun _ _ => rfl) ?_
        exact GC.region (GL.u (QE.move rfl) rfl <| GL.u (QE.ar rfl rfl) rfl <| GL.u (QE.assign rfl) rfl <| GL.nil (GLoop.weaken h ⟨rfl, rfl, rfl, trivial⟩ trivial [0, 1] (by decide) ⟨rfl, rfl, trivial⟩))
    · replace h := h.2 hb
      refine GC.exitK (fun _ _ => rfl) ?_
      refine GC.seq ?_
      refine GC.region (GL.u (QE.assign rfl) rfl <| GL.nilK (fun _ _ => rfl) ?_)
      exact GC.ret (ret1 rfl (y1 := false) (s1 := ()) (RV.tmp rfl) (RO.flat fun _ _ _ => trivial) h)

theorem r11_Less.ok {p0 : TPrefix} {p1 : TPrefix} {K : Bool → Prop} (h : r11_Less.W p0 p1 K) : Ct P 28 [V p0 (), V p1 ()] [] K := by
  unfold r11_Less.W at h
  refine Ct.of (n := 20) Try.func28 rfl rfl rfl fun w0 m0 => ?_
  refine GC.seq ?_
  refine GC.region (GL.l rfl (LX.box (y := p0) (r := ()) rfl) fun b1 => GL.l rfl (LX.box (y := p1) (r := ()) rfl) fun b2 => GL.u (QE.assign rfl) rfl <| GL.nilK (fun _ _ => rfl) ?_)
  refine GC.seq ?_
  refine GC.seq ?_
  refine GC.region (GL.u (QE.fa rfl) rfl <| GL.u (QE.ld 1 TPrefix_l_A rfl rfl) rfl <| GL.u (QE.fa rfl) rfl <| GL.u (QE.ld 0 TPrefix_l_A rfl rfl) rfl <| GL.u (QE.neA (α := TAddr) (a := p0.A) (b := p1.A) (r := ()) (s := ()) rfl rfl) rfl <| GL.nilK (fun _ _ => rfl) ?_)
  refine GC.cond rfl (fun hb => ?_) (fun hb => ?_)
  · replace h := h.1 hb
    refine GC.seq ?_
    refine GC.region (GL.u (QE.fa rfl) rfl <| GL.u (QE.ld 1 TPrefix_l_A rfl rfl) rfl <| GL.u (QE.fa rfl) rfl <| GL.u (QE.ld 0 TPrefix_l_A rfl rfl) rfl <| GL.l rfl (LX.call (.cons rfl (fun _ => rfl) (.cons rfl (fun _ => rfl) .nil)) (fun _ => r10_Less.ok h) (fun h => by cases h) .nil) fun ⟨⟨y1, h⟩, q1⟩ => GL.u (QE.assign rfl) rfl <| GL.nilK (fun _ _ => rfl) ?_)
    exact GC.ret (ret1 rfl (y1 := y1) (s1 := ()) (RV.tmp rfl) (RO.flat fun _ _ _ => trivial) h)
  · replace h := h.2 hb
    refine GC.skipK (fun _ _ => rfl) ?_
    refine GC.seq ?_
    refine GC.region (GL.u (QE.fa rfl) rfl <| GL.u (QE.ld 1 TPrefix_l_Bits rfl rfl) rfl <| GL.u (QE.fa rfl) rfl <| GL.u (QE.ld 0 TPrefix_l_Bits rfl rfl) rfl <| GL.u (QE.cmp rfl rfl) rfl <| GL.u (QE.assign rfl) rfl <| GL.nilK (fun _ _ => rfl) ?_)
    exact GC.ret (ret1 rfl (y1 := cmpI .lss p0.Bits p1.Bits) (s1 := ()) (RV.tmp rfl) (RO.flat fun _ _ _ => trivial) h)

theorem r34_Right.ok {p0 : TConf} {r0 : R.Raw TConf} {K : Bool → Prop} (h : r34_Right.W p0 K) : Ct P 11 [V p0 r0] [Fk (α := TConf) true p0 r0] K := by
  unfold r34_Right.W at h
  refine Ct.of (n := 117) Try.func11 rfl rfl rfl fun w0 m0 => ?_
  refine GC.seq ?_
  refine GC.region (GL.l rfl (LX.box (y := p0) (r := r0) rfl) fun b1 => GL.u (QE.assign rfl) rfl <| GL.nilK (fun _ _ => rfl) ?_)
  refine GC.seq ?_
  refine GC.seq ?_
  refine GC.region (GL.u (QE.fa rfl) rfl <| GL.u (QE.ld 0 TConf_l_Port rfl rfl) rfl <| GL.l rfl (LX.call (.cons rfl (fun _ => rfl) .nil) (fun _ => r34_from.ok h) (fun h => by cases h) .nil) fun ⟨⟨y1, h⟩, q1⟩ => GL.u (QE.not rfl) rfl <| GL.u (QE.move rfl) rfl <| GL.g ⟨_, _, _, rfl, rfl, rfl⟩ (QE.fa rfl) rfl <| GL.g ⟨_, _, _, rfl, rfl, rfl⟩ (QE.ld 0 TConf_l_Peers rfl rfl) rfl <| GL.fact (Fk (α := (List TPeer)) true p0.Peers r0) (fun _ _ hf _ => (TConf_l_Peers.okg (hf 1 rfl rfl) :)) <| GL.g ⟨_, _, _, rfl, rfl, rfl⟩ (QE.len rfl (run_underlying Try.underlying25)) rfl <| GL.g ⟨_, _, _, rfl, rfl, rfl⟩ (QE.cmp rfl rfl) rfl <| GL.u (QE.or rfl rfl) rfl <| GL.nilK (fun _ _ => rfl) ?_)
  refine GC.cond rfl (fun hb => ?_) (fun hb => ?_)
  · replace h := h.1 hb
    refine GC.seq ?_
    refine GC.region (GL.u (QE.assign rfl) rfl <| GL.nilK (fun _ _ => rfl) ?_)
    exact GC.ret (ret1 rfl (y1 := false) (s1 := ()) (RV.tmp rfl) (RO.flat fun _ _ _ => trivial) h)
  · replace h := h.2 hb
    refine GC.skipK (fun _ _ => rfl) ?_
    refine GC.seq ?_
    refine GC.region (GL.u (QE.assign (v := V ([] : (List TPrefix)) (none, 0)) rfl) rfl <| GL.fact (Fk (α := (List TPrefix)) true ([] : (List TPrefix)) (none, 0)) (fun _ _ _ _ => .inl rfl) <| GL.nilK (fun _ _ => rfl) ?_)
    refine GC.seq ?_
    refine GC.seq ?_
    refine GC.region (GL.u (QE.assign rfl) rfl <| GL.nilK (fun _ _ => rfl) ?_)
    refine GC.block ?_
    refine GC.nilTip 57 (R.size TPrefix) ?_
    refine GC.loop ?_
    refine GLoop.weaken (h (fun x1 x2 => ∀ (q2 : R.Raw (List TPrefix)), GLoop _ _ [(1, true, .pointer (some ⟨b1, 0, none⟩)), (3, true, V (α := (List TPrefix)) x1 q2), (4, true, V (α := Int) x2 ())] [Fk (α := (List TPrefix)) true x1 q2, Fk (α := TConf) true p0 r0] [tp 57 (R.size TPrefix) (List.length x1) (q2).1 (q2).2, bx (α := TConf) p0 r0 b1 27] _) (fun x1 x2 h => ?_) (none, 0)) ⟨rfl, rfl, rfl, trivial⟩ ⟨⟨0, rfl⟩, ⟨3, rfl⟩, trivial⟩ [0, 1] (by decide) ⟨rfl, rfl, trivial⟩
    intro q2
    refine GLoop.round ?_
    refine GC.seq ?_
    refine GC.seq ?_
    refine GC.region (GL.u (QE.move rfl) rfl <| GL.u (QE.fa rfl) rfl <| GL.u (QE.ld 1 TConf_l_Peers rfl rfl) rfl <| GL.fact (Fk (α := (List TPeer)) true p0.Peers r0) (fun _ _ hf _ => (TConf_l_Peers.okg (hf 1 rfl rfl) :)) <| GL.u (QE.len rfl (run_underlying Try.underlying25)) rfl <| GL.u (QE.cmp rfl rfl) rfl <| GL.nilK (fun _ _ => rfl) ?_)
    refine GC.cond rfl (fun hb => ?_) (fun hb => ?_)
    · replace h := h.1 hb
      refine GC.skipK (fun _ _ => rfl) ?_
      refine GC.seq ?_
      refine GC.block ?_
      refine GC.seq ?_
      refine GC.region (GL.u (QE.fa rfl) rfl <| GL.u (QE.ld 1 TConf_l_Peers rfl rfl) rfl <| GL.u (QE.move rfl) rfl <| GL.ux (QX.ias (xs := p0.Peers) (r := r0) 0 rfl rfl rfl (fun _ => h.1)) rfl fun d1 => GL.ux (QX.ld 0 rfl rfl) rfl fun q3 => GL.l rfl (LX.alloc (y := TPeer_zero) (r := (none, 0))) fun b2 => GL.fact (Fk (α := TPeer) true TPeer_zero (none, 0)) (fun _ _ _ _ => .inl rfl) <| GL.l rfl (LX.st (β := TPeer) (z := lat p0.Peers x2) (s := q3) 0 Lens.id rfl rfl rfl) fun _ => GL.nilK (fun _ _ => rfl) ?_)
      refine GC.seq ?_
      refine GC.seq ?_
      refine GC.region (GL.u (QE.fa rfl) rfl <| GL.u (QE.ld 0 TPeer_l_Key rfl rfl) rfl <| GL.u (QE.buildV (x := (Vector.replicate 32 (0 : UInt8))) .nil (.nil _ _)) rfl <| GL.u (QE.eqA (α := (Vector UInt8 32)) (a := (lat p0.Peers x2).Key) (b := (Vector.replicate 32 (0 : UInt8))) (r := ()) (s := ()) rfl rfl) rfl <| GL.u (QE.move rfl) rfl <| GL.g ⟨_, _, _, rfl, rfl, rfl⟩ (QE.fa rfl) rfl <| GL.g ⟨_, _, _, rfl, rfl, rfl⟩ (QE.ld 0 TPeer_l_Keep rfl rfl) rfl <| GL.l ⟨_, _, _, rfl, rfl, rfl⟩ (LX.call (.cons rfl (fun h => h) .nil) (fun hg => r34_from.ok (h.2.1 hg)) (fun hg => h.2.2 hg) .nil) fun ⟨⟨y2, h⟩, q4⟩ => GL.g ⟨_, _, _, rfl, rfl, rfl⟩ (QE.not rfl) rfl <| GL.u (QE.or rfl rfl) rfl <| GL.u (QE.move rfl) rfl <| GL.g ⟨_, _, _, rfl, rfl, rfl⟩ (QE.fa rfl) rfl <| GL.g ⟨_, _, _, rfl, rfl, rfl⟩ (QE.ld 0 TPeer_l_End rfl rfl) rfl <| GL.g ⟨_, _, _, rfl, rfl, rfl⟩ (QE.build (x := ({ A := TAddr_zero, Port := (0 : Int) } : TEndpoint)) (r := ()) .nil (.nil _ _)) rfl <| GL.g ⟨_, _, _, rfl, rfl, rfl⟩ (QE.neA (α := TEndpoint) (a := (lat p0.Peers x2).End) (b := ({ A := TAddr_zero, Port := (0 : Int) } : TEndpoint)) (r := ()) (s := ()) rfl rfl) rfl <| GL.g ⟨_, _, _, rfl, rfl, rfl⟩ (QE.move rfl) rfl <| GL.g ⟨_, _, _, rfl, rfl, rfl⟩ (QE.fa rfl) rfl <| GL.g ⟨_, _, _, rfl, rfl, rfl⟩ (QE.ld 0 TPeer_l_End rfl rfl) rfl <| GL.l ⟨_, _, _, rfl, rfl, rfl⟩ (LX.call (.cons rfl (fun h => h) .nil) (fun hg => r12_Right.ok (h.1 hg)) (fun hg => h.2 hg) .nil) fun ⟨⟨y3, h⟩, q5⟩ => GL.g ⟨_, _, _, rfl, rfl, rfl⟩ (QE.not rfl) rfl <| GL.g ⟨_, _, _, rfl, rfl, rfl⟩ (QE.and rfl rfl) rfl <| GL.u (QE.or rfl rfl) rfl <| GL.nilK (fun _ _ => rfl) ?_)
      refine GC.cond rfl (fun hb => ?_) (fun hb => ?_)
      · replace h := h.1 hb
        refine GC.seq ?_
        refine GC.region (GL.u (QE.assign rfl) rfl <| GL.nilK (fun _ _ => rfl) ?_)
        exact GC.ret (ret1 rfl (y1 := false) (s1 := ()) (RV.tmp rfl) (RO.flat fun _ _ _ => trivial) h)
      · replace h := h.2 hb
        refine GC.skipK (fun _ _ => rfl) ?_
        refine GC.seq ?_
        refine GC.seq ?_
        refine GC.region (GL.u (QE.assign rfl) rfl <| GL.nilK (fun _ _ => rfl) ?_)
        refine GC.block ?_
        refine GC.loop ?_
        refine GLoop.weaken (h (fun x3 => GLoop _ _ [(1, true, .pointer (some ⟨b1, 0, none⟩)), (3, true, V (α := (List TPrefix)) x1 q2), (4, true, V (α := Int) x2 ()), (5, true, .pointer (some ⟨b2, 0, none⟩)), (6, true, V (α := Int) x3 ())] [Fk (α := (List TPrefix)) true x1 q2, Fk (α := TConf) true p0 r0, Fk (α := TPeer) true (lat p0.Peers x2) q3] [bx (α := TPeer) (lat p0.Peers x2) q3 b2 45, tp 57 (R.size TPrefix) (List.length x1) (q2).1 (q2).2, bx (α := TConf) p0 r0 b1 27] _) (fun x3 h => ?_)) ⟨rfl, rfl, rfl, rfl, rfl, trivial⟩ ⟨⟨6, rfl⟩, ⟨7, rfl⟩, ⟨3, rfl⟩, trivial⟩ [0, 1, 2] (by decide) ⟨rfl, rfl, rfl, trivial⟩
        refine GLoop.round ?_
        refine GC.seq ?_
        refine GC.seq ?_
        refine GC.region (GL.u (QE.move rfl) rfl <| GL.u (QE.move rfl) rfl <| GL.u (QE.cmp rfl rfl) rfl <| GL.nilK (fun _ _ => rfl) ?_)
        refine GC.cond rfl (fun hb => ?_) (fun hb => ?_)
        · replace h := h.1 hb
          refine GC.skipK (fun _ _ => rfl) ?_
          refine GC.seq ?_
          refine GC.block ?_
          refine GC.seq ?_
          refine GC.draw (fun _ => True) [] (.q 0 <| .q 1 <| .q 2 <| .q 3 <| .q 4 <| .q 5 <| .q 6 <| .q 7 <| .q 8 <| .tail []) mixed (by kernel_rfl) (GH.g rfl rfl (QE.fa rfl) rfl <| GH.g rfl rfl (QE.ld 2 TConf_l_Peers rfl rfl) rfl <| GH.fact (Fk (α := (List TPeer)) true p0.Peers r0) (fun _ _ hf _ => (TConf_l_Peers.okg (hf 1 rfl rfl) :)) <| GH.g rfl rfl (QE.move rfl) rfl <| GH.gx rfl rfl (QX.ias (xs := p0.Peers) (r := r0) 0 rfl rfl rfl (fun _ => h.1)) rfl fun d2 => GH.gx rfl rfl (QX.fa 0 TPeer_l_Key rfl rfl) rfl fun d3 => GH.gx rfl rfl (QX.ld 0 rfl rfl) rfl fun q6 => GH.g rfl rfl (QE.fa rfl) rfl <| GH.g rfl rfl (QE.ld 0 TPeer_l_Key rfl rfl) rfl <| GH.g rfl rfl (QE.eqA (α := (Vector UInt8 32)) (a := (lat p0.Peers x3).Key) (b := (lat p0.Peers x2).Key) (r := ()) (s := ()) rfl rfl) rfl <| GH.tail <| GT.nilK (fun _ _ => rfl) ?_)
          refine GC.cond rfl (fun hb => ?_) (fun hb => ?_)
          · replace h := h.2.1 hb
            refine GC.seq ?_
            refine GC.region (GL.u (QE.assign rfl) rfl <| GL.nilK (fun _ _ => rfl) ?_)
            exact GC.ret (ret1 rfl (y1 := false) (s1 := ()) (RV.tmp rfl) (RO.flat fun _ _ _ => trivial) h)
          · replace h := h.2.2 hb
            refine GC.skipK (fun _ _ => rfl) ?_
            exact GC.region (GL.u (QE.move rfl) rfl <| GL.u (QE.ar rfl rfl) rfl <| GL.u (QE.assign rfl) rfl <| GL.nil (GLoop.weaken h ⟨rfl, rfl, rfl, rfl, rfl, trivial⟩ ⟨⟨4, rfl⟩, ⟨5, rfl⟩, ⟨6, rfl⟩, trivial⟩ [0, 1, 2] (by decide) ⟨rfl, rfl, rfl, trivial⟩))
        · replace h := h.2 hb
          refine GC.exitK (fun _ _ => rfl) ?_
          refine GC.seq ?_
          refine GC.region (GL.u (QE.assign rfl) rfl <| GL.nilK (fun _ _ => rfl) ?_)
          refine GC.block ?_
          refine GC.loop ?_
          refine GLoop.weaken (h (fun x4 x5 => ∀ (q7 : R.Raw (List TPrefix)), GLoop _ _ [(1, true, .pointer (some ⟨b1, 0, none⟩)), (3, true, V (α := (List TPrefix)) x4 q7), (4, true, V (α := Int) x2 ()), (5, true, .pointer (some ⟨b2, 0, none⟩)), (7, true, V (α := Int) x5 ())] [Fk (α := (List TPrefix)) true x4 q7, Fk (α := TConf) true p0 r0, Fk (α := TPeer) true (lat p0.Peers x2) q3] [bx (α := TPeer) (lat p0.Peers x2) q3 b2 45, tp 57 (R.size TPrefix) (List.length x4) (q7).1 (q7).2, bx (α := TConf) p0 r0 b1 27] _) (fun x4 x5 h => ?_) q2) ⟨rfl, rfl, rfl, rfl, rfl, trivial⟩ ⟨⟨0, rfl⟩, ⟨1, rfl⟩, ⟨2, rfl⟩, trivial⟩ [0, 1, 2] (by decide) ⟨rfl, rfl, rfl, trivial⟩
          intro q7
          refine GLoop.round ?_
          refine GC.seq ?_
          refine GC.seq ?_
          refine GC.region (GL.u (QE.move rfl) rfl <| GL.u (QE.fa rfl) rfl <| GL.u (QE.ld 0 TPeer_l_Allowed rfl rfl) rfl <| GL.fact (Fk (α := (List TPrefix)) true ((lat p0.Peers x2).Allowed) q3) (fun _ _ hf _ => (TPeer_l_Allowed.okg (hf 2 rfl rfl) :)) <| GL.u (QE.len rfl (run_underlying Try.underlying43)) rfl <| GL.u (QE.cmp rfl rfl) rfl <| GL.nilK (fun _ _ => rfl) ?_)
          refine GC.cond rfl (fun hb => ?_) (fun hb => ?_)
          · replace h := h.1 hb
            refine GC.skipK (fun _ _ => rfl) ?_
            refine GC.seq ?_
            refine GC.block ?_
            refine GC.seq ?_
            refine GC.region (GL.u (QE.fa rfl) rfl <| GL.u (QE.ld 0 TPeer_l_Allowed rfl rfl) rfl <| GL.u (QE.move rfl) rfl <| GL.ux (QX.ias (xs := (lat p0.Peers x2).Allowed) (r := q3) 0 rfl rfl rfl (fun _ => h.1)) rfl fun d4 => GL.ux (QX.ld 0 rfl rfl) rfl fun q8 => GL.l rfl (LX.alloc (y := TPrefix_zero) (r := ())) fun b3 => GL.l rfl (LX.st (β := TPrefix) (z := lat ((lat p0.Peers x2).Allowed) x5) (s := ()) 0 Lens.id rfl rfl rfl) fun _ => GL.nilK (fun _ _ => rfl) ?_)
            refine GC.seq ?_
            refine GC.seq ?_
            refine GC.draw (fun _ => True) [] (.q 0 <| .l 1 <| .q 2 <| .q 3 <| .q 4 <| .q 5 <| .q 6 <| .q 7 <| .q 8 <| .q 9 <| .q 10 <| .q 11 <| .q 12 <| .q 13 <| .l 14 <| .q 15 <| .q 16 <| .q 17 <| .tail []) mixed (by kernel_rfl) (GH.g rfl rfl (QE.ld 0 Lens.id rfl rfl) rfl <| GH.l rfl rfl (LX.call (.cons rfl (fun _ => rfl) .nil) (fun _ => r11_Right.ok h.2) (fun h => by cases h) .nil) fun ⟨⟨y4, h⟩, q9⟩ => GH.g rfl rfl (QE.not rfl) rfl <| GH.g rfl rfl (QE.move rfl) rfl <| GH.g rfl ⟨_, _, _, rfl, rfl, rfl⟩ (QE.move rfl) rfl <| GH.g rfl ⟨_, _, _, rfl, rfl, rfl⟩ (QE.cmp rfl rfl) rfl <| GH.g rfl ⟨_, _, _, rfl, rfl, rfl⟩ (QE.move rfl) rfl <| GH.g rfl ⟨_, _, _, rfl, rfl, rfl⟩ (QE.fa rfl) rfl <| GH.g rfl ⟨_, _, _, rfl, rfl, rfl⟩ (QE.ld 1 TPeer_l_Allowed rfl rfl) rfl <| GH.g rfl ⟨_, _, _, rfl, rfl, rfl⟩ (QE.move rfl) rfl <| GH.g rfl ⟨_, _, _, rfl, rfl, rfl⟩ (QE.ar rfl rfl) rfl <| GH.gx rfl ⟨_, _, _, rfl, rfl, rfl⟩ (QX.ias (xs := (lat p0.Peers x2).Allowed) (r := q3) 3 rfl rfl rfl h.1) rfl fun d5 => GH.gx rfl ⟨_, _, _, rfl, rfl, rfl⟩ (QX.ld 0 rfl rfl) rfl fun q10 => GH.g rfl ⟨_, _, _, rfl, rfl, rfl⟩ (QE.ld 0 Lens.id rfl rfl) rfl <| GH.l rfl ⟨_, _, _, rfl, rfl, rfl⟩ (LX.call (.cons rfl (fun h => h) (.cons rfl (fun h => h) .nil)) (fun hg => r11_Less.ok (h.2.1 hg)) (fun hg => h.2.2 hg) .nil) fun ⟨⟨y5, h⟩, q11⟩ => GH.g rfl ⟨_, _, _, rfl, rfl, rfl⟩ (QE.not rfl) rfl <| GH.g rfl ⟨_, _, _, rfl, rfl, rfl⟩ (QE.and rfl rfl) rfl <| GH.g rfl rfl (QE.or rfl rfl) rfl <| GH.tail <| GT.nilK (fun _ _ => rfl) ?_)
            refine GC.cond rfl (fun hb => ?_) (fun hb => ?_)
            · replace h := h.1 hb
              refine GC.seq ?_
              refine GC.region (GL.u (QE.assign rfl) rfl <| GL.nilK (fun _ _ => rfl) ?_)
              exact GC.ret (ret1 rfl (y1 := false) (s1 := ()) (RV.tmp rfl) (RO.flat fun _ _ _ => trivial) h)
            · replace h := h.2 hb
              refine GC.skipK (fun _ _ => rfl) ?_
              refine GC.seq ?_
              refine GC.seq ?_
              refine GC.region (GL.u (QE.assign rfl) rfl <| GL.nilK (fun _ _ => rfl) ?_)
              refine GC.block ?_
              refine GC.loop ?_
              refine GLoop.weaken (h (fun x6 => GLoop _ _ [(1, true, .pointer (some ⟨b1, 0, none⟩)), (3, true, V (α := (List TPrefix)) x4 q7), (4, true, V (α := Int) x2 ()), (5, true, .pointer (some ⟨b2, 0, none⟩)), (7, true, V (α := Int) x5 ()), (8, true, .pointer (some ⟨b3, 0, none⟩)), (9, true, V (α := Int) x6 ())] [Fk (α := (List TPrefix)) true x4 q7, Fk (α := TConf) true p0 r0, Fk (α := TPeer) true (lat p0.Peers x2) q3] [bx (α := TPrefix) (lat ((lat p0.Peers x2).Allowed) x5) () b3 57, bx (α := TPeer) (lat p0.Peers x2) q3 b2 45, tp 57 (R.size TPrefix) (List.length x4) (q7).1 (q7).2, bx (α := TConf) p0 r0 b1 27] _) (fun x6 h => ?_)) ⟨rfl, rfl, rfl, rfl, rfl, rfl, rfl, trivial⟩ ⟨⟨7, rfl⟩, ⟨8, rfl⟩, ⟨9, rfl⟩, trivial⟩ [0, 1, 2, 3] (by decide) ⟨rfl, rfl, rfl, rfl, trivial⟩
              refine GLoop.round ?_
              refine GC.seq ?_
              refine GC.seq ?_
              refine GC.region (GL.u (QE.move rfl) rfl <| GL.u (QE.move rfl) rfl <| GL.u (QE.len rfl (run_underlying Try.underlying43)) rfl <| GL.u (QE.cmp rfl rfl) rfl <| GL.nilK (fun _ _ => rfl) ?_)
              refine GC.cond rfl (fun hb => ?_) (fun hb => ?_)
              · replace h := h.1 hb
                refine GC.skipK (fun _ _ => rfl) ?_
                refine GC.seq ?_
                refine GC.block ?_
                refine GC.seq ?_
                refine GC.draw (fun _ => True) [] (.q 0 <| .q 1 <| .q 2 <| .q 3 <| .q 4 <| .q 5 <| .tail []) mixed (by kernel_rfl) (GH.g rfl rfl (QE.move rfl) rfl <| GH.g rfl rfl (QE.move rfl) rfl <| GH.gx rfl rfl (QX.ias (xs := x4) (r := q7) 0 rfl rfl rfl (fun _ => h.1)) rfl fun d6 => GH.gx rfl rfl (QX.ld 0 rfl rfl) rfl fun q12 => GH.g rfl rfl (QE.ld 0 Lens.id rfl rfl) rfl <| GH.g rfl rfl (QE.eqA (α := TPrefix) (a := lat x4 x6) (b := lat ((lat p0.Peers x2).Allowed) x5) (r := ()) (s := ()) rfl rfl) rfl <| GH.tail <| GT.nilK (fun _ _ => rfl) ?_)
                refine GC.cond rfl (fun hb => ?_) (fun hb => ?_)
                · replace h := h.2.1 hb
                  refine GC.seq ?_
                  refine GC.region (GL.u (QE.assign rfl) rfl <| GL.nilK (fun _ _ => rfl) ?_)
                  exact GC.ret (ret1 rfl (y1 := false) (s1 := ()) (RV.tmp rfl) (RO.flat fun _ _ _ => trivial) h)
                · replace h := h.2.2 hb
                  refine GC.skipK (fun _ _ => rfl) ?_
                  exact GC.region (GL.u (QE.move rfl) rfl <| GL.u (QE.ar rfl rfl) rfl <| GL.u (QE.assign rfl) rfl <| GL.nil (GLoop.weaken h ⟨rfl, rfl, rfl, rfl, rfl, rfl, rfl, trivial⟩ ⟨⟨2, rfl⟩, ⟨3, rfl⟩, ⟨4, rfl⟩, trivial⟩ [0, 1, 2, 3] (by decide) ⟨rfl, rfl, rfl, rfl, trivial⟩))
              · replace h := h.2 hb
                refine GC.exitK (fun _ _ => rfl) ?_
                refine GC.region (GL.u (QE.move rfl) rfl <| GL.u (QE.ld 0 Lens.id rfl rfl) rfl <| GL.l rfl (LX.lit (xs := ([lat ((lat p0.Peers x2).Allowed) x5] : (List TPrefix))) (rs := [()]) (fs1 := []) ⟨rfl, rfl, trivial⟩ rfl trivial (fun _ _ _ => ⟨trivial, trivial⟩) (by kernel_rfl)) fun q13 => GL.l rfl (LX.append (xs := x4) (ys := ([lat ((lat p0.Peers x2).Allowed) x5] : (List TPrefix))) (r := q7) (s := (q13, 1)) Try.underlying43 3 1 0 rfl rfl rfl rfl rfl h.1) fun q14 => GL.u (QE.assign rfl) rfl <| GL.nilK (fun _ _ => rfl) ?_)
                exact GC.region (GL.u (QE.move rfl) rfl <| GL.u (QE.ar rfl rfl) rfl <| GL.u (QE.assign rfl) rfl <| GL.nil (GLoop.weaken (h.2 q14) ⟨rfl, rfl, rfl, rfl, rfl, trivial⟩ ⟨⟨0, rfl⟩, ⟨3, rfl⟩, ⟨4, rfl⟩, trivial⟩ [2, 3, 4] (by decide) ⟨rfl, rfl, rfl, trivial⟩))
          · replace h := h.2 hb
            refine GC.exitK (fun _ _ => rfl) ?_
            exact GC.region (GL.u (QE.move rfl) rfl <| GL.u (QE.ar rfl rfl) rfl <| GL.u (QE.assign rfl) rfl <| GL.nil (GLoop.weaken (h q7) ⟨rfl, rfl, rfl, trivial⟩ ⟨⟨1, rfl⟩, ⟨2, rfl⟩, trivial⟩ [1, 2] (by decide) ⟨rfl, rfl, trivial⟩))
    · replace h := h.2 hb
      refine GC.exitK (fun _ _ => rfl) ?_
      refine GC.seq ?_
      refine GC.region (GL.u (QE.move rfl) rfl <| GL.u (QE.len rfl (run_underlying Try.underlying43)) rfl <| GL.u (QE.cmp rfl rfl) rfl <| GL.u (QE.assign rfl) rfl <| GL.nilK (fun _ _ => rfl) ?_)
      exact GC.ret (ret1 rfl (y1 := cmpI .leq (x1.length : Int) 64) (s1 := ()) (RV.tmp rfl) (RO.flat fun _ _ _ => trivial) h)
end Go.Cw
