/- The kinds of data of the program, and how they stand in cells. Written by gen.py. -/
import Derived.Test.YtcckclbpajegnaaCwO
set_option linter.all false
set_option linter.unusedVariables false
set_option linter.unusedSimpArgs false
namespace Go.Cw
open Go
structure TAddr where
  V : Int
  B : (Vector UInt8 16)
  deriving DecidableEq, Inhabited
instance TAddr_instR : R TAddr where
  Raw := Unit
  dflt := ()
  agg := true
  size := 17
  cells x r := R.cells x.V () ++ (R.cells x.B ())
  ok _ _ _ _ := True
  len x r := by simp only [List.length_append, R.len]; rfl
  one h := by cases h
  ones x r v hv := by
    simp only [List.mem_append] at hv
    rcases hv with hv | hv <;> exact R.ones _ _ v hv
  stable _ _ := trivial
def TAddr_zero : TAddr := ⟨(0 : Int), (Vector.replicate 16 (0 : UInt8))⟩
def TAddr_l_V : Lens TAddr Int where
  off := 0
  get x := x.V
  set x y := { x with V := y }
  getR r := ()
  setR r s := r
  fits := by decide
  rd x r := by
    have h := seg_rd ([]) (R.cells x.V ()) (R.cells x.B ()) (o := 0) (by first | rfl | (simp only [List.length_append, R.len]; rfl)) (R.len _ _)
    try simp only [List.append_assoc, List.nil_append, List.append_nil] at h
    exact h
  wr x r y s := by
    have h := seg_wr ([]) (R.cells x.V ()) (R.cells x.B ()) (R.cells y s) (o := 0) (by first | rfl | (simp only [List.length_append, R.len]; rfl)) (R.len _ _)
    try simp only [List.append_assoc, List.nil_append, List.append_nil] at h
    exact h
  okg _ := trivial
  oks _ _ := trivial
def TAddr_l_B : Lens TAddr (Vector UInt8 16) where
  off := 1
  get x := x.B
  set x y := { x with B := y }
  getR r := ()
  setR r s := r
  fits := by decide
  rd x r := by
    have h := seg_rd (R.cells x.V ()) (R.cells x.B ()) ([]) (o := 1) (by first | rfl | (simp only [List.length_append, R.len]; rfl)) (R.len _ _)
    try simp only [List.append_assoc, List.nil_append, List.append_nil] at h
    exact h
  wr x r y s := by
    have h := seg_wr (R.cells x.V ()) (R.cells x.B ()) ([]) (R.cells y s) (o := 1) (by first | rfl | (simp only [List.length_append, R.len]; rfl)) (R.len _ _)
    try simp only [List.append_assoc, List.nil_append, List.append_nil] at h
    exact h
  okg _ := trivial
  oks _ _ := trivial

structure TEndpoint where
  A : TAddr
  Port : Int
  deriving DecidableEq, Inhabited
instance TEndpoint_instR : R TEndpoint where
  Raw := Unit
  dflt := ()
  agg := true
  size := 18
  cells x r := R.cells x.A () ++ (R.cells x.Port ())
  ok _ _ _ _ := True
  len x r := by simp only [List.length_append, R.len]; rfl
  one h := by cases h
  ones x r v hv := by
    simp only [List.mem_append] at hv
    rcases hv with hv | hv <;> exact R.ones _ _ v hv
  stable _ _ := trivial
def TEndpoint_zero : TEndpoint := ⟨TAddr_zero, (0 : Int)⟩
def TEndpoint_l_A : Lens TEndpoint TAddr where
  off := 0
  get x := x.A
  set x y := { x with A := y }
  getR r := ()
  setR r s := r
  fits := by decide
  rd x r := by
    have h := seg_rd ([]) (R.cells x.A ()) (R.cells x.Port ()) (o := 0) (by first | rfl | (simp only [List.length_append, R.len]; rfl)) (R.len _ _)
    try simp only [List.append_assoc, List.nil_append, List.append_nil] at h
    exact h
  wr x r y s := by
    have h := seg_wr ([]) (R.cells x.A ()) (R.cells x.Port ()) (R.cells y s) (o := 0) (by first | rfl | (simp only [List.length_append, R.len]; rfl)) (R.len _ _)
    try simp only [List.append_assoc, List.nil_append, List.append_nil] at h
    exact h
  okg _ := trivial
  oks _ _ := trivial
def TEndpoint_l_Port : Lens TEndpoint Int where
  off := 17
  get x := x.Port
  set x y := { x with Port := y }
  getR r := ()
  setR r s := r
  fits := by decide
  rd x r := by
    have h := seg_rd (R.cells x.A ()) (R.cells x.Port ()) ([]) (o := 17) (by first | rfl | (simp only [List.length_append, R.len]; rfl)) (R.len _ _)
    try simp only [List.append_assoc, List.nil_append, List.append_nil] at h
    exact h
  wr x r y s := by
    have h := seg_wr (R.cells x.A ()) (R.cells x.Port ()) ([]) (R.cells y s) (o := 17) (by first | rfl | (simp only [List.length_append, R.len]; rfl)) (R.len _ _)
    try simp only [List.append_assoc, List.nil_append, List.append_nil] at h
    exact h
  okg _ := trivial
  oks _ _ := trivial

structure TPrefix where
  A : TAddr
  Bits : Int
  deriving DecidableEq, Inhabited
instance TPrefix_instR : R TPrefix where
  Raw := Unit
  dflt := ()
  agg := true
  size := 18
  cells x r := R.cells x.A () ++ (R.cells x.Bits ())
  ok _ _ _ _ := True
  len x r := by simp only [List.length_append, R.len]; rfl
  one h := by cases h
  ones x r v hv := by
    simp only [List.mem_append] at hv
    rcases hv with hv | hv <;> exact R.ones _ _ v hv
  stable _ _ := trivial
def TPrefix_zero : TPrefix := ⟨TAddr_zero, (0 : Int)⟩
def TPrefix_l_A : Lens TPrefix TAddr where
  off := 0
  get x := x.A
  set x y := { x with A := y }
  getR r := ()
  setR r s := r
  fits := by decide
  rd x r := by
    have h := seg_rd ([]) (R.cells x.A ()) (R.cells x.Bits ()) (o := 0) (by first | rfl | (simp only [List.length_append, R.len]; rfl)) (R.len _ _)
    try simp only [List.append_assoc, List.nil_append, List.append_nil] at h
    exact h
  wr x r y s := by
    have h := seg_wr ([]) (R.cells x.A ()) (R.cells x.Bits ()) (R.cells y s) (o := 0) (by first | rfl | (simp only [List.length_append, R.len]; rfl)) (R.len _ _)
    try simp only [List.append_assoc, List.nil_append, List.append_nil] at h
    exact h
  okg _ := trivial
  oks _ _ := trivial
def TPrefix_l_Bits : Lens TPrefix Int where
  off := 17
  get x := x.Bits
  set x y := { x with Bits := y }
  getR r := ()
  setR r s := r
  fits := by decide
  rd x r := by
    have h := seg_rd (R.cells x.A ()) (R.cells x.Bits ()) ([]) (o := 17) (by first | rfl | (simp only [List.length_append, R.len]; rfl)) (R.len _ _)
    try simp only [List.append_assoc, List.nil_append, List.append_nil] at h
    exact h
  wr x r y s := by
    have h := seg_wr (R.cells x.A ()) (R.cells x.Bits ()) ([]) (R.cells y s) (o := 17) (by first | rfl | (simp only [List.length_append, R.len]; rfl)) (R.len _ _)
    try simp only [List.append_assoc, List.nil_append, List.append_nil] at h
    exact h
  okg _ := trivial
  oks _ _ := trivial

structure TPeer where
  Key : (Vector UInt8 32)
  Psk : (Vector UInt8 32)
  End : TEndpoint
  Keep : Int
  Sent : UInt64
  Got : UInt64
  Allowed : (List TPrefix)
  deriving DecidableEq, Inhabited
instance TPeer_instR : R TPeer where
  Raw := (Option Go.Addr × Nat)
  dflt := (none, 0)
  agg := true
  size := 86
  cells x r := R.cells x.Key () ++ (R.cells x.Psk () ++ (R.cells x.End () ++ (R.cells x.Keep () ++ (R.cells x.Sent () ++ (R.cells x.Got () ++ (R.cells x.Allowed r))))))
  ok m w x r := R.ok m w x.Allowed r
  len x r := by simp only [List.length_append, R.len]; rfl
  one h := by cases h
  ones x r v hv := by
    simp only [List.mem_append] at hv
    rcases hv with hv | hv | hv | hv | hv | hv | hv <;> exact R.ones _ _ v hv
  stable he h := R.stable he h
def TPeer_zero : TPeer := ⟨(Vector.replicate 32 (0 : UInt8)), (Vector.replicate 32 (0 : UInt8)), TEndpoint_zero, (0 : Int), (0 : UInt64), (0 : UInt64), ([] : (List TPrefix))⟩
def TPeer_l_Key : Lens TPeer (Vector UInt8 32) where
  off := 0
  get x := x.Key
  set x y := { x with Key := y }
  getR r := ()
  setR r s := r
  fits := by decide
  rd x r := by
    have h := seg_rd ([]) (R.cells x.Key ()) (R.cells x.Psk () ++ (R.cells x.End () ++ (R.cells x.Keep () ++ (R.cells x.Sent () ++ (R.cells x.Got () ++ (R.cells x.Allowed r)))))) (o := 0) (by first | rfl | (simp only [List.length_append, R.len]; rfl)) (R.len _ _)
    try simp only [List.append_assoc, List.nil_append, List.append_nil] at h
    exact h
  wr x r y s := by
    have h := seg_wr ([]) (R.cells x.Key ()) (R.cells x.Psk () ++ (R.cells x.End () ++ (R.cells x.Keep () ++ (R.cells x.Sent () ++ (R.cells x.Got () ++ (R.cells x.Allowed r)))))) (R.cells y s) (o := 0) (by first | rfl | (simp only [List.length_append, R.len]; rfl)) (R.len _ _)
    try simp only [List.append_assoc, List.nil_append, List.append_nil] at h
    exact h
  okg _ := by trivial
  oks h _ := h
def TPeer_l_Psk : Lens TPeer (Vector UInt8 32) where
  off := 32
  get x := x.Psk
  set x y := { x with Psk := y }
  getR r := ()
  setR r s := r
  fits := by decide
  rd x r := by
    have h := seg_rd (R.cells x.Key ()) (R.cells x.Psk ()) (R.cells x.End () ++ (R.cells x.Keep () ++ (R.cells x.Sent () ++ (R.cells x.Got () ++ (R.cells x.Allowed r))))) (o := 32) (by first | rfl | (simp only [List.length_append, R.len]; rfl)) (R.len _ _)
    try simp only [List.append_assoc, List.nil_append, List.append_nil] at h
    exact h
  wr x r y s := by
    have h := seg_wr (R.cells x.Key ()) (R.cells x.Psk ()) (R.cells x.End () ++ (R.cells x.Keep () ++ (R.cells x.Sent () ++ (R.cells x.Got () ++ (R.cells x.Allowed r))))) (R.cells y s) (o := 32) (by first | rfl | (simp only [List.length_append, R.len]; rfl)) (R.len _ _)
    try simp only [List.append_assoc, List.nil_append, List.append_nil] at h
    exact h
  okg _ := by trivial
  oks h _ := h
def TPeer_l_End : Lens TPeer TEndpoint where
  off := 64
  get x := x.End
  set x y := { x with End := y }
  getR r := ()
  setR r s := r
  fits := by decide
  rd x r := by
    have h := seg_rd (R.cells x.Key () ++ (R.cells x.Psk ())) (R.cells x.End ()) (R.cells x.Keep () ++ (R.cells x.Sent () ++ (R.cells x.Got () ++ (R.cells x.Allowed r)))) (o := 64) (by first | rfl | (simp only [List.length_append, R.len]; rfl)) (R.len _ _)
    try simp only [List.append_assoc, List.nil_append, List.append_nil] at h
    exact h
  wr x r y s := by
    have h := seg_wr (R.cells x.Key () ++ (R.cells x.Psk ())) (R.cells x.End ()) (R.cells x.Keep () ++ (R.cells x.Sent () ++ (R.cells x.Got () ++ (R.cells x.Allowed r)))) (R.cells y s) (o := 64) (by first | rfl | (simp only [List.length_append, R.len]; rfl)) (R.len _ _)
    try simp only [List.append_assoc, List.nil_append, List.append_nil] at h
    exact h
  okg _ := by trivial
  oks h _ := h
def TPeer_l_Keep : Lens TPeer Int where
  off := 82
  get x := x.Keep
  set x y := { x with Keep := y }
  getR r := ()
  setR r s := r
  fits := by decide
  rd x r := by
    have h := seg_rd (R.cells x.Key () ++ (R.cells x.Psk () ++ (R.cells x.End ()))) (R.cells x.Keep ()) (R.cells x.Sent () ++ (R.cells x.Got () ++ (R.cells x.Allowed r))) (o := 82) (by first | rfl | (simp only [List.length_append, R.len]; rfl)) (R.len _ _)
    try simp only [List.append_assoc, List.nil_append, List.append_nil] at h
    exact h
  wr x r y s := by
    have h := seg_wr (R.cells x.Key () ++ (R.cells x.Psk () ++ (R.cells x.End ()))) (R.cells x.Keep ()) (R.cells x.Sent () ++ (R.cells x.Got () ++ (R.cells x.Allowed r))) (R.cells y s) (o := 82) (by first | rfl | (simp only [List.length_append, R.len]; rfl)) (R.len _ _)
    try simp only [List.append_assoc, List.nil_append, List.append_nil] at h
    exact h
  okg _ := by trivial
  oks h _ := h
def TPeer_l_Sent : Lens TPeer UInt64 where
  off := 83
  get x := x.Sent
  set x y := { x with Sent := y }
  getR r := ()
  setR r s := r
  fits := by decide
  rd x r := by
    have h := seg_rd (R.cells x.Key () ++ (R.cells x.Psk () ++ (R.cells x.End () ++ (R.cells x.Keep ())))) (R.cells x.Sent ()) (R.cells x.Got () ++ (R.cells x.Allowed r)) (o := 83) (by first | rfl | (simp only [List.length_append, R.len]; rfl)) (R.len _ _)
    try simp only [List.append_assoc, List.nil_append, List.append_nil] at h
    exact h
  wr x r y s := by
    have h := seg_wr (R.cells x.Key () ++ (R.cells x.Psk () ++ (R.cells x.End () ++ (R.cells x.Keep ())))) (R.cells x.Sent ()) (R.cells x.Got () ++ (R.cells x.Allowed r)) (R.cells y s) (o := 83) (by first | rfl | (simp only [List.length_append, R.len]; rfl)) (R.len _ _)
    try simp only [List.append_assoc, List.nil_append, List.append_nil] at h
    exact h
  okg _ := by trivial
  oks h _ := h
def TPeer_l_Got : Lens TPeer UInt64 where
  off := 84
  get x := x.Got
  set x y := { x with Got := y }
  getR r := ()
  setR r s := r
  fits := by decide
  rd x r := by
    have h := seg_rd (R.cells x.Key () ++ (R.cells x.Psk () ++ (R.cells x.End () ++ (R.cells x.Keep () ++ (R.cells x.Sent ()))))) (R.cells x.Got ()) (R.cells x.Allowed r) (o := 84) (by first | rfl | (simp only [List.length_append, R.len]; rfl)) (R.len _ _)
    try simp only [List.append_assoc, List.nil_append, List.append_nil] at h
    exact h
  wr x r y s := by
    have h := seg_wr (R.cells x.Key () ++ (R.cells x.Psk () ++ (R.cells x.End () ++ (R.cells x.Keep () ++ (R.cells x.Sent ()))))) (R.cells x.Got ()) (R.cells x.Allowed r) (R.cells y s) (o := 84) (by first | rfl | (simp only [List.length_append, R.len]; rfl)) (R.len _ _)
    try simp only [List.append_assoc, List.nil_append, List.append_nil] at h
    exact h
  okg _ := by trivial
  oks h _ := h
def TPeer_l_Allowed : Lens TPeer (List TPrefix) where
  off := 85
  get x := x.Allowed
  set x y := { x with Allowed := y }
  getR r := r
  setR r s := s
  fits := by decide
  rd x r := by
    have h := seg_rd (R.cells x.Key () ++ (R.cells x.Psk () ++ (R.cells x.End () ++ (R.cells x.Keep () ++ (R.cells x.Sent () ++ (R.cells x.Got ())))))) (R.cells x.Allowed r) ([]) (o := 85) (by first | rfl | (simp only [List.length_append, R.len]; rfl)) (R.len _ _)
    try simp only [List.append_assoc, List.nil_append, List.append_nil] at h
    exact h
  wr x r y s := by
    have h := seg_wr (R.cells x.Key () ++ (R.cells x.Psk () ++ (R.cells x.End () ++ (R.cells x.Keep () ++ (R.cells x.Sent () ++ (R.cells x.Got ())))))) (R.cells x.Allowed r) ([]) (R.cells y s) (o := 85) (by first | rfl | (simp only [List.length_append, R.len]; rfl)) (R.len _ _)
    try simp only [List.append_assoc, List.nil_append, List.append_nil] at h
    exact h
  okg h := h
  oks _ h := h

structure TConf where
  Private : (Vector UInt8 32)
  Port : Int
  Mark : UInt32
  Peers : (List TPeer)
  deriving DecidableEq, Inhabited
instance TConf_instR : R TConf where
  Raw := (Option Go.Addr × Nat)
  dflt := (none, 0)
  agg := true
  size := 35
  cells x r := R.cells x.Private () ++ (R.cells x.Port () ++ (R.cells x.Mark () ++ (R.cells x.Peers r)))
  ok m w x r := R.ok m w x.Peers r
  len x r := by simp only [List.length_append, R.len]; rfl
  one h := by cases h
  ones x r v hv := by
    simp only [List.mem_append] at hv
    rcases hv with hv | hv | hv | hv <;> exact R.ones _ _ v hv
  stable he h := R.stable he h
def TConf_zero : TConf := ⟨(Vector.replicate 32 (0 : UInt8)), (0 : Int), (0 : UInt32), ([] : (List TPeer))⟩
def TConf_l_Private : Lens TConf (Vector UInt8 32) where
  off := 0
  get x := x.Private
  set x y := { x with Private := y }
  getR r := ()
  setR r s := r
  fits := by decide
  rd x r := by
    have h := seg_rd ([]) (R.cells x.Private ()) (R.cells x.Port () ++ (R.cells x.Mark () ++ (R.cells x.Peers r))) (o := 0) (by first | rfl | (simp only [List.length_append, R.len]; rfl)) (R.len _ _)
    try simp only [List.append_assoc, List.nil_append, List.append_nil] at h
    exact h
  wr x r y s := by
    have h := seg_wr ([]) (R.cells x.Private ()) (R.cells x.Port () ++ (R.cells x.Mark () ++ (R.cells x.Peers r))) (R.cells y s) (o := 0) (by first | rfl | (simp only [List.length_append, R.len]; rfl)) (R.len _ _)
    try simp only [List.append_assoc, List.nil_append, List.append_nil] at h
    exact h
  okg _ := by trivial
  oks h _ := h
def TConf_l_Port : Lens TConf Int where
  off := 32
  get x := x.Port
  set x y := { x with Port := y }
  getR r := ()
  setR r s := r
  fits := by decide
  rd x r := by
    have h := seg_rd (R.cells x.Private ()) (R.cells x.Port ()) (R.cells x.Mark () ++ (R.cells x.Peers r)) (o := 32) (by first | rfl | (simp only [List.length_append, R.len]; rfl)) (R.len _ _)
    try simp only [List.append_assoc, List.nil_append, List.append_nil] at h
    exact h
  wr x r y s := by
    have h := seg_wr (R.cells x.Private ()) (R.cells x.Port ()) (R.cells x.Mark () ++ (R.cells x.Peers r)) (R.cells y s) (o := 32) (by first | rfl | (simp only [List.length_append, R.len]; rfl)) (R.len _ _)
    try simp only [List.append_assoc, List.nil_append, List.append_nil] at h
    exact h
  okg _ := by trivial
  oks h _ := h
def TConf_l_Mark : Lens TConf UInt32 where
  off := 33
  get x := x.Mark
  set x y := { x with Mark := y }
  getR r := ()
  setR r s := r
  fits := by decide
  rd x r := by
    have h := seg_rd (R.cells x.Private () ++ (R.cells x.Port ())) (R.cells x.Mark ()) (R.cells x.Peers r) (o := 33) (by first | rfl | (simp only [List.length_append, R.len]; rfl)) (R.len _ _)
    try simp only [List.append_assoc, List.nil_append, List.append_nil] at h
    exact h
  wr x r y s := by
    have h := seg_wr (R.cells x.Private () ++ (R.cells x.Port ())) (R.cells x.Mark ()) (R.cells x.Peers r) (R.cells y s) (o := 33) (by first | rfl | (simp only [List.length_append, R.len]; rfl)) (R.len _ _)
    try simp only [List.append_assoc, List.nil_append, List.append_nil] at h
    exact h
  okg _ := by trivial
  oks h _ := h
def TConf_l_Peers : Lens TConf (List TPeer) where
  off := 34
  get x := x.Peers
  set x y := { x with Peers := y }
  getR r := r
  setR r s := s
  fits := by decide
  rd x r := by
    have h := seg_rd (R.cells x.Private () ++ (R.cells x.Port () ++ (R.cells x.Mark ()))) (R.cells x.Peers r) ([]) (o := 34) (by first | rfl | (simp only [List.length_append, R.len]; rfl)) (R.len _ _)
    try simp only [List.append_assoc, List.nil_append, List.append_nil] at h
    exact h
  wr x r y s := by
    have h := seg_wr (R.cells x.Private () ++ (R.cells x.Port () ++ (R.cells x.Mark ()))) (R.cells x.Peers r) ([]) (R.cells y s) (o := 34) (by first | rfl | (simp only [List.length_append, R.len]; rfl)) (R.len _ _)
    try simp only [List.append_assoc, List.nil_append, List.append_nil] at h
    exact h
  okg h := h
  oks _ h := h

structure TPeerChange where
  Key : (Vector UInt8 32)
  Remove : Bool
  Update : Bool
  HasPsk : Bool
  Psk : (Vector UInt8 32)
  HasEnd : Bool
  End : TEndpoint
  HasKeep : Bool
  Keep : Int
  Replace : Bool
  Allowed : (List TPrefix)
  deriving DecidableEq, Inhabited
instance TPeerChange_instR : R TPeerChange where
  Raw := (Option Go.Addr × Nat)
  dflt := (none, 0)
  agg := true
  size := 90
  cells x r := R.cells x.Key () ++ (R.cells x.Remove () ++ (R.cells x.Update () ++ (R.cells x.HasPsk () ++ (R.cells x.Psk () ++ (R.cells x.HasEnd () ++ (R.cells x.End () ++ (R.cells x.HasKeep () ++ (R.cells x.Keep () ++ (R.cells x.Replace () ++ (R.cells x.Allowed r))))))))))
  ok m w x r := R.ok m w x.Allowed r
  len x r := by simp only [List.length_append, R.len]; rfl
  one h := by cases h
  ones x r v hv := by
    simp only [List.mem_append] at hv
    rcases hv with hv | hv | hv | hv | hv | hv | hv | hv | hv | hv | hv <;> exact R.ones _ _ v hv
  stable he h := R.stable he h
def TPeerChange_zero : TPeerChange := ⟨(Vector.replicate 32 (0 : UInt8)), false, false, false, (Vector.replicate 32 (0 : UInt8)), false, TEndpoint_zero, false, (0 : Int), false, ([] : (List TPrefix))⟩
def TPeerChange_l_Key : Lens TPeerChange (Vector UInt8 32) where
  off := 0
  get x := x.Key
  set x y := { x with Key := y }
  getR r := ()
  setR r s := r
  fits := by decide
  rd x r := by
    have h := seg_rd ([]) (R.cells x.Key ()) (R.cells x.Remove () ++ (R.cells x.Update () ++ (R.cells x.HasPsk () ++ (R.cells x.Psk () ++ (R.cells x.HasEnd () ++ (R.cells x.End () ++ (R.cells x.HasKeep () ++ (R.cells x.Keep () ++ (R.cells x.Replace () ++ (R.cells x.Allowed r)))))))))) (o := 0) (by first | rfl | (simp only [List.length_append, R.len]; rfl)) (R.len _ _)
    try simp only [List.append_assoc, List.nil_append, List.append_nil] at h
    exact h
  wr x r y s := by
    have h := seg_wr ([]) (R.cells x.Key ()) (R.cells x.Remove () ++ (R.cells x.Update () ++ (R.cells x.HasPsk () ++ (R.cells x.Psk () ++ (R.cells x.HasEnd () ++ (R.cells x.End () ++ (R.cells x.HasKeep () ++ (R.cells x.Keep () ++ (R.cells x.Replace () ++ (R.cells x.Allowed r)))))))))) (R.cells y s) (o := 0) (by first | rfl | (simp only [List.length_append, R.len]; rfl)) (R.len _ _)
    try simp only [List.append_assoc, List.nil_append, List.append_nil] at h
    exact h
  okg _ := by trivial
  oks h _ := h
def TPeerChange_l_Remove : Lens TPeerChange Bool where
  off := 32
  get x := x.Remove
  set x y := { x with Remove := y }
  getR r := ()
  setR r s := r
  fits := by decide
  rd x r := by
    have h := seg_rd (R.cells x.Key ()) (R.cells x.Remove ()) (R.cells x.Update () ++ (R.cells x.HasPsk () ++ (R.cells x.Psk () ++ (R.cells x.HasEnd () ++ (R.cells x.End () ++ (R.cells x.HasKeep () ++ (R.cells x.Keep () ++ (R.cells x.Replace () ++ (R.cells x.Allowed r))))))))) (o := 32) (by first | rfl | (simp only [List.length_append, R.len]; rfl)) (R.len _ _)
    try simp only [List.append_assoc, List.nil_append, List.append_nil] at h
    exact h
  wr x r y s := by
    have h := seg_wr (R.cells x.Key ()) (R.cells x.Remove ()) (R.cells x.Update () ++ (R.cells x.HasPsk () ++ (R.cells x.Psk () ++ (R.cells x.HasEnd () ++ (R.cells x.End () ++ (R.cells x.HasKeep () ++ (R.cells x.Keep () ++ (R.cells x.Replace () ++ (R.cells x.Allowed r))))))))) (R.cells y s) (o := 32) (by first | rfl | (simp only [List.length_append, R.len]; rfl)) (R.len _ _)
    try simp only [List.append_assoc, List.nil_append, List.append_nil] at h
    exact h
  okg _ := by trivial
  oks h _ := h
def TPeerChange_l_Update : Lens TPeerChange Bool where
  off := 33
  get x := x.Update
  set x y := { x with Update := y }
  getR r := ()
  setR r s := r
  fits := by decide
  rd x r := by
    have h := seg_rd (R.cells x.Key () ++ (R.cells x.Remove ())) (R.cells x.Update ()) (R.cells x.HasPsk () ++ (R.cells x.Psk () ++ (R.cells x.HasEnd () ++ (R.cells x.End () ++ (R.cells x.HasKeep () ++ (R.cells x.Keep () ++ (R.cells x.Replace () ++ (R.cells x.Allowed r)))))))) (o := 33) (by first | rfl | (simp only [List.length_append, R.len]; rfl)) (R.len _ _)
    try simp only [List.append_assoc, List.nil_append, List.append_nil] at h
    exact h
  wr x r y s := by
    have h := seg_wr (R.cells x.Key () ++ (R.cells x.Remove ())) (R.cells x.Update ()) (R.cells x.HasPsk () ++ (R.cells x.Psk () ++ (R.cells x.HasEnd () ++ (R.cells x.End () ++ (R.cells x.HasKeep () ++ (R.cells x.Keep () ++ (R.cells x.Replace () ++ (R.cells x.Allowed r)))))))) (R.cells y s) (o := 33) (by first | rfl | (simp only [List.length_append, R.len]; rfl)) (R.len _ _)
    try simp only [List.append_assoc, List.nil_append, List.append_nil] at h
    exact h
  okg _ := by trivial
  oks h _ := h
def TPeerChange_l_HasPsk : Lens TPeerChange Bool where
  off := 34
  get x := x.HasPsk
  set x y := { x with HasPsk := y }
  getR r := ()
  setR r s := r
  fits := by decide
  rd x r := by
    have h := seg_rd (R.cells x.Key () ++ (R.cells x.Remove () ++ (R.cells x.Update ()))) (R.cells x.HasPsk ()) (R.cells x.Psk () ++ (R.cells x.HasEnd () ++ (R.cells x.End () ++ (R.cells x.HasKeep () ++ (R.cells x.Keep () ++ (R.cells x.Replace () ++ (R.cells x.Allowed r))))))) (o := 34) (by first | rfl | (simp only [List.length_append, R.len]; rfl)) (R.len _ _)
    try simp only [List.append_assoc, List.nil_append, List.append_nil] at h
    exact h
  wr x r y s := by
    have h := seg_wr (R.cells x.Key () ++ (R.cells x.Remove () ++ (R.cells x.Update ()))) (R.cells x.HasPsk ()) (R.cells x.Psk () ++ (R.cells x.HasEnd () ++ (R.cells x.End () ++ (R.cells x.HasKeep () ++ (R.cells x.Keep () ++ (R.cells x.Replace () ++ (R.cells x.Allowed r))))))) (R.cells y s) (o := 34) (by first | rfl | (simp only [List.length_append, R.len]; rfl)) (R.len _ _)
    try simp only [List.append_assoc, List.nil_append, List.append_nil] at h
    exact h
  okg _ := by trivial
  oks h _ := h
def TPeerChange_l_Psk : Lens TPeerChange (Vector UInt8 32) where
  off := 35
  get x := x.Psk
  set x y := { x with Psk := y }
  getR r := ()
  setR r s := r
  fits := by decide
  rd x r := by
    have h := seg_rd (R.cells x.Key () ++ (R.cells x.Remove () ++ (R.cells x.Update () ++ (R.cells x.HasPsk ())))) (R.cells x.Psk ()) (R.cells x.HasEnd () ++ (R.cells x.End () ++ (R.cells x.HasKeep () ++ (R.cells x.Keep () ++ (R.cells x.Replace () ++ (R.cells x.Allowed r)))))) (o := 35) (by first | rfl | (simp only [List.length_append, R.len]; rfl)) (R.len _ _)
    try simp only [List.append_assoc, List.nil_append, List.append_nil] at h
    exact h
  wr x r y s := by
    have h := seg_wr (R.cells x.Key () ++ (R.cells x.Remove () ++ (R.cells x.Update () ++ (R.cells x.HasPsk ())))) (R.cells x.Psk ()) (R.cells x.HasEnd () ++ (R.cells x.End () ++ (R.cells x.HasKeep () ++ (R.cells x.Keep () ++ (R.cells x.Replace () ++ (R.cells x.Allowed r)))))) (R.cells y s) (o := 35) (by first | rfl | (simp only [List.length_append, R.len]; rfl)) (R.len _ _)
    try simp only [List.append_assoc, List.nil_append, List.append_nil] at h
    exact h
  okg _ := by trivial
  oks h _ := h
def TPeerChange_l_HasEnd : Lens TPeerChange Bool where
  off := 67
  get x := x.HasEnd
  set x y := { x with HasEnd := y }
  getR r := ()
  setR r s := r
  fits := by decide
  rd x r := by
    have h := seg_rd (R.cells x.Key () ++ (R.cells x.Remove () ++ (R.cells x.Update () ++ (R.cells x.HasPsk () ++ (R.cells x.Psk ()))))) (R.cells x.HasEnd ()) (R.cells x.End () ++ (R.cells x.HasKeep () ++ (R.cells x.Keep () ++ (R.cells x.Replace () ++ (R.cells x.Allowed r))))) (o := 67) (by first | rfl | (simp only [List.length_append, R.len]; rfl)) (R.len _ _)
    try simp only [List.append_assoc, List.nil_append, List.append_nil] at h
    exact h
  wr x r y s := by
    have h := seg_wr (R.cells x.Key () ++ (R.cells x.Remove () ++ (R.cells x.Update () ++ (R.cells x.HasPsk () ++ (R.cells x.Psk ()))))) (R.cells x.HasEnd ()) (R.cells x.End () ++ (R.cells x.HasKeep () ++ (R.cells x.Keep () ++ (R.cells x.Replace () ++ (R.cells x.Allowed r))))) (R.cells y s) (o := 67) (by first | rfl | (simp only [List.length_append, R.len]; rfl)) (R.len _ _)
    try simp only [List.append_assoc, List.nil_append, List.append_nil] at h
    exact h
  okg _ := by trivial
  oks h _ := h
def TPeerChange_l_End : Lens TPeerChange TEndpoint where
  off := 68
  get x := x.End
  set x y := { x with End := y }
  getR r := ()
  setR r s := r
  fits := by decide
  rd x r := by
    have h := seg_rd (R.cells x.Key () ++ (R.cells x.Remove () ++ (R.cells x.Update () ++ (R.cells x.HasPsk () ++ (R.cells x.Psk () ++ (R.cells x.HasEnd ())))))) (R.cells x.End ()) (R.cells x.HasKeep () ++ (R.cells x.Keep () ++ (R.cells x.Replace () ++ (R.cells x.Allowed r)))) (o := 68) (by first | rfl | (simp only [List.length_append, R.len]; rfl)) (R.len _ _)
    try simp only [List.append_assoc, List.nil_append, List.append_nil] at h
    exact h
  wr x r y s := by
    have h := seg_wr (R.cells x.Key () ++ (R.cells x.Remove () ++ (R.cells x.Update () ++ (R.cells x.HasPsk () ++ (R.cells x.Psk () ++ (R.cells x.HasEnd ())))))) (R.cells x.End ()) (R.cells x.HasKeep () ++ (R.cells x.Keep () ++ (R.cells x.Replace () ++ (R.cells x.Allowed r)))) (R.cells y s) (o := 68) (by first | rfl | (simp only [List.length_append, R.len]; rfl)) (R.len _ _)
    try simp only [List.append_assoc, List.nil_append, List.append_nil] at h
    exact h
  okg _ := by trivial
  oks h _ := h
def TPeerChange_l_HasKeep : Lens TPeerChange Bool where
  off := 86
  get x := x.HasKeep
  set x y := { x with HasKeep := y }
  getR r := ()
  setR r s := r
  fits := by decide
  rd x r := by
    have h := seg_rd (R.cells x.Key () ++ (R.cells x.Remove () ++ (R.cells x.Update () ++ (R.cells x.HasPsk () ++ (R.cells x.Psk () ++ (R.cells x.HasEnd () ++ (R.cells x.End ()))))))) (R.cells x.HasKeep ()) (R.cells x.Keep () ++ (R.cells x.Replace () ++ (R.cells x.Allowed r))) (o := 86) (by first | rfl | (simp only [List.length_append, R.len]; rfl)) (R.len _ _)
    try simp only [List.append_assoc, List.nil_append, List.append_nil] at h
    exact h
  wr x r y s := by
    have h := seg_wr (R.cells x.Key () ++ (R.cells x.Remove () ++ (R.cells x.Update () ++ (R.cells x.HasPsk () ++ (R.cells x.Psk () ++ (R.cells x.HasEnd () ++ (R.cells x.End ()))))))) (R.cells x.HasKeep ()) (R.cells x.Keep () ++ (R.cells x.Replace () ++ (R.cells x.Allowed r))) (R.cells y s) (o := 86) (by first | rfl | (simp only [List.length_append, R.len]; rfl)) (R.len _ _)
    try simp only [List.append_assoc, List.nil_append, List.append_nil] at h
    exact h
  okg _ := by trivial
  oks h _ := h
def TPeerChange_l_Keep : Lens TPeerChange Int where
  off := 87
  get x := x.Keep
  set x y := { x with Keep := y }
  getR r := ()
  setR r s := r
  fits := by decide
  rd x r := by
    have h := seg_rd (R.cells x.Key () ++ (R.cells x.Remove () ++ (R.cells x.Update () ++ (R.cells x.HasPsk () ++ (R.cells x.Psk () ++ (R.cells x.HasEnd () ++ (R.cells x.End () ++ (R.cells x.HasKeep ())))))))) (R.cells x.Keep ()) (R.cells x.Replace () ++ (R.cells x.Allowed r)) (o := 87) (by first | rfl | (simp only [List.length_append, R.len]; rfl)) (R.len _ _)
    try simp only [List.append_assoc, List.nil_append, List.append_nil] at h
    exact h
  wr x r y s := by
    have h := seg_wr (R.cells x.Key () ++ (R.cells x.Remove () ++ (R.cells x.Update () ++ (R.cells x.HasPsk () ++ (R.cells x.Psk () ++ (R.cells x.HasEnd () ++ (R.cells x.End () ++ (R.cells x.HasKeep ())))))))) (R.cells x.Keep ()) (R.cells x.Replace () ++ (R.cells x.Allowed r)) (R.cells y s) (o := 87) (by first | rfl | (simp only [List.length_append, R.len]; rfl)) (R.len _ _)
    try simp only [List.append_assoc, List.nil_append, List.append_nil] at h
    exact h
  okg _ := by trivial
  oks h _ := h
def TPeerChange_l_Replace : Lens TPeerChange Bool where
  off := 88
  get x := x.Replace
  set x y := { x with Replace := y }
  getR r := ()
  setR r s := r
  fits := by decide
  rd x r := by
    have h := seg_rd (R.cells x.Key () ++ (R.cells x.Remove () ++ (R.cells x.Update () ++ (R.cells x.HasPsk () ++ (R.cells x.Psk () ++ (R.cells x.HasEnd () ++ (R.cells x.End () ++ (R.cells x.HasKeep () ++ (R.cells x.Keep ()))))))))) (R.cells x.Replace ()) (R.cells x.Allowed r) (o := 88) (by first | rfl | (simp only [List.length_append, R.len]; rfl)) (R.len _ _)
    try simp only [List.append_assoc, List.nil_append, List.append_nil] at h
    exact h
  wr x r y s := by
    have h := seg_wr (R.cells x.Key () ++ (R.cells x.Remove () ++ (R.cells x.Update () ++ (R.cells x.HasPsk () ++ (R.cells x.Psk () ++ (R.cells x.HasEnd () ++ (R.cells x.End () ++ (R.cells x.HasKeep () ++ (R.cells x.Keep ()))))))))) (R.cells x.Replace ()) (R.cells x.Allowed r) (R.cells y s) (o := 88) (by first | rfl | (simp only [List.length_append, R.len]; rfl)) (R.len _ _)
    try simp only [List.append_assoc, List.nil_append, List.append_nil] at h
    exact h
  okg _ := by trivial
  oks h _ := h
def TPeerChange_l_Allowed : Lens TPeerChange (List TPrefix) where
  off := 89
  get x := x.Allowed
  set x y := { x with Allowed := y }
  getR r := r
  setR r s := s
  fits := by decide
  rd x r := by
    have h := seg_rd (R.cells x.Key () ++ (R.cells x.Remove () ++ (R.cells x.Update () ++ (R.cells x.HasPsk () ++ (R.cells x.Psk () ++ (R.cells x.HasEnd () ++ (R.cells x.End () ++ (R.cells x.HasKeep () ++ (R.cells x.Keep () ++ (R.cells x.Replace ())))))))))) (R.cells x.Allowed r) ([]) (o := 89) (by first | rfl | (simp only [List.length_append, R.len]; rfl)) (R.len _ _)
    try simp only [List.append_assoc, List.nil_append, List.append_nil] at h
    exact h
  wr x r y s := by
    have h := seg_wr (R.cells x.Key () ++ (R.cells x.Remove () ++ (R.cells x.Update () ++ (R.cells x.HasPsk () ++ (R.cells x.Psk () ++ (R.cells x.HasEnd () ++ (R.cells x.End () ++ (R.cells x.HasKeep () ++ (R.cells x.Keep () ++ (R.cells x.Replace ())))))))))) (R.cells x.Allowed r) ([]) (R.cells y s) (o := 89) (by first | rfl | (simp only [List.length_append, R.len]; rfl)) (R.len _ _)
    try simp only [List.append_assoc, List.nil_append, List.append_nil] at h
    exact h
  okg h := h
  oks _ h := h

structure TRequest where
  HasPrivate : Bool
  Private : (Vector UInt8 32)
  HasPort : Bool
  Port : Int
  HasMark : Bool
  Mark : UInt32
  Replace : Bool
  Peers : (List TPeerChange)
  deriving DecidableEq, Inhabited
instance TRequest_instR : R TRequest where
  Raw := (Option Go.Addr × Nat)
  dflt := (none, 0)
  agg := true
  size := 39
  cells x r := R.cells x.HasPrivate () ++ (R.cells x.Private () ++ (R.cells x.HasPort () ++ (R.cells x.Port () ++ (R.cells x.HasMark () ++ (R.cells x.Mark () ++ (R.cells x.Replace () ++ (R.cells x.Peers r)))))))
  ok m w x r := R.ok m w x.Peers r
  len x r := by simp only [List.length_append, R.len]; rfl
  one h := by cases h
  ones x r v hv := by
    simp only [List.mem_append] at hv
    rcases hv with hv | hv | hv | hv | hv | hv | hv | hv <;> exact R.ones _ _ v hv
  stable he h := R.stable he h
def TRequest_zero : TRequest := ⟨false, (Vector.replicate 32 (0 : UInt8)), false, (0 : Int), false, (0 : UInt32), false, ([] : (List TPeerChange))⟩
def TRequest_l_HasPrivate : Lens TRequest Bool where
  off := 0
  get x := x.HasPrivate
  set x y := { x with HasPrivate := y }
  getR r := ()
  setR r s := r
  fits := by decide
  rd x r := by
    have h := seg_rd ([]) (R.cells x.HasPrivate ()) (R.cells x.Private () ++ (R.cells x.HasPort () ++ (R.cells x.Port () ++ (R.cells x.HasMark () ++ (R.cells x.Mark () ++ (R.cells x.Replace () ++ (R.cells x.Peers r))))))) (o := 0) (by first | rfl | (simp only [List.length_append, R.len]; rfl)) (R.len _ _)
    try simp only [List.append_assoc, List.nil_append, List.append_nil] at h
    exact h
  wr x r y s := by
    have h := seg_wr ([]) (R.cells x.HasPrivate ()) (R.cells x.Private () ++ (R.cells x.HasPort () ++ (R.cells x.Port () ++ (R.cells x.HasMark () ++ (R.cells x.Mark () ++ (R.cells x.Replace () ++ (R.cells x.Peers r))))))) (R.cells y s) (o := 0) (by first | rfl | (simp only [List.length_append, R.len]; rfl)) (R.len _ _)
    try simp only [List.append_assoc, List.nil_append, List.append_nil] at h
    exact h
  okg _ := by trivial
  oks h _ := h
def TRequest_l_Private : Lens TRequest (Vector UInt8 32) where
  off := 1
  get x := x.Private
  set x y := { x with Private := y }
  getR r := ()
  setR r s := r
  fits := by decide
  rd x r := by
    have h := seg_rd (R.cells x.HasPrivate ()) (R.cells x.Private ()) (R.cells x.HasPort () ++ (R.cells x.Port () ++ (R.cells x.HasMark () ++ (R.cells x.Mark () ++ (R.cells x.Replace () ++ (R.cells x.Peers r)))))) (o := 1) (by first | rfl | (simp only [List.length_append, R.len]; rfl)) (R.len _ _)
    try simp only [List.append_assoc, List.nil_append, List.append_nil] at h
    exact h
  wr x r y s := by
    have h := seg_wr (R.cells x.HasPrivate ()) (R.cells x.Private ()) (R.cells x.HasPort () ++ (R.cells x.Port () ++ (R.cells x.HasMark () ++ (R.cells x.Mark () ++ (R.cells x.Replace () ++ (R.cells x.Peers r)))))) (R.cells y s) (o := 1) (by first | rfl | (simp only [List.length_append, R.len]; rfl)) (R.len _ _)
    try simp only [List.append_assoc, List.nil_append, List.append_nil] at h
    exact h
  okg _ := by trivial
  oks h _ := h
def TRequest_l_HasPort : Lens TRequest Bool where
  off := 33
  get x := x.HasPort
  set x y := { x with HasPort := y }
  getR r := ()
  setR r s := r
  fits := by decide
  rd x r := by
    have h := seg_rd (R.cells x.HasPrivate () ++ (R.cells x.Private ())) (R.cells x.HasPort ()) (R.cells x.Port () ++ (R.cells x.HasMark () ++ (R.cells x.Mark () ++ (R.cells x.Replace () ++ (R.cells x.Peers r))))) (o := 33) (by first | rfl | (simp only [List.length_append, R.len]; rfl)) (R.len _ _)
    try simp only [List.append_assoc, List.nil_append, List.append_nil] at h
    exact h
  wr x r y s := by
    have h := seg_wr (R.cells x.HasPrivate () ++ (R.cells x.Private ())) (R.cells x.HasPort ()) (R.cells x.Port () ++ (R.cells x.HasMark () ++ (R.cells x.Mark () ++ (R.cells x.Replace () ++ (R.cells x.Peers r))))) (R.cells y s) (o := 33) (by first | rfl | (simp only [List.length_append, R.len]; rfl)) (R.len _ _)
    try simp only [List.append_assoc, List.nil_append, List.append_nil] at h
    exact h
  okg _ := by trivial
  oks h _ := h
def TRequest_l_Port : Lens TRequest Int where
  off := 34
  get x := x.Port
  set x y := { x with Port := y }
  getR r := ()
  setR r s := r
  fits := by decide
  rd x r := by
    have h := seg_rd (R.cells x.HasPrivate () ++ (R.cells x.Private () ++ (R.cells x.HasPort ()))) (R.cells x.Port ()) (R.cells x.HasMark () ++ (R.cells x.Mark () ++ (R.cells x.Replace () ++ (R.cells x.Peers r)))) (o := 34) (by first | rfl | (simp only [List.length_append, R.len]; rfl)) (R.len _ _)
    try simp only [List.append_assoc, List.nil_append, List.append_nil] at h
    exact h
  wr x r y s := by
    have h := seg_wr (R.cells x.HasPrivate () ++ (R.cells x.Private () ++ (R.cells x.HasPort ()))) (R.cells x.Port ()) (R.cells x.HasMark () ++ (R.cells x.Mark () ++ (R.cells x.Replace () ++ (R.cells x.Peers r)))) (R.cells y s) (o := 34) (by first | rfl | (simp only [List.length_append, R.len]; rfl)) (R.len _ _)
    try simp only [List.append_assoc, List.nil_append, List.append_nil] at h
    exact h
  okg _ := by trivial
  oks h _ := h
def TRequest_l_HasMark : Lens TRequest Bool where
  off := 35
  get x := x.HasMark
  set x y := { x with HasMark := y }
  getR r := ()
  setR r s := r
  fits := by decide
  rd x r := by
    have h := seg_rd (R.cells x.HasPrivate () ++ (R.cells x.Private () ++ (R.cells x.HasPort () ++ (R.cells x.Port ())))) (R.cells x.HasMark ()) (R.cells x.Mark () ++ (R.cells x.Replace () ++ (R.cells x.Peers r))) (o := 35) (by first | rfl | (simp only [List.length_append, R.len]; rfl)) (R.len _ _)
    try simp only [List.append_assoc, List.nil_append, List.append_nil] at h
    exact h
  wr x r y s := by
    have h := seg_wr (R.cells x.HasPrivate () ++ (R.cells x.Private () ++ (R.cells x.HasPort () ++ (R.cells x.Port ())))) (R.cells x.HasMark ()) (R.cells x.Mark () ++ (R.cells x.Replace () ++ (R.cells x.Peers r))) (R.cells y s) (o := 35) (by first | rfl | (simp only [List.length_append, R.len]; rfl)) (R.len _ _)
    try simp only [List.append_assoc, List.nil_append, List.append_nil] at h
    exact h
  okg _ := by trivial
  oks h _ := h
def TRequest_l_Mark : Lens TRequest UInt32 where
  off := 36
  get x := x.Mark
  set x y := { x with Mark := y }
  getR r := ()
  setR r s := r
  fits := by decide
  rd x r := by
    have h := seg_rd (R.cells x.HasPrivate () ++ (R.cells x.Private () ++ (R.cells x.HasPort () ++ (R.cells x.Port () ++ (R.cells x.HasMark ()))))) (R.cells x.Mark ()) (R.cells x.Replace () ++ (R.cells x.Peers r)) (o := 36) (by first | rfl | (simp only [List.length_append, R.len]; rfl)) (R.len _ _)
    try simp only [List.append_assoc, List.nil_append, List.append_nil] at h
    exact h
  wr x r y s := by
    have h := seg_wr (R.cells x.HasPrivate () ++ (R.cells x.Private () ++ (R.cells x.HasPort () ++ (R.cells x.Port () ++ (R.cells x.HasMark ()))))) (R.cells x.Mark ()) (R.cells x.Replace () ++ (R.cells x.Peers r)) (R.cells y s) (o := 36) (by first | rfl | (simp only [List.length_append, R.len]; rfl)) (R.len _ _)
    try simp only [List.append_assoc, List.nil_append, List.append_nil] at h
    exact h
  okg _ := by trivial
  oks h _ := h
def TRequest_l_Replace : Lens TRequest Bool where
  off := 37
  get x := x.Replace
  set x y := { x with Replace := y }
  getR r := ()
  setR r s := r
  fits := by decide
  rd x r := by
    have h := seg_rd (R.cells x.HasPrivate () ++ (R.cells x.Private () ++ (R.cells x.HasPort () ++ (R.cells x.Port () ++ (R.cells x.HasMark () ++ (R.cells x.Mark ())))))) (R.cells x.Replace ()) (R.cells x.Peers r) (o := 37) (by first | rfl | (simp only [List.length_append, R.len]; rfl)) (R.len _ _)
    try simp only [List.append_assoc, List.nil_append, List.append_nil] at h
    exact h
  wr x r y s := by
    have h := seg_wr (R.cells x.HasPrivate () ++ (R.cells x.Private () ++ (R.cells x.HasPort () ++ (R.cells x.Port () ++ (R.cells x.HasMark () ++ (R.cells x.Mark ())))))) (R.cells x.Replace ()) (R.cells x.Peers r) (R.cells y s) (o := 37) (by first | rfl | (simp only [List.length_append, R.len]; rfl)) (R.len _ _)
    try simp only [List.append_assoc, List.nil_append, List.append_nil] at h
    exact h
  okg _ := by trivial
  oks h _ := h
def TRequest_l_Peers : Lens TRequest (List TPeerChange) where
  off := 38
  get x := x.Peers
  set x y := { x with Peers := y }
  getR r := r
  setR r s := s
  fits := by decide
  rd x r := by
    have h := seg_rd (R.cells x.HasPrivate () ++ (R.cells x.Private () ++ (R.cells x.HasPort () ++ (R.cells x.Port () ++ (R.cells x.HasMark () ++ (R.cells x.Mark () ++ (R.cells x.Replace ()))))))) (R.cells x.Peers r) ([]) (o := 38) (by first | rfl | (simp only [List.length_append, R.len]; rfl)) (R.len _ _)
    try simp only [List.append_assoc, List.nil_append, List.append_nil] at h
    exact h
  wr x r y s := by
    have h := seg_wr (R.cells x.HasPrivate () ++ (R.cells x.Private () ++ (R.cells x.HasPort () ++ (R.cells x.Port () ++ (R.cells x.HasMark () ++ (R.cells x.Mark () ++ (R.cells x.Replace ()))))))) (R.cells x.Peers r) ([]) (R.cells y s) (o := 38) (by first | rfl | (simp only [List.length_append, R.len]; rfl)) (R.len _ _)
    try simp only [List.append_assoc, List.nil_append, List.append_nil] at h
    exact h
  okg h := h
  oks _ h := h
end Go.Cw
