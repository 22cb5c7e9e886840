/- Readings of the arguments. Written by gen.py. -/
import Derived.Test.YtcckclbpajegnaaCwN
import Derived.Test.YtcckclbpajegnaaCwR
set_option linter.all false
set_option linter.unusedVariables false
set_option linter.unusedSimpArgs false
namespace Go.Cw
open Go Go.Proofs
set_option maxRecDepth 20000
instance rd5 : Rd P 5 UInt8 := rd_ui Try.underlying5
instance rd23 : Rd P 23 (Vector UInt8 32) := rd_vec (E := 5) Try.underlying23 (by kernel_rfl) (by kernel_rfl)
instance rd3 : Rd P 3 Int := rd_int Try.underlying3
instance rd24 : Rd P 24 UInt32 := rd_ui Try.underlying24
instance rd37 : Rd P 37 (Vector UInt8 16) := rd_vec (E := 5) Try.underlying37 (by kernel_rfl) (by kernel_rfl)
instance rd39 : Rd P 39 TAddr := ⟨fun enc w sp hd fuel cs d ps ht => by
  obtain ⟨hlen, k, hf⟩ := rd_str Try.underlying39 (n := 17) (by kernel_rfl) ht
  obtain ⟨x0, r0, h0, k0⟩ := rd_fld (β := Int) hf 0 rfl (E := 3) (off := 0) (s := 1) (hs := by kernel_rfl)
  obtain ⟨x1, r1, h1, k1⟩ := rd_fld (β := (Vector UInt8 16)) hf 1 rfl (E := 37) (off := 1) (s := 16) (hs := by kernel_rfl)
  refine ⟨⟨x0, x1⟩, (), ?_, trivial⟩
  have e2 : cs.drop 17 = [] := List.drop_of_length_le (by omega)
  have e1 := seg_cut cs 1 16 _ _ h1 e2
  rw [List.append_nil] at e1
  have e0 := seg_cut cs 0 1 _ _ h0 e1
  rw [List.drop_zero] at e0
  exact e0⟩
instance rd41 : Rd P 41 TEndpoint := ⟨fun enc w sp hd fuel cs d ps ht => by
  obtain ⟨hlen, k, hf⟩ := rd_str Try.underlying41 (n := 18) (by kernel_rfl) ht
  obtain ⟨x0, r0, h0, k0⟩ := rd_fld (β := TAddr) hf 0 rfl (E := 39) (off := 0) (s := 17) (hs := by kernel_rfl)
  obtain ⟨x1, r1, h1, k1⟩ := rd_fld (β := Int) hf 1 rfl (E := 3) (off := 17) (s := 1) (hs := by kernel_rfl)
  refine ⟨⟨x0, x1⟩, (), ?_, trivial⟩
  have e2 : cs.drop 18 = [] := List.drop_of_length_le (by omega)
  have e1 := seg_cut cs 17 1 _ _ h1 e2
  rw [List.append_nil] at e1
  have e0 := seg_cut cs 0 17 _ _ h0 e1
  rw [List.drop_zero] at e0
  exact e0⟩
instance rd42 : Rd P 42 UInt64 := rd_ui Try.underlying42
instance rd57 : Rd P 57 TPrefix := ⟨fun enc w sp hd fuel cs d ps ht => by
  obtain ⟨hlen, k, hf⟩ := rd_str Try.underlying57 (n := 18) (by kernel_rfl) ht
  obtain ⟨x0, r0, h0, k0⟩ := rd_fld (β := TAddr) hf 0 rfl (E := 39) (off := 0) (s := 17) (hs := by kernel_rfl)
  obtain ⟨x1, r1, h1, k1⟩ := rd_fld (β := Int) hf 1 rfl (E := 3) (off := 17) (s := 1) (hs := by kernel_rfl)
  refine ⟨⟨x0, x1⟩, (), ?_, trivial⟩
  have e2 : cs.drop 18 = [] := List.drop_of_length_le (by omega)
  have e1 := seg_cut cs 17 1 _ _ h1 e2
  rw [List.append_nil] at e1
  have e0 := seg_cut cs 0 17 _ _ h0 e1
  rw [List.drop_zero] at e0
  exact e0⟩
instance rd43 : Rd P 43 (List TPrefix) := rd_list (E := 57) Try.underlying43 (by kernel_rfl) (by decide)
instance rd45 : Rd P 45 TPeer := ⟨fun enc w sp hd fuel cs d ps ht => by
  obtain ⟨hlen, k, hf⟩ := rd_str Try.underlying45 (n := 86) (by kernel_rfl) ht
  obtain ⟨x0, r0, h0, k0⟩ := rd_fld (β := (Vector UInt8 32)) hf 0 rfl (E := 23) (off := 0) (s := 32) (hs := by kernel_rfl)
  obtain ⟨x1, r1, h1, k1⟩ := rd_fld (β := (Vector UInt8 32)) hf 1 rfl (E := 23) (off := 32) (s := 32) (hs := by kernel_rfl)
  obtain ⟨x2, r2, h2, k2⟩ := rd_fld (β := TEndpoint) hf 2 rfl (E := 41) (off := 64) (s := 18) (hs := by kernel_rfl)
  obtain ⟨x3, r3, h3, k3⟩ := rd_fld (β := Int) hf 3 rfl (E := 3) (off := 82) (s := 1) (hs := by kernel_rfl)
  obtain ⟨x4, r4, h4, k4⟩ := rd_fld (β := UInt64) hf 4 rfl (E := 42) (off := 83) (s := 1) (hs := by kernel_rfl)
  obtain ⟨x5, r5, h5, k5⟩ := rd_fld (β := UInt64) hf 5 rfl (E := 42) (off := 84) (s := 1) (hs := by kernel_rfl)
  obtain ⟨x6, r6, h6, k6⟩ := rd_fld (β := (List TPrefix)) hf 6 rfl (E := 43) (off := 85) (s := 1) (hs := by kernel_rfl)
  refine ⟨⟨x0, x1, x2, x3, x4, x5, x6⟩, r6, ?_, k6⟩
  have e7 : cs.drop 86 = [] := List.drop_of_length_le (by omega)
  have e6 := seg_cut cs 85 1 _ _ h6 e7
  rw [List.append_nil] at e6
  have e5 := seg_cut cs 84 1 _ _ h5 e6
  have e4 := seg_cut cs 83 1 _ _ h4 e5
  have e3 := seg_cut cs 82 1 _ _ h3 e4
  have e2 := seg_cut cs 64 18 _ _ h2 e3
  have e1 := seg_cut cs 32 32 _ _ h1 e2
  have e0 := seg_cut cs 0 32 _ _ h0 e1
  rw [List.drop_zero] at e0
  exact e0⟩
instance rd25 : Rd P 25 (List TPeer) := rd_list (E := 45) Try.underlying25 (by kernel_rfl) (by decide)
instance rd27 : Rd P 27 TConf := ⟨fun enc w sp hd fuel cs d ps ht => by
  obtain ⟨hlen, k, hf⟩ := rd_str Try.underlying27 (n := 35) (by kernel_rfl) ht
  obtain ⟨x0, r0, h0, k0⟩ := rd_fld (β := (Vector UInt8 32)) hf 0 rfl (E := 23) (off := 0) (s := 32) (hs := by kernel_rfl)
  obtain ⟨x1, r1, h1, k1⟩ := rd_fld (β := Int) hf 1 rfl (E := 3) (off := 32) (s := 1) (hs := by kernel_rfl)
  obtain ⟨x2, r2, h2, k2⟩ := rd_fld (β := UInt32) hf 2 rfl (E := 24) (off := 33) (s := 1) (hs := by kernel_rfl)
  obtain ⟨x3, r3, h3, k3⟩ := rd_fld (β := (List TPeer)) hf 3 rfl (E := 25) (off := 34) (s := 1) (hs := by kernel_rfl)
  refine ⟨⟨x0, x1, x2, x3⟩, r3, ?_, k3⟩
  have e4 : cs.drop 35 = [] := List.drop_of_length_le (by omega)
  have e3 := seg_cut cs 34 1 _ _ h3 e4
  rw [List.append_nil] at e3
  have e2 := seg_cut cs 33 1 _ _ h2 e3
  have e1 := seg_cut cs 32 1 _ _ h1 e2
  have e0 := seg_cut cs 0 32 _ _ h0 e1
  rw [List.drop_zero] at e0
  exact e0⟩
end Go.Cw
