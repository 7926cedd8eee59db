import Derived.Test.YtkbimbpaaikkeaaDoorK1
set_option linter.unusedSimpArgs false
set_option linter.unusedVariables false
/- The document's answer: instructions, the first part: what an instruction has not must be nothing. -/
set_option maxRecDepth 100000
namespace Go.Ev.Tryd
open Go Go.Ev Go.Proofs
/-- Has an instruction nothing but what its operation has? (Log apart.) -/
def refBare (i : Ins) : Bool := bareI { i with log := if hasD i.op then false else i.log }
theorem fix_at (fs : List D) : ixS 1 (.d (.seq false 10 fs)) (vi 0) = some (.dptr fs 0) ∧ ixS 1 (.d (.seq false 10 fs)) (vi 1) = some (.dptr fs 1) ∧ ixS 1 (.d (.seq false 10 fs)) (vi 2) = some (.dptr fs 2) ∧ ixS 1 (.d (.seq false 10 fs)) (vi 3) = some (.dptr fs 3) ∧ ixS 1 (.d (.seq false 10 fs)) (vi 4) = some (.dptr fs 4) ∧
    ixS 1 (.d (.seq false 10 fs)) (vi 5) = some (.dptr fs 5) ∧ ixS 1 (.d (.seq false 10 fs)) (vi 6) = some (.dptr fs 6) ∧ ixS 1 (.d (.seq false 10 fs)) (vi 7) = some (.dptr fs 7) ∧ ixS 1 (.d (.seq false 10 fs)) (vi 8) = some (.dptr fs 8) ∧ ixS 1 (.d (.seq false 10 fs)) (vi 9) = some (.dptr fs 9) := ⟨rfl, rfl, rfl, rfl, rfl, rfl, rfl, rfl, rfl, rfl⟩

section
variable {d lim : Nat} {H : Heap}
set_option maxHeartbeats 4000000 in
/-- Operation 1: what it has not must be nothing. -/
theorem bare67_1 {m : Mdl} {p : Prc} {i : Ins} (hop : i.op = 1) (hbad : refBare i = false) : evCall Tryd.prog C (d + 2) lim 28 [.agg ((mD m).map .d), .agg ((pD p).map .d), .agg ((iD i).map .d)] H = some (vb false, H) := by
  rw [evCall_pureEq (fi := fi28) rfl rfl (b28 _ _ _ _ _ _), up_data, up_data, up_data]
  unfold s28
  have hb := bx_data (r := mD m) (A := []) (H := H)
  have hb2 := bx_data (r := pD p) (A := [some ((mD m).map .d)]) (H := H)
  have hb3 := bx_data (r := iD i) (A := [some ((mD m).map .d), some ((pD p).map .d)]) (H := H)
  have hfl := fun H => fields77 (d := d) (lim := 1) (H := H) (op := i.op)
  have x0 : (iD i)[0]? = some (.int .i64 i.op) := rfl
  have x4 : (iD i)[4]? = some (.int .i64 i.fn) := rfl
  have x5 : (iD i)[5]? = some (.int .i64 i.obj) := rfl
  have x6 : (iD i)[6]? = some (.int .i64 i.off) := rfl
  have x7 : (iD i)[7]? = some (.int .i64 i.size) := rfl
  have x8 : (iD i)[8]? = some (.int .u32 i.num) := rfl
  have x9 : (iD i)[9]? = some (seqD i.anl i.args nD) := rfl
  have x10 : (iD i)[10]? = some (.bool i.log) := rfl
  have hl9 := seq_len i.anl i.args nD
  generalize mD m = M at *
  generalize pD p = P at *
  generalize iD i = I at *
  rw [hop] at x0 hfl
  have hf : flV 1 = .d (.seq false 10 [.bool true, .bool false, .bool false, .bool false, .bool false, .bool false, .bool false, .bool true, .bool false, .bool true]) := rfl
  obtain ⟨g0, g1, g2, g3, g4, g5, g6, g7, g8, g9⟩ := fix_at [.bool true, .bool false, .bool false, .bool false, .bool false, .bool false, .bool false, .bool true, .bool false, .bool true]
  generalize hfs : ([.bool true, .bool false, .bool false, .bool false, .bool false, .bool false, .bool false, .bool true, .bool false, .bool true] : List D) = fs at *
  have f0 : fs[0]? = some (.bool true) := by rw [← hfs]; rfl
  have f1 : fs[1]? = some (.bool false) := by rw [← hfs]; rfl
  have f2 : fs[2]? = some (.bool false) := by rw [← hfs]; rfl
  have f3 : fs[3]? = some (.bool false) := by rw [← hfs]; rfl
  have f4 : fs[4]? = some (.bool false) := by rw [← hfs]; rfl
  have f5 : fs[5]? = some (.bool false) := by rw [← hfs]; rfl
  have f6 : fs[6]? = some (.bool false) := by rw [← hfs]; rfl
  have f7 : fs[7]? = some (.bool true) := by rw [← hfs]; rfl
  have f8 : fs[8]? = some (.bool false) := by rw [← hfs]; rfl
  have f9 : fs[9]? = some (.bool true) := by rw [← hfs]; rfl
  clear hfs
  by_cases z4 : i.fn = 0
  rotate_left
  · simp -implicitDefEqProofs [hb, hb2, hb3, x0, hfl, hf, g0, g1, g2, g3, g4, g5, g6, g7, g8, g9, abin_eql, x4, x5, x6, x7, x8, x9, x10, hl9, abin_neq, abin_gtr, f0, f1, f2, f3, f4, f5, f6, f7, f8, f9, z4]
  by_cases z5 : i.obj = 0
  rotate_left
  · simp -implicitDefEqProofs [hb, hb2, hb3, x0, hfl, hf, g0, g1, g2, g3, g4, g5, g6, g7, g8, g9, abin_eql, x4, x5, x6, x7, x8, x9, x10, hl9, abin_neq, abin_gtr, f0, f1, f2, f3, f4, f5, f6, f7, f8, f9, z4, z5]
  by_cases z6 : i.off = 0
  rotate_left
  · simp -implicitDefEqProofs [hb, hb2, hb3, x0, hfl, hf, g0, g1, g2, g3, g4, g5, g6, g7, g8, g9, abin_eql, x4, x5, x6, x7, x8, x9, x10, hl9, abin_neq, abin_gtr, f0, f1, f2, f3, f4, f5, f6, f7, f8, f9, z4, z5, z6]
  by_cases z7 : i.size = 0
  rotate_left
  · simp -implicitDefEqProofs [hb, hb2, hb3, x0, hfl, hf, g0, g1, g2, g3, g4, g5, g6, g7, g8, g9, abin_eql, x4, x5, x6, x7, x8, x9, x10, hl9, abin_neq, abin_gtr, f0, f1, f2, f3, f4, f5, f6, f7, f8, f9, z4, z5, z6, z7]
  by_cases z9 : i.args.length = 0
  rotate_left
  · have : 0 < i.args.length := by omega
    simp -implicitDefEqProofs [hb, hb2, hb3, x0, hfl, hf, g0, g1, g2, g3, g4, g5, g6, g7, g8, g9, abin_eql, x4, x5, x6, x7, x8, x9, x10, hl9, abin_neq, abin_gtr, f0, f1, f2, f3, f4, f5, f6, f7, f8, f9, z4, z5, z6, z7, this]
  exfalso
  have e : refBare i = true := by
    unfold refBare bareI plainI
    have z9' : i.args.length = 0 ∨ i.op = 9 := by omega
    simp_all [hasD]
  rw [e] at hbad
  cases hbad
end
section
variable {d lim : Nat} {H : Heap}
set_option maxHeartbeats 4000000 in
/-- Operation 2: what it has not must be nothing. -/
theorem bare67_2 {m : Mdl} {p : Prc} {i : Ins} (hop : i.op = 2) (hbad : refBare i = false) : evCall Tryd.prog C (d + 2) lim 28 [.agg ((mD m).map .d), .agg ((pD p).map .d), .agg ((iD i).map .d)] H = some (vb false, H) := by
  rw [evCall_pureEq (fi := fi28) rfl rfl (b28 _ _ _ _ _ _), up_data, up_data, up_data]
  unfold s28
  have hb := bx_data (r := mD m) (A := []) (H := H)
  have hb2 := bx_data (r := pD p) (A := [some ((mD m).map .d)]) (H := H)
  have hb3 := bx_data (r := iD i) (A := [some ((mD m).map .d), some ((pD p).map .d)]) (H := H)
  have hfl := fun H => fields77 (d := d) (lim := 1) (H := H) (op := i.op)
  have x0 : (iD i)[0]? = some (.int .i64 i.op) := rfl
  have x4 : (iD i)[4]? = some (.int .i64 i.fn) := rfl
  have x5 : (iD i)[5]? = some (.int .i64 i.obj) := rfl
  have x6 : (iD i)[6]? = some (.int .i64 i.off) := rfl
  have x7 : (iD i)[7]? = some (.int .i64 i.size) := rfl
  have x8 : (iD i)[8]? = some (.int .u32 i.num) := rfl
  have x9 : (iD i)[9]? = some (seqD i.anl i.args nD) := rfl
  have x10 : (iD i)[10]? = some (.bool i.log) := rfl
  have hl9 := seq_len i.anl i.args nD
  generalize mD m = M at *
  generalize pD p = P at *
  generalize iD i = I at *
  rw [hop] at x0 hfl
  have hf : flV 2 = .d (.seq false 10 [.bool true, .bool true, .bool false, .bool false, .bool false, .bool false, .bool false, .bool false, .bool false, .bool true]) := rfl
  obtain ⟨g0, g1, g2, g3, g4, g5, g6, g7, g8, g9⟩ := fix_at [.bool true, .bool true, .bool false, .bool false, .bool false, .bool false, .bool false, .bool false, .bool false, .bool true]
  generalize hfs : ([.bool true, .bool true, .bool false, .bool false, .bool false, .bool false, .bool false, .bool false, .bool false, .bool true] : List D) = fs at *
  have f0 : fs[0]? = some (.bool true) := by rw [← hfs]; rfl
  have f1 : fs[1]? = some (.bool true) := by rw [← hfs]; rfl
  have f2 : fs[2]? = some (.bool false) := by rw [← hfs]; rfl
  have f3 : fs[3]? = some (.bool false) := by rw [← hfs]; rfl
  have f4 : fs[4]? = some (.bool false) := by rw [← hfs]; rfl
  have f5 : fs[5]? = some (.bool false) := by rw [← hfs]; rfl
  have f6 : fs[6]? = some (.bool false) := by rw [← hfs]; rfl
  have f7 : fs[7]? = some (.bool false) := by rw [← hfs]; rfl
  have f8 : fs[8]? = some (.bool false) := by rw [← hfs]; rfl
  have f9 : fs[9]? = some (.bool true) := by rw [← hfs]; rfl
  clear hfs
  by_cases z4 : i.fn = 0
  rotate_left
  · simp -implicitDefEqProofs [hb, hb2, hb3, x0, hfl, hf, g0, g1, g2, g3, g4, g5, g6, g7, g8, g9, abin_eql, x4, x5, x6, x7, x8, x9, x10, hl9, abin_neq, abin_gtr, f0, f1, f2, f3, f4, f5, f6, f7, f8, f9, z4]
  by_cases z5 : i.obj = 0
  rotate_left
  · simp -implicitDefEqProofs [hb, hb2, hb3, x0, hfl, hf, g0, g1, g2, g3, g4, g5, g6, g7, g8, g9, abin_eql, x4, x5, x6, x7, x8, x9, x10, hl9, abin_neq, abin_gtr, f0, f1, f2, f3, f4, f5, f6, f7, f8, f9, z4, z5]
  by_cases z6 : i.off = 0
  rotate_left
  · simp -implicitDefEqProofs [hb, hb2, hb3, x0, hfl, hf, g0, g1, g2, g3, g4, g5, g6, g7, g8, g9, abin_eql, x4, x5, x6, x7, x8, x9, x10, hl9, abin_neq, abin_gtr, f0, f1, f2, f3, f4, f5, f6, f7, f8, f9, z4, z5, z6]
  by_cases z7 : i.size = 0
  rotate_left
  · simp -implicitDefEqProofs [hb, hb2, hb3, x0, hfl, hf, g0, g1, g2, g3, g4, g5, g6, g7, g8, g9, abin_eql, x4, x5, x6, x7, x8, x9, x10, hl9, abin_neq, abin_gtr, f0, f1, f2, f3, f4, f5, f6, f7, f8, f9, z4, z5, z6, z7]
  by_cases z8 : i.num = 0
  rotate_left
  · simp -implicitDefEqProofs [hb, hb2, hb3, x0, hfl, hf, g0, g1, g2, g3, g4, g5, g6, g7, g8, g9, abin_eql, x4, x5, x6, x7, x8, x9, x10, hl9, abin_neq, abin_gtr, f0, f1, f2, f3, f4, f5, f6, f7, f8, f9, z4, z5, z6, z7, z8]
  by_cases z9 : i.args.length = 0
  rotate_left
  · have : 0 < i.args.length := by omega
    simp -implicitDefEqProofs [hb, hb2, hb3, x0, hfl, hf, g0, g1, g2, g3, g4, g5, g6, g7, g8, g9, abin_eql, x4, x5, x6, x7, x8, x9, x10, hl9, abin_neq, abin_gtr, f0, f1, f2, f3, f4, f5, f6, f7, f8, f9, z4, z5, z6, z7, z8, this]
  exfalso
  have e : refBare i = true := by
    unfold refBare bareI plainI
    have z9' : i.args.length = 0 ∨ i.op = 9 := by omega
    simp_all [hasD]
  rw [e] at hbad
  cases hbad
end
section
variable {d lim : Nat} {H : Heap}
set_option maxHeartbeats 4000000 in
/-- Operation 3: what it has not must be nothing. -/
theorem bare67_3 {m : Mdl} {p : Prc} {i : Ins} (hop : i.op = 3) (hbad : refBare i = false) : evCall Tryd.prog C (d + 2) lim 28 [.agg ((mD m).map .d), .agg ((pD p).map .d), .agg ((iD i).map .d)] H = some (vb false, H) := by
  rw [evCall_pureEq (fi := fi28) rfl rfl (b28 _ _ _ _ _ _), up_data, up_data, up_data]
  unfold s28
  have hb := bx_data (r := mD m) (A := []) (H := H)
  have hb2 := bx_data (r := pD p) (A := [some ((mD m).map .d)]) (H := H)
  have hb3 := bx_data (r := iD i) (A := [some ((mD m).map .d), some ((pD p).map .d)]) (H := H)
  have hfl := fun H => fields77 (d := d) (lim := 1) (H := H) (op := i.op)
  have x0 : (iD i)[0]? = some (.int .i64 i.op) := rfl
  have x4 : (iD i)[4]? = some (.int .i64 i.fn) := rfl
  have x5 : (iD i)[5]? = some (.int .i64 i.obj) := rfl
  have x6 : (iD i)[6]? = some (.int .i64 i.off) := rfl
  have x7 : (iD i)[7]? = some (.int .i64 i.size) := rfl
  have x8 : (iD i)[8]? = some (.int .u32 i.num) := rfl
  have x9 : (iD i)[9]? = some (seqD i.anl i.args nD) := rfl
  have x10 : (iD i)[10]? = some (.bool i.log) := rfl
  have hl9 := seq_len i.anl i.args nD
  generalize mD m = M at *
  generalize pD p = P at *
  generalize iD i = I at *
  rw [hop] at x0 hfl
  have hf : flV 3 = .d (.seq false 10 [.bool true, .bool true, .bool true, .bool true, .bool false, .bool false, .bool false, .bool false, .bool false, .bool true]) := rfl
  obtain ⟨g0, g1, g2, g3, g4, g5, g6, g7, g8, g9⟩ := fix_at [.bool true, .bool true, .bool true, .bool true, .bool false, .bool false, .bool false, .bool false, .bool false, .bool true]
  generalize hfs : ([.bool true, .bool true, .bool true, .bool true, .bool false, .bool false, .bool false, .bool false, .bool false, .bool true] : List D) = fs at *
  have f0 : fs[0]? = some (.bool true) := by rw [← hfs]; rfl
  have f1 : fs[1]? = some (.bool true) := by rw [← hfs]; rfl
  have f2 : fs[2]? = some (.bool true) := by rw [← hfs]; rfl
  have f3 : fs[3]? = some (.bool true) := by rw [← hfs]; rfl
  have f4 : fs[4]? = some (.bool false) := by rw [← hfs]; rfl
  have f5 : fs[5]? = some (.bool false) := by rw [← hfs]; rfl
  have f6 : fs[6]? = some (.bool false) := by rw [← hfs]; rfl
  have f7 : fs[7]? = some (.bool false) := by rw [← hfs]; rfl
  have f8 : fs[8]? = some (.bool false) := by rw [← hfs]; rfl
  have f9 : fs[9]? = some (.bool true) := by rw [← hfs]; rfl
  clear hfs
  by_cases z5 : i.obj = 0
  rotate_left
  · simp -implicitDefEqProofs [hb, hb2, hb3, x0, hfl, hf, g0, g1, g2, g3, g4, g5, g6, g7, g8, g9, abin_eql, x4, x5, x6, x7, x8, x9, x10, hl9, abin_neq, abin_gtr, f0, f1, f2, f3, f4, f5, f6, f7, f8, f9, z5]
  by_cases z6 : i.off = 0
  rotate_left
  · simp -implicitDefEqProofs [hb, hb2, hb3, x0, hfl, hf, g0, g1, g2, g3, g4, g5, g6, g7, g8, g9, abin_eql, x4, x5, x6, x7, x8, x9, x10, hl9, abin_neq, abin_gtr, f0, f1, f2, f3, f4, f5, f6, f7, f8, f9, z5, z6]
  by_cases z7 : i.size = 0
  rotate_left
  · simp -implicitDefEqProofs [hb, hb2, hb3, x0, hfl, hf, g0, g1, g2, g3, g4, g5, g6, g7, g8, g9, abin_eql, x4, x5, x6, x7, x8, x9, x10, hl9, abin_neq, abin_gtr, f0, f1, f2, f3, f4, f5, f6, f7, f8, f9, z5, z6, z7]
  by_cases z8 : i.num = 0
  rotate_left
  · simp -implicitDefEqProofs [hb, hb2, hb3, x0, hfl, hf, g0, g1, g2, g3, g4, g5, g6, g7, g8, g9, abin_eql, x4, x5, x6, x7, x8, x9, x10, hl9, abin_neq, abin_gtr, f0, f1, f2, f3, f4, f5, f6, f7, f8, f9, z5, z6, z7, z8]
  by_cases z9 : i.args.length = 0
  rotate_left
  · have : 0 < i.args.length := by omega
    simp -implicitDefEqProofs [hb, hb2, hb3, x0, hfl, hf, g0, g1, g2, g3, g4, g5, g6, g7, g8, g9, abin_eql, x4, x5, x6, x7, x8, x9, x10, hl9, abin_neq, abin_gtr, f0, f1, f2, f3, f4, f5, f6, f7, f8, f9, z5, z6, z7, z8, this]
  exfalso
  have e : refBare i = true := by
    unfold refBare bareI plainI
    have z9' : i.args.length = 0 ∨ i.op = 9 := by omega
    simp_all [hasD]
  rw [e] at hbad
  cases hbad
end
section
variable {d lim : Nat} {H : Heap}
set_option maxHeartbeats 4000000 in
/-- Operation 4: what it has not must be nothing. -/
theorem bare67_4 {m : Mdl} {p : Prc} {i : Ins} (hop : i.op = 4) (hbad : refBare i = false) : evCall Tryd.prog C (d + 2) lim 28 [.agg ((mD m).map .d), .agg ((pD p).map .d), .agg ((iD i).map .d)] H = some (vb false, H) := by
  rw [evCall_pureEq (fi := fi28) rfl rfl (b28 _ _ _ _ _ _), up_data, up_data, up_data]
  unfold s28
  have hb := bx_data (r := mD m) (A := []) (H := H)
  have hb2 := bx_data (r := pD p) (A := [some ((mD m).map .d)]) (H := H)
  have hb3 := bx_data (r := iD i) (A := [some ((mD m).map .d), some ((pD p).map .d)]) (H := H)
  have hfl := fun H => fields77 (d := d) (lim := 1) (H := H) (op := i.op)
  have x0 : (iD i)[0]? = some (.int .i64 i.op) := rfl
  have x4 : (iD i)[4]? = some (.int .i64 i.fn) := rfl
  have x5 : (iD i)[5]? = some (.int .i64 i.obj) := rfl
  have x6 : (iD i)[6]? = some (.int .i64 i.off) := rfl
  have x7 : (iD i)[7]? = some (.int .i64 i.size) := rfl
  have x8 : (iD i)[8]? = some (.int .u32 i.num) := rfl
  have x9 : (iD i)[9]? = some (seqD i.anl i.args nD) := rfl
  have x10 : (iD i)[10]? = some (.bool i.log) := rfl
  have hl9 := seq_len i.anl i.args nD
  generalize mD m = M at *
  generalize pD p = P at *
  generalize iD i = I at *
  rw [hop] at x0 hfl
  have hf : flV 4 = .d (.seq false 10 [.bool true, .bool true, .bool false, .bool true, .bool false, .bool false, .bool false, .bool false, .bool false, .bool true]) := rfl
  obtain ⟨g0, g1, g2, g3, g4, g5, g6, g7, g8, g9⟩ := fix_at [.bool true, .bool true, .bool false, .bool true, .bool false, .bool false, .bool false, .bool false, .bool false, .bool true]
  generalize hfs : ([.bool true, .bool true, .bool false, .bool true, .bool false, .bool false, .bool false, .bool false, .bool false, .bool true] : List D) = fs at *
  have f0 : fs[0]? = some (.bool true) := by rw [← hfs]; rfl
  have f1 : fs[1]? = some (.bool true) := by rw [← hfs]; rfl
  have f2 : fs[2]? = some (.bool false) := by rw [← hfs]; rfl
  have f3 : fs[3]? = some (.bool true) := by rw [← hfs]; rfl
  have f4 : fs[4]? = some (.bool false) := by rw [← hfs]; rfl
  have f5 : fs[5]? = some (.bool false) := by rw [← hfs]; rfl
  have f6 : fs[6]? = some (.bool false) := by rw [← hfs]; rfl
  have f7 : fs[7]? = some (.bool false) := by rw [← hfs]; rfl
  have f8 : fs[8]? = some (.bool false) := by rw [← hfs]; rfl
  have f9 : fs[9]? = some (.bool true) := by rw [← hfs]; rfl
  clear hfs
  by_cases z5 : i.obj = 0
  rotate_left
  · simp -implicitDefEqProofs [hb, hb2, hb3, x0, hfl, hf, g0, g1, g2, g3, g4, g5, g6, g7, g8, g9, abin_eql, x4, x5, x6, x7, x8, x9, x10, hl9, abin_neq, abin_gtr, f0, f1, f2, f3, f4, f5, f6, f7, f8, f9, z5]
  by_cases z6 : i.off = 0
  rotate_left
  · simp -implicitDefEqProofs [hb, hb2, hb3, x0, hfl, hf, g0, g1, g2, g3, g4, g5, g6, g7, g8, g9, abin_eql, x4, x5, x6, x7, x8, x9, x10, hl9, abin_neq, abin_gtr, f0, f1, f2, f3, f4, f5, f6, f7, f8, f9, z5, z6]
  by_cases z7 : i.size = 0
  rotate_left
  · simp -implicitDefEqProofs [hb, hb2, hb3, x0, hfl, hf, g0, g1, g2, g3, g4, g5, g6, g7, g8, g9, abin_eql, x4, x5, x6, x7, x8, x9, x10, hl9, abin_neq, abin_gtr, f0, f1, f2, f3, f4, f5, f6, f7, f8, f9, z5, z6, z7]
  by_cases z8 : i.num = 0
  rotate_left
  · simp -implicitDefEqProofs [hb, hb2, hb3, x0, hfl, hf, g0, g1, g2, g3, g4, g5, g6, g7, g8, g9, abin_eql, x4, x5, x6, x7, x8, x9, x10, hl9, abin_neq, abin_gtr, f0, f1, f2, f3, f4, f5, f6, f7, f8, f9, z5, z6, z7, z8]
  by_cases z9 : i.args.length = 0
  rotate_left
  · have : 0 < i.args.length := by omega
    simp -implicitDefEqProofs [hb, hb2, hb3, x0, hfl, hf, g0, g1, g2, g3, g4, g5, g6, g7, g8, g9, abin_eql, x4, x5, x6, x7, x8, x9, x10, hl9, abin_neq, abin_gtr, f0, f1, f2, f3, f4, f5, f6, f7, f8, f9, z5, z6, z7, z8, this]
  exfalso
  have e : refBare i = true := by
    unfold refBare bareI plainI
    have z9' : i.args.length = 0 ∨ i.op = 9 := by omega
    simp_all [hasD]
  rw [e] at hbad
  cases hbad
end
section
variable {d lim : Nat} {H : Heap}
set_option maxHeartbeats 4000000 in
/-- Operation 5: what it has not must be nothing. -/
theorem bare67_5 {m : Mdl} {p : Prc} {i : Ins} (hop : i.op = 5) (hbad : refBare i = false) : evCall Tryd.prog C (d + 2) lim 28 [.agg ((mD m).map .d), .agg ((pD p).map .d), .agg ((iD i).map .d)] H = some (vb false, H) := by
  rw [evCall_pureEq (fi := fi28) rfl rfl (b28 _ _ _ _ _ _), up_data, up_data, up_data]
  unfold s28
  have hb := bx_data (r := mD m) (A := []) (H := H)
  have hb2 := bx_data (r := pD p) (A := [some ((mD m).map .d)]) (H := H)
  have hb3 := bx_data (r := iD i) (A := [some ((mD m).map .d), some ((pD p).map .d)]) (H := H)
  have hfl := fun H => fields77 (d := d) (lim := 1) (H := H) (op := i.op)
  have x0 : (iD i)[0]? = some (.int .i64 i.op) := rfl
  have x4 : (iD i)[4]? = some (.int .i64 i.fn) := rfl
  have x5 : (iD i)[5]? = some (.int .i64 i.obj) := rfl
  have x6 : (iD i)[6]? = some (.int .i64 i.off) := rfl
  have x7 : (iD i)[7]? = some (.int .i64 i.size) := rfl
  have x8 : (iD i)[8]? = some (.int .u32 i.num) := rfl
  have x9 : (iD i)[9]? = some (seqD i.anl i.args nD) := rfl
  have x10 : (iD i)[10]? = some (.bool i.log) := rfl
  have hl9 := seq_len i.anl i.args nD
  generalize mD m = M at *
  generalize pD p = P at *
  generalize iD i = I at *
  rw [hop] at x0 hfl
  have hf : flV 5 = .d (.seq false 10 [.bool true, .bool true, .bool false, .bool false, .bool false, .bool true, .bool true, .bool false, .bool false, .bool true]) := rfl
  obtain ⟨g0, g1, g2, g3, g4, g5, g6, g7, g8, g9⟩ := fix_at [.bool true, .bool true, .bool false, .bool false, .bool false, .bool true, .bool true, .bool false, .bool false, .bool true]
  generalize hfs : ([.bool true, .bool true, .bool false, .bool false, .bool false, .bool true, .bool true, .bool false, .bool false, .bool true] : List D) = fs at *
  have f0 : fs[0]? = some (.bool true) := by rw [← hfs]; rfl
  have f1 : fs[1]? = some (.bool true) := by rw [← hfs]; rfl
  have f2 : fs[2]? = some (.bool false) := by rw [← hfs]; rfl
  have f3 : fs[3]? = some (.bool false) := by rw [← hfs]; rfl
  have f4 : fs[4]? = some (.bool false) := by rw [← hfs]; rfl
  have f5 : fs[5]? = some (.bool true) := by rw [← hfs]; rfl
  have f6 : fs[6]? = some (.bool true) := by rw [← hfs]; rfl
  have f7 : fs[7]? = some (.bool false) := by rw [← hfs]; rfl
  have f8 : fs[8]? = some (.bool false) := by rw [← hfs]; rfl
  have f9 : fs[9]? = some (.bool true) := by rw [← hfs]; rfl
  clear hfs
  by_cases z4 : i.fn = 0
  rotate_left
  · simp -implicitDefEqProofs [hb, hb2, hb3, x0, hfl, hf, g0, g1, g2, g3, g4, g5, g6, g7, g8, g9, abin_eql, x4, x5, x6, x7, x8, x9, x10, hl9, abin_neq, abin_gtr, f0, f1, f2, f3, f4, f5, f6, f7, f8, f9, z4]
  by_cases z5 : i.obj = 0
  rotate_left
  · simp -implicitDefEqProofs [hb, hb2, hb3, x0, hfl, hf, g0, g1, g2, g3, g4, g5, g6, g7, g8, g9, abin_eql, x4, x5, x6, x7, x8, x9, x10, hl9, abin_neq, abin_gtr, f0, f1, f2, f3, f4, f5, f6, f7, f8, f9, z4, z5]
  by_cases z8 : i.num = 0
  rotate_left
  · simp -implicitDefEqProofs [hb, hb2, hb3, x0, hfl, hf, g0, g1, g2, g3, g4, g5, g6, g7, g8, g9, abin_eql, x4, x5, x6, x7, x8, x9, x10, hl9, abin_neq, abin_gtr, f0, f1, f2, f3, f4, f5, f6, f7, f8, f9, z4, z5, z8]
  by_cases z9 : i.args.length = 0
  rotate_left
  · have : 0 < i.args.length := by omega
    simp -implicitDefEqProofs [hb, hb2, hb3, x0, hfl, hf, g0, g1, g2, g3, g4, g5, g6, g7, g8, g9, abin_eql, x4, x5, x6, x7, x8, x9, x10, hl9, abin_neq, abin_gtr, f0, f1, f2, f3, f4, f5, f6, f7, f8, f9, z4, z5, z8, this]
  exfalso
  have e : refBare i = true := by
    unfold refBare bareI plainI
    have z9' : i.args.length = 0 ∨ i.op = 9 := by omega
    simp_all [hasD]
  rw [e] at hbad
  cases hbad
end
section
variable {d lim : Nat} {H : Heap}
set_option maxHeartbeats 4000000 in
/-- Operation 6: what it has not must be nothing. -/
theorem bare67_6 {m : Mdl} {p : Prc} {i : Ins} (hop : i.op = 6) (hbad : refBare i = false) : evCall Tryd.prog C (d + 2) lim 28 [.agg ((mD m).map .d), .agg ((pD p).map .d), .agg ((iD i).map .d)] H = some (vb false, H) := by
  rw [evCall_pureEq (fi := fi28) rfl rfl (b28 _ _ _ _ _ _), up_data, up_data, up_data]
  unfold s28
  have hb := bx_data (r := mD m) (A := []) (H := H)
  have hb2 := bx_data (r := pD p) (A := [some ((mD m).map .d)]) (H := H)
  have hb3 := bx_data (r := iD i) (A := [some ((mD m).map .d), some ((pD p).map .d)]) (H := H)
  have hfl := fun H => fields77 (d := d) (lim := 1) (H := H) (op := i.op)
  have x0 : (iD i)[0]? = some (.int .i64 i.op) := rfl
  have x4 : (iD i)[4]? = some (.int .i64 i.fn) := rfl
  have x5 : (iD i)[5]? = some (.int .i64 i.obj) := rfl
  have x6 : (iD i)[6]? = some (.int .i64 i.off) := rfl
  have x7 : (iD i)[7]? = some (.int .i64 i.size) := rfl
  have x8 : (iD i)[8]? = some (.int .u32 i.num) := rfl
  have x9 : (iD i)[9]? = some (seqD i.anl i.args nD) := rfl
  have x10 : (iD i)[10]? = some (.bool i.log) := rfl
  have hl9 := seq_len i.anl i.args nD
  generalize mD m = M at *
  generalize pD p = P at *
  generalize iD i = I at *
  rw [hop] at x0 hfl
  have hf : flV 6 = .d (.seq false 10 [.bool false, .bool true, .bool true, .bool false, .bool false, .bool true, .bool true, .bool false, .bool false, .bool true]) := rfl
  obtain ⟨g0, g1, g2, g3, g4, g5, g6, g7, g8, g9⟩ := fix_at [.bool false, .bool true, .bool true, .bool false, .bool false, .bool true, .bool true, .bool false, .bool false, .bool true]
  generalize hfs : ([.bool false, .bool true, .bool true, .bool false, .bool false, .bool true, .bool true, .bool false, .bool false, .bool true] : List D) = fs at *
  have f0 : fs[0]? = some (.bool false) := by rw [← hfs]; rfl
  have f1 : fs[1]? = some (.bool true) := by rw [← hfs]; rfl
  have f2 : fs[2]? = some (.bool true) := by rw [← hfs]; rfl
  have f3 : fs[3]? = some (.bool false) := by rw [← hfs]; rfl
  have f4 : fs[4]? = some (.bool false) := by rw [← hfs]; rfl
  have f5 : fs[5]? = some (.bool true) := by rw [← hfs]; rfl
  have f6 : fs[6]? = some (.bool true) := by rw [← hfs]; rfl
  have f7 : fs[7]? = some (.bool false) := by rw [← hfs]; rfl
  have f8 : fs[8]? = some (.bool false) := by rw [← hfs]; rfl
  have f9 : fs[9]? = some (.bool true) := by rw [← hfs]; rfl
  clear hfs
  by_cases z4 : i.fn = 0
  rotate_left
  · simp -implicitDefEqProofs [hb, hb2, hb3, x0, hfl, hf, g0, g1, g2, g3, g4, g5, g6, g7, g8, g9, abin_eql, x4, x5, x6, x7, x8, x9, x10, hl9, abin_neq, abin_gtr, f0, f1, f2, f3, f4, f5, f6, f7, f8, f9, z4]
  by_cases z5 : i.obj = 0
  rotate_left
  · simp -implicitDefEqProofs [hb, hb2, hb3, x0, hfl, hf, g0, g1, g2, g3, g4, g5, g6, g7, g8, g9, abin_eql, x4, x5, x6, x7, x8, x9, x10, hl9, abin_neq, abin_gtr, f0, f1, f2, f3, f4, f5, f6, f7, f8, f9, z4, z5]
  by_cases z8 : i.num = 0
  rotate_left
  · simp -implicitDefEqProofs [hb, hb2, hb3, x0, hfl, hf, g0, g1, g2, g3, g4, g5, g6, g7, g8, g9, abin_eql, x4, x5, x6, x7, x8, x9, x10, hl9, abin_neq, abin_gtr, f0, f1, f2, f3, f4, f5, f6, f7, f8, f9, z4, z5, z8]
  by_cases z9 : i.args.length = 0
  rotate_left
  · have : 0 < i.args.length := by omega
    simp -implicitDefEqProofs [hb, hb2, hb3, x0, hfl, hf, g0, g1, g2, g3, g4, g5, g6, g7, g8, g9, abin_eql, x4, x5, x6, x7, x8, x9, x10, hl9, abin_neq, abin_gtr, f0, f1, f2, f3, f4, f5, f6, f7, f8, f9, z4, z5, z8, this]
  exfalso
  have e : refBare i = true := by
    unfold refBare bareI plainI
    have z9' : i.args.length = 0 ∨ i.op = 9 := by omega
    simp_all [hasD]
  rw [e] at hbad
  cases hbad
end
section
variable {d lim : Nat} {H : Heap}
set_option maxHeartbeats 4000000 in
/-- Operation 7: what it has not must be nothing. -/
theorem bare67_7 {m : Mdl} {p : Prc} {i : Ins} (hop : i.op = 7) (hbad : refBare i = false) : evCall Tryd.prog C (d + 2) lim 28 [.agg ((mD m).map .d), .agg ((pD p).map .d), .agg ((iD i).map .d)] H = some (vb false, H) := by
  rw [evCall_pureEq (fi := fi28) rfl rfl (b28 _ _ _ _ _ _), up_data, up_data, up_data]
  unfold s28
  have hb := bx_data (r := mD m) (A := []) (H := H)
  have hb2 := bx_data (r := pD p) (A := [some ((mD m).map .d)]) (H := H)
  have hb3 := bx_data (r := iD i) (A := [some ((mD m).map .d), some ((pD p).map .d)]) (H := H)
  have hfl := fun H => fields77 (d := d) (lim := 1) (H := H) (op := i.op)
  have x0 : (iD i)[0]? = some (.int .i64 i.op) := rfl
  have x4 : (iD i)[4]? = some (.int .i64 i.fn) := rfl
  have x5 : (iD i)[5]? = some (.int .i64 i.obj) := rfl
  have x6 : (iD i)[6]? = some (.int .i64 i.off) := rfl
  have x7 : (iD i)[7]? = some (.int .i64 i.size) := rfl
  have x8 : (iD i)[8]? = some (.int .u32 i.num) := rfl
  have x9 : (iD i)[9]? = some (seqD i.anl i.args nD) := rfl
  have x10 : (iD i)[10]? = some (.bool i.log) := rfl
  have hl9 := seq_len i.anl i.args nD
  generalize mD m = M at *
  generalize pD p = P at *
  generalize iD i = I at *
  rw [hop] at x0 hfl
  have hf : flV 7 = .d (.seq false 10 [.bool true, .bool false, .bool false, .bool false, .bool true, .bool true, .bool false, .bool false, .bool false, .bool true]) := rfl
  obtain ⟨g0, g1, g2, g3, g4, g5, g6, g7, g8, g9⟩ := fix_at [.bool true, .bool false, .bool false, .bool false, .bool true, .bool true, .bool false, .bool false, .bool false, .bool true]
  generalize hfs : ([.bool true, .bool false, .bool false, .bool false, .bool true, .bool true, .bool false, .bool false, .bool false, .bool true] : List D) = fs at *
  have f0 : fs[0]? = some (.bool true) := by rw [← hfs]; rfl
  have f1 : fs[1]? = some (.bool false) := by rw [← hfs]; rfl
  have f2 : fs[2]? = some (.bool false) := by rw [← hfs]; rfl
  have f3 : fs[3]? = some (.bool false) := by rw [← hfs]; rfl
  have f4 : fs[4]? = some (.bool true) := by rw [← hfs]; rfl
  have f5 : fs[5]? = some (.bool true) := by rw [← hfs]; rfl
  have f6 : fs[6]? = some (.bool false) := by rw [← hfs]; rfl
  have f7 : fs[7]? = some (.bool false) := by rw [← hfs]; rfl
  have f8 : fs[8]? = some (.bool false) := by rw [← hfs]; rfl
  have f9 : fs[9]? = some (.bool true) := by rw [← hfs]; rfl
  clear hfs
  by_cases z4 : i.fn = 0
  rotate_left
  · simp -implicitDefEqProofs [hb, hb2, hb3, x0, hfl, hf, g0, g1, g2, g3, g4, g5, g6, g7, g8, g9, abin_eql, x4, x5, x6, x7, x8, x9, x10, hl9, abin_neq, abin_gtr, f0, f1, f2, f3, f4, f5, f6, f7, f8, f9, z4]
  by_cases z7 : i.size = 0
  rotate_left
  · simp -implicitDefEqProofs [hb, hb2, hb3, x0, hfl, hf, g0, g1, g2, g3, g4, g5, g6, g7, g8, g9, abin_eql, x4, x5, x6, x7, x8, x9, x10, hl9, abin_neq, abin_gtr, f0, f1, f2, f3, f4, f5, f6, f7, f8, f9, z4, z7]
  by_cases z8 : i.num = 0
  rotate_left
  · simp -implicitDefEqProofs [hb, hb2, hb3, x0, hfl, hf, g0, g1, g2, g3, g4, g5, g6, g7, g8, g9, abin_eql, x4, x5, x6, x7, x8, x9, x10, hl9, abin_neq, abin_gtr, f0, f1, f2, f3, f4, f5, f6, f7, f8, f9, z4, z7, z8]
  by_cases z9 : i.args.length = 0
  rotate_left
  · have : 0 < i.args.length := by omega
    simp -implicitDefEqProofs [hb, hb2, hb3, x0, hfl, hf, g0, g1, g2, g3, g4, g5, g6, g7, g8, g9, abin_eql, x4, x5, x6, x7, x8, x9, x10, hl9, abin_neq, abin_gtr, f0, f1, f2, f3, f4, f5, f6, f7, f8, f9, z4, z7, z8, this]
  exfalso
  have e : refBare i = true := by
    unfold refBare bareI plainI
    have z9' : i.args.length = 0 ∨ i.op = 9 := by omega
    simp_all [hasD]
  rw [e] at hbad
  cases hbad
end
section
variable {d lim : Nat} {H : Heap}
set_option maxHeartbeats 4000000 in
/-- Operation 8: what it has not must be nothing. -/
theorem bare67_8 {m : Mdl} {p : Prc} {i : Ins} (hop : i.op = 8) (hbad : refBare i = false) : evCall Tryd.prog C (d + 2) lim 28 [.agg ((mD m).map .d), .agg ((pD p).map .d), .agg ((iD i).map .d)] H = some (vb false, H) := by
  rw [evCall_pureEq (fi := fi28) rfl rfl (b28 _ _ _ _ _ _), up_data, up_data, up_data]
  unfold s28
  have hb := bx_data (r := mD m) (A := []) (H := H)
  have hb2 := bx_data (r := pD p) (A := [some ((mD m).map .d)]) (H := H)
  have hb3 := bx_data (r := iD i) (A := [some ((mD m).map .d), some ((pD p).map .d)]) (H := H)
  have hfl := fun H => fields77 (d := d) (lim := 1) (H := H) (op := i.op)
  have x0 : (iD i)[0]? = some (.int .i64 i.op) := rfl
  have x4 : (iD i)[4]? = some (.int .i64 i.fn) := rfl
  have x5 : (iD i)[5]? = some (.int .i64 i.obj) := rfl
  have x6 : (iD i)[6]? = some (.int .i64 i.off) := rfl
  have x7 : (iD i)[7]? = some (.int .i64 i.size) := rfl
  have x8 : (iD i)[8]? = some (.int .u32 i.num) := rfl
  have x9 : (iD i)[9]? = some (seqD i.anl i.args nD) := rfl
  have x10 : (iD i)[10]? = some (.bool i.log) := rfl
  have hl9 := seq_len i.anl i.args nD
  generalize mD m = M at *
  generalize pD p = P at *
  generalize iD i = I at *
  rw [hop] at x0 hfl
  have hf : flV 8 = .d (.seq false 10 [.bool true, .bool false, .bool false, .bool false, .bool true, .bool true, .bool false, .bool false, .bool false, .bool true]) := rfl
  obtain ⟨g0, g1, g2, g3, g4, g5, g6, g7, g8, g9⟩ := fix_at [.bool true, .bool false, .bool false, .bool false, .bool true, .bool true, .bool false, .bool false, .bool false, .bool true]
  generalize hfs : ([.bool true, .bool false, .bool false, .bool false, .bool true, .bool true, .bool false, .bool false, .bool false, .bool true] : List D) = fs at *
  have f0 : fs[0]? = some (.bool true) := by rw [← hfs]; rfl
  have f1 : fs[1]? = some (.bool false) := by rw [← hfs]; rfl
  have f2 : fs[2]? = some (.bool false) := by rw [← hfs]; rfl
  have f3 : fs[3]? = some (.bool false) := by rw [← hfs]; rfl
  have f4 : fs[4]? = some (.bool true) := by rw [← hfs]; rfl
  have f5 : fs[5]? = some (.bool true) := by rw [← hfs]; rfl
  have f6 : fs[6]? = some (.bool false) := by rw [← hfs]; rfl
  have f7 : fs[7]? = some (.bool false) := by rw [← hfs]; rfl
  have f8 : fs[8]? = some (.bool false) := by rw [← hfs]; rfl
  have f9 : fs[9]? = some (.bool true) := by rw [← hfs]; rfl
  clear hfs
  by_cases z4 : i.fn = 0
  rotate_left
  · simp -implicitDefEqProofs [hb, hb2, hb3, x0, hfl, hf, g0, g1, g2, g3, g4, g5, g6, g7, g8, g9, abin_eql, x4, x5, x6, x7, x8, x9, x10, hl9, abin_neq, abin_gtr, f0, f1, f2, f3, f4, f5, f6, f7, f8, f9, z4]
  by_cases z7 : i.size = 0
  rotate_left
  · simp -implicitDefEqProofs [hb, hb2, hb3, x0, hfl, hf, g0, g1, g2, g3, g4, g5, g6, g7, g8, g9, abin_eql, x4, x5, x6, x7, x8, x9, x10, hl9, abin_neq, abin_gtr, f0, f1, f2, f3, f4, f5, f6, f7, f8, f9, z4, z7]
  by_cases z8 : i.num = 0
  rotate_left
  · simp -implicitDefEqProofs [hb, hb2, hb3, x0, hfl, hf, g0, g1, g2, g3, g4, g5, g6, g7, g8, g9, abin_eql, x4, x5, x6, x7, x8, x9, x10, hl9, abin_neq, abin_gtr, f0, f1, f2, f3, f4, f5, f6, f7, f8, f9, z4, z7, z8]
  by_cases z9 : i.args.length = 0
  rotate_left
  · have : 0 < i.args.length := by omega
    simp -implicitDefEqProofs [hb, hb2, hb3, x0, hfl, hf, g0, g1, g2, g3, g4, g5, g6, g7, g8, g9, abin_eql, x4, x5, x6, x7, x8, x9, x10, hl9, abin_neq, abin_gtr, f0, f1, f2, f3, f4, f5, f6, f7, f8, f9, z4, z7, z8, this]
  exfalso
  have e : refBare i = true := by
    unfold refBare bareI plainI
    have z9' : i.args.length = 0 ∨ i.op = 9 := by omega
    simp_all [hasD]
  rw [e] at hbad
  cases hbad
end
section
variable {d lim : Nat} {H : Heap}
set_option maxHeartbeats 4000000 in
/-- Operation 9: what it has not must be nothing. -/
theorem bare67_9 {m : Mdl} {p : Prc} {i : Ins} (hop : i.op = 9) (hbad : refBare i = false) : evCall Tryd.prog C (d + 2) lim 28 [.agg ((mD m).map .d), .agg ((pD p).map .d), .agg ((iD i).map .d)] H = some (vb false, H) := by
  rw [evCall_pureEq (fi := fi28) rfl rfl (b28 _ _ _ _ _ _), up_data, up_data, up_data]
  unfold s28
  have hb := bx_data (r := mD m) (A := []) (H := H)
  have hb2 := bx_data (r := pD p) (A := [some ((mD m).map .d)]) (H := H)
  have hb3 := bx_data (r := iD i) (A := [some ((mD m).map .d), some ((pD p).map .d)]) (H := H)
  have hfl := fun H => fields77 (d := d) (lim := 1) (H := H) (op := i.op)
  have x0 : (iD i)[0]? = some (.int .i64 i.op) := rfl
  have x4 : (iD i)[4]? = some (.int .i64 i.fn) := rfl
  have x5 : (iD i)[5]? = some (.int .i64 i.obj) := rfl
  have x6 : (iD i)[6]? = some (.int .i64 i.off) := rfl
  have x7 : (iD i)[7]? = some (.int .i64 i.size) := rfl
  have x8 : (iD i)[8]? = some (.int .u32 i.num) := rfl
  have x9 : (iD i)[9]? = some (seqD i.anl i.args nD) := rfl
  have x10 : (iD i)[10]? = some (.bool i.log) := rfl
  have hl9 := seq_len i.anl i.args nD
  generalize mD m = M at *
  generalize pD p = P at *
  generalize iD i = I at *
  rw [hop] at x0 hfl
  have hf : flV 9 = .d (.seq false 10 [.bool true, .bool false, .bool false, .bool false, .bool true, .bool false, .bool false, .bool false, .bool true, .bool true]) := rfl
  obtain ⟨g0, g1, g2, g3, g4, g5, g6, g7, g8, g9⟩ := fix_at [.bool true, .bool false, .bool false, .bool false, .bool true, .bool false, .bool false, .bool false, .bool true, .bool true]
  generalize hfs : ([.bool true, .bool false, .bool false, .bool false, .bool true, .bool false, .bool false, .bool false, .bool true, .bool true] : List D) = fs at *
  have f0 : fs[0]? = some (.bool true) := by rw [← hfs]; rfl
  have f1 : fs[1]? = some (.bool false) := by rw [← hfs]; rfl
  have f2 : fs[2]? = some (.bool false) := by rw [← hfs]; rfl
  have f3 : fs[3]? = some (.bool false) := by rw [← hfs]; rfl
  have f4 : fs[4]? = some (.bool true) := by rw [← hfs]; rfl
  have f5 : fs[5]? = some (.bool false) := by rw [← hfs]; rfl
  have f6 : fs[6]? = some (.bool false) := by rw [← hfs]; rfl
  have f7 : fs[7]? = some (.bool false) := by rw [← hfs]; rfl
  have f8 : fs[8]? = some (.bool true) := by rw [← hfs]; rfl
  have f9 : fs[9]? = some (.bool true) := by rw [← hfs]; rfl
  clear hfs
  by_cases z4 : i.fn = 0
  rotate_left
  · simp -implicitDefEqProofs [hb, hb2, hb3, x0, hfl, hf, g0, g1, g2, g3, g4, g5, g6, g7, g8, g9, abin_eql, x4, x5, x6, x7, x8, x9, x10, hl9, abin_neq, abin_gtr, f0, f1, f2, f3, f4, f5, f6, f7, f8, f9, z4]
  by_cases z6 : i.off = 0
  rotate_left
  · simp -implicitDefEqProofs [hb, hb2, hb3, x0, hfl, hf, g0, g1, g2, g3, g4, g5, g6, g7, g8, g9, abin_eql, x4, x5, x6, x7, x8, x9, x10, hl9, abin_neq, abin_gtr, f0, f1, f2, f3, f4, f5, f6, f7, f8, f9, z4, z6]
  by_cases z7 : i.size = 0
  rotate_left
  · simp -implicitDefEqProofs [hb, hb2, hb3, x0, hfl, hf, g0, g1, g2, g3, g4, g5, g6, g7, g8, g9, abin_eql, x4, x5, x6, x7, x8, x9, x10, hl9, abin_neq, abin_gtr, f0, f1, f2, f3, f4, f5, f6, f7, f8, f9, z4, z6, z7]
  by_cases z8 : i.num = 0
  rotate_left
  · simp -implicitDefEqProofs [hb, hb2, hb3, x0, hfl, hf, g0, g1, g2, g3, g4, g5, g6, g7, g8, g9, abin_eql, x4, x5, x6, x7, x8, x9, x10, hl9, abin_neq, abin_gtr, f0, f1, f2, f3, f4, f5, f6, f7, f8, f9, z4, z6, z7, z8]
  exfalso
  have e : refBare i = true := by
    unfold refBare bareI plainI
    have z9' : i.args.length = 0 ∨ i.op = 9 := by omega
    simp_all [hasD]
  rw [e] at hbad
  cases hbad
end
section
variable {d lim : Nat} {H : Heap}
set_option maxHeartbeats 4000000 in
/-- Operation 10: what it has not must be nothing. -/
theorem bare67_10 {m : Mdl} {p : Prc} {i : Ins} (hop : i.op = 10) (hbad : refBare i = false) : evCall Tryd.prog C (d + 2) lim 28 [.agg ((mD m).map .d), .agg ((pD p).map .d), .agg ((iD i).map .d)] H = some (vb false, H) := by
  rw [evCall_pureEq (fi := fi28) rfl rfl (b28 _ _ _ _ _ _), up_data, up_data, up_data]
  unfold s28
  have hb := bx_data (r := mD m) (A := []) (H := H)
  have hb2 := bx_data (r := pD p) (A := [some ((mD m).map .d)]) (H := H)
  have hb3 := bx_data (r := iD i) (A := [some ((mD m).map .d), some ((pD p).map .d)]) (H := H)
  have hfl := fun H => fields77 (d := d) (lim := 1) (H := H) (op := i.op)
  have x0 : (iD i)[0]? = some (.int .i64 i.op) := rfl
  have x4 : (iD i)[4]? = some (.int .i64 i.fn) := rfl
  have x5 : (iD i)[5]? = some (.int .i64 i.obj) := rfl
  have x6 : (iD i)[6]? = some (.int .i64 i.off) := rfl
  have x7 : (iD i)[7]? = some (.int .i64 i.size) := rfl
  have x8 : (iD i)[8]? = some (.int .u32 i.num) := rfl
  have x9 : (iD i)[9]? = some (seqD i.anl i.args nD) := rfl
  have x10 : (iD i)[10]? = some (.bool i.log) := rfl
  have hl9 := seq_len i.anl i.args nD
  generalize mD m = M at *
  generalize pD p = P at *
  generalize iD i = I at *
  rw [hop] at x0 hfl
  have hf : flV 10 = .d (.seq false 10 [.bool false, .bool true, .bool false, .bool false, .bool false, .bool false, .bool false, .bool false, .bool false, .bool false]) := rfl
  obtain ⟨g0, g1, g2, g3, g4, g5, g6, g7, g8, g9⟩ := fix_at [.bool false, .bool true, .bool false, .bool false, .bool false, .bool false, .bool false, .bool false, .bool false, .bool false]
  generalize hfs : ([.bool false, .bool true, .bool false, .bool false, .bool false, .bool false, .bool false, .bool false, .bool false, .bool false] : List D) = fs at *
  have f0 : fs[0]? = some (.bool false) := by rw [← hfs]; rfl
  have f1 : fs[1]? = some (.bool true) := by rw [← hfs]; rfl
  have f2 : fs[2]? = some (.bool false) := by rw [← hfs]; rfl
  have f3 : fs[3]? = some (.bool false) := by rw [← hfs]; rfl
  have f4 : fs[4]? = some (.bool false) := by rw [← hfs]; rfl
  have f5 : fs[5]? = some (.bool false) := by rw [← hfs]; rfl
  have f6 : fs[6]? = some (.bool false) := by rw [← hfs]; rfl
  have f7 : fs[7]? = some (.bool false) := by rw [← hfs]; rfl
  have f8 : fs[8]? = some (.bool false) := by rw [← hfs]; rfl
  have f9 : fs[9]? = some (.bool false) := by rw [← hfs]; rfl
  clear hfs
  by_cases z4 : i.fn = 0
  rotate_left
  · simp -implicitDefEqProofs [hb, hb2, hb3, x0, hfl, hf, g0, g1, g2, g3, g4, g5, g6, g7, g8, g9, abin_eql, x4, x5, x6, x7, x8, x9, x10, hl9, abin_neq, abin_gtr, f0, f1, f2, f3, f4, f5, f6, f7, f8, f9, z4]
  by_cases z5 : i.obj = 0
  rotate_left
  · simp -implicitDefEqProofs [hb, hb2, hb3, x0, hfl, hf, g0, g1, g2, g3, g4, g5, g6, g7, g8, g9, abin_eql, x4, x5, x6, x7, x8, x9, x10, hl9, abin_neq, abin_gtr, f0, f1, f2, f3, f4, f5, f6, f7, f8, f9, z4, z5]
  by_cases z6 : i.off = 0
  rotate_left
  · simp -implicitDefEqProofs [hb, hb2, hb3, x0, hfl, hf, g0, g1, g2, g3, g4, g5, g6, g7, g8, g9, abin_eql, x4, x5, x6, x7, x8, x9, x10, hl9, abin_neq, abin_gtr, f0, f1, f2, f3, f4, f5, f6, f7, f8, f9, z4, z5, z6]
  by_cases z7 : i.size = 0
  rotate_left
  · simp -implicitDefEqProofs [hb, hb2, hb3, x0, hfl, hf, g0, g1, g2, g3, g4, g5, g6, g7, g8, g9, abin_eql, x4, x5, x6, x7, x8, x9, x10, hl9, abin_neq, abin_gtr, f0, f1, f2, f3, f4, f5, f6, f7, f8, f9, z4, z5, z6, z7]
  by_cases z8 : i.num = 0
  rotate_left
  · simp -implicitDefEqProofs [hb, hb2, hb3, x0, hfl, hf, g0, g1, g2, g3, g4, g5, g6, g7, g8, g9, abin_eql, x4, x5, x6, x7, x8, x9, x10, hl9, abin_neq, abin_gtr, f0, f1, f2, f3, f4, f5, f6, f7, f8, f9, z4, z5, z6, z7, z8]
  by_cases z9 : i.args.length = 0
  rotate_left
  · have : 0 < i.args.length := by omega
    simp -implicitDefEqProofs [hb, hb2, hb3, x0, hfl, hf, g0, g1, g2, g3, g4, g5, g6, g7, g8, g9, abin_eql, x4, x5, x6, x7, x8, x9, x10, hl9, abin_neq, abin_gtr, f0, f1, f2, f3, f4, f5, f6, f7, f8, f9, z4, z5, z6, z7, z8, this]
  cases z10 : i.log with
  | true => simp -implicitDefEqProofs [hb, hb2, hb3, x0, hfl, hf, g0, g1, g2, g3, g4, g5, g6, g7, g8, g9, abin_eql, x4, x5, x6, x7, x8, x9, x10, hl9, abin_neq, abin_gtr, f0, f1, f2, f3, f4, f5, f6, f7, f8, f9, z4, z5, z6, z7, z8, z9, z10]
  | false =>
  exfalso
  have e : refBare i = true := by
    unfold refBare bareI plainI
    have z9' : i.args.length = 0 ∨ i.op = 9 := by omega
    simp_all [hasD]
  rw [e] at hbad
  cases hbad
end
section
variable {d lim : Nat} {H : Heap}
set_option maxHeartbeats 4000000 in
/-- Operation 11: what it has not must be nothing. -/
theorem bare67_11 {m : Mdl} {p : Prc} {i : Ins} (hop : i.op = 11) (hbad : refBare i = false) : evCall Tryd.prog C (d + 2) lim 28 [.agg ((mD m).map .d), .agg ((pD p).map .d), .agg ((iD i).map .d)] H = some (vb false, H) := by
  rw [evCall_pureEq (fi := fi28) rfl rfl (b28 _ _ _ _ _ _), up_data, up_data, up_data]
  unfold s28
  have hb := bx_data (r := mD m) (A := []) (H := H)
  have hb2 := bx_data (r := pD p) (A := [some ((mD m).map .d)]) (H := H)
  have hb3 := bx_data (r := iD i) (A := [some ((mD m).map .d), some ((pD p).map .d)]) (H := H)
  have hfl := fun H => fields77 (d := d) (lim := 1) (H := H) (op := i.op)
  have x0 : (iD i)[0]? = some (.int .i64 i.op) := rfl
  have x4 : (iD i)[4]? = some (.int .i64 i.fn) := rfl
  have x5 : (iD i)[5]? = some (.int .i64 i.obj) := rfl
  have x6 : (iD i)[6]? = some (.int .i64 i.off) := rfl
  have x7 : (iD i)[7]? = some (.int .i64 i.size) := rfl
  have x8 : (iD i)[8]? = some (.int .u32 i.num) := rfl
  have x9 : (iD i)[9]? = some (seqD i.anl i.args nD) := rfl
  have x10 : (iD i)[10]? = some (.bool i.log) := rfl
  have hl9 := seq_len i.anl i.args nD
  generalize mD m = M at *
  generalize pD p = P at *
  generalize iD i = I at *
  rw [hop] at x0 hfl
  have hf : flV 11 = .d (.seq false 10 [.bool true, .bool false, .bool false, .bool false, .bool false, .bool false, .bool false, .bool false, .bool false, .bool true]) := rfl
  obtain ⟨g0, g1, g2, g3, g4, g5, g6, g7, g8, g9⟩ := fix_at [.bool true, .bool false, .bool false, .bool false, .bool false, .bool false, .bool false, .bool false, .bool false, .bool true]
  generalize hfs : ([.bool true, .bool false, .bool false, .bool false, .bool false, .bool false, .bool false, .bool false, .bool false, .bool true] : List D) = fs at *
  have f0 : fs[0]? = some (.bool true) := by rw [← hfs]; rfl
  have f1 : fs[1]? = some (.bool false) := by rw [← hfs]; rfl
  have f2 : fs[2]? = some (.bool false) := by rw [← hfs]; rfl
  have f3 : fs[3]? = some (.bool false) := by rw [← hfs]; rfl
  have f4 : fs[4]? = some (.bool false) := by rw [← hfs]; rfl
  have f5 : fs[5]? = some (.bool false) := by rw [← hfs]; rfl
  have f6 : fs[6]? = some (.bool false) := by rw [← hfs]; rfl
  have f7 : fs[7]? = some (.bool false) := by rw [← hfs]; rfl
  have f8 : fs[8]? = some (.bool false) := by rw [← hfs]; rfl
  have f9 : fs[9]? = some (.bool true) := by rw [← hfs]; rfl
  clear hfs
  by_cases z4 : i.fn = 0
  rotate_left
  · simp -implicitDefEqProofs [hb, hb2, hb3, x0, hfl, hf, g0, g1, g2, g3, g4, g5, g6, g7, g8, g9, abin_eql, x4, x5, x6, x7, x8, x9, x10, hl9, abin_neq, abin_gtr, f0, f1, f2, f3, f4, f5, f6, f7, f8, f9, z4]
  by_cases z5 : i.obj = 0
  rotate_left
  · simp -implicitDefEqProofs [hb, hb2, hb3, x0, hfl, hf, g0, g1, g2, g3, g4, g5, g6, g7, g8, g9, abin_eql, x4, x5, x6, x7, x8, x9, x10, hl9, abin_neq, abin_gtr, f0, f1, f2, f3, f4, f5, f6, f7, f8, f9, z4, z5]
  by_cases z6 : i.off = 0
  rotate_left
  · simp -implicitDefEqProofs [hb, hb2, hb3, x0, hfl, hf, g0, g1, g2, g3, g4, g5, g6, g7, g8, g9, abin_eql, x4, x5, x6, x7, x8, x9, x10, hl9, abin_neq, abin_gtr, f0, f1, f2, f3, f4, f5, f6, f7, f8, f9, z4, z5, z6]
  by_cases z7 : i.size = 0
  rotate_left
  · simp -implicitDefEqProofs [hb, hb2, hb3, x0, hfl, hf, g0, g1, g2, g3, g4, g5, g6, g7, g8, g9, abin_eql, x4, x5, x6, x7, x8, x9, x10, hl9, abin_neq, abin_gtr, f0, f1, f2, f3, f4, f5, f6, f7, f8, f9, z4, z5, z6, z7]
  by_cases z8 : i.num = 0
  rotate_left
  · simp -implicitDefEqProofs [hb, hb2, hb3, x0, hfl, hf, g0, g1, g2, g3, g4, g5, g6, g7, g8, g9, abin_eql, x4, x5, x6, x7, x8, x9, x10, hl9, abin_neq, abin_gtr, f0, f1, f2, f3, f4, f5, f6, f7, f8, f9, z4, z5, z6, z7, z8]
  by_cases z9 : i.args.length = 0
  rotate_left
  · have : 0 < i.args.length := by omega
    simp -implicitDefEqProofs [hb, hb2, hb3, x0, hfl, hf, g0, g1, g2, g3, g4, g5, g6, g7, g8, g9, abin_eql, x4, x5, x6, x7, x8, x9, x10, hl9, abin_neq, abin_gtr, f0, f1, f2, f3, f4, f5, f6, f7, f8, f9, z4, z5, z6, z7, z8, this]
  exfalso
  have e : refBare i = true := by
    unfold refBare bareI plainI
    have z9' : i.args.length = 0 ∨ i.op = 9 := by omega
    simp_all [hasD]
  rw [e] at hbad
  cases hbad
end
section
variable {d lim : Nat} {H : Heap}
set_option maxHeartbeats 4000000 in
/-- Operation 12: what it has not must be nothing. -/
theorem bare67_12 {m : Mdl} {p : Prc} {i : Ins} (hop : i.op = 12) (hbad : refBare i = false) : evCall Tryd.prog C (d + 2) lim 28 [.agg ((mD m).map .d), .agg ((pD p).map .d), .agg ((iD i).map .d)] H = some (vb false, H) := by
  rw [evCall_pureEq (fi := fi28) rfl rfl (b28 _ _ _ _ _ _), up_data, up_data, up_data]
  unfold s28
  have hb := bx_data (r := mD m) (A := []) (H := H)
  have hb2 := bx_data (r := pD p) (A := [some ((mD m).map .d)]) (H := H)
  have hb3 := bx_data (r := iD i) (A := [some ((mD m).map .d), some ((pD p).map .d)]) (H := H)
  have hfl := fun H => fields77 (d := d) (lim := 1) (H := H) (op := i.op)
  have x0 : (iD i)[0]? = some (.int .i64 i.op) := rfl
  have x4 : (iD i)[4]? = some (.int .i64 i.fn) := rfl
  have x5 : (iD i)[5]? = some (.int .i64 i.obj) := rfl
  have x6 : (iD i)[6]? = some (.int .i64 i.off) := rfl
  have x7 : (iD i)[7]? = some (.int .i64 i.size) := rfl
  have x8 : (iD i)[8]? = some (.int .u32 i.num) := rfl
  have x9 : (iD i)[9]? = some (seqD i.anl i.args nD) := rfl
  have x10 : (iD i)[10]? = some (.bool i.log) := rfl
  have hl9 := seq_len i.anl i.args nD
  generalize mD m = M at *
  generalize pD p = P at *
  generalize iD i = I at *
  rw [hop] at x0 hfl
  have hf : flV 12 = .d (.seq false 10 [.bool false, .bool false, .bool false, .bool false, .bool false, .bool false, .bool false, .bool false, .bool false, .bool false]) := rfl
  obtain ⟨g0, g1, g2, g3, g4, g5, g6, g7, g8, g9⟩ := fix_at [.bool false, .bool false, .bool false, .bool false, .bool false, .bool false, .bool false, .bool false, .bool false, .bool false]
  generalize hfs : ([.bool false, .bool false, .bool false, .bool false, .bool false, .bool false, .bool false, .bool false, .bool false, .bool false] : List D) = fs at *
  have f0 : fs[0]? = some (.bool false) := by rw [← hfs]; rfl
  have f1 : fs[1]? = some (.bool false) := by rw [← hfs]; rfl
  have f2 : fs[2]? = some (.bool false) := by rw [← hfs]; rfl
  have f3 : fs[3]? = some (.bool false) := by rw [← hfs]; rfl
  have f4 : fs[4]? = some (.bool false) := by rw [← hfs]; rfl
  have f5 : fs[5]? = some (.bool false) := by rw [← hfs]; rfl
  have f6 : fs[6]? = some (.bool false) := by rw [← hfs]; rfl
  have f7 : fs[7]? = some (.bool false) := by rw [← hfs]; rfl
  have f8 : fs[8]? = some (.bool false) := by rw [← hfs]; rfl
  have f9 : fs[9]? = some (.bool false) := by rw [← hfs]; rfl
  clear hfs
  by_cases z4 : i.fn = 0
  rotate_left
  · simp -implicitDefEqProofs [hb, hb2, hb3, x0, hfl, hf, g0, g1, g2, g3, g4, g5, g6, g7, g8, g9, abin_eql, x4, x5, x6, x7, x8, x9, x10, hl9, abin_neq, abin_gtr, f0, f1, f2, f3, f4, f5, f6, f7, f8, f9, z4]
  by_cases z5 : i.obj = 0
  rotate_left
  · simp -implicitDefEqProofs [hb, hb2, hb3, x0, hfl, hf, g0, g1, g2, g3, g4, g5, g6, g7, g8, g9, abin_eql, x4, x5, x6, x7, x8, x9, x10, hl9, abin_neq, abin_gtr, f0, f1, f2, f3, f4, f5, f6, f7, f8, f9, z4, z5]
  by_cases z6 : i.off = 0
  rotate_left
  · simp -implicitDefEqProofs [hb, hb2, hb3, x0, hfl, hf, g0, g1, g2, g3, g4, g5, g6, g7, g8, g9, abin_eql, x4, x5, x6, x7, x8, x9, x10, hl9, abin_neq, abin_gtr, f0, f1, f2, f3, f4, f5, f6, f7, f8, f9, z4, z5, z6]
  by_cases z7 : i.size = 0
  rotate_left
  · simp -implicitDefEqProofs [hb, hb2, hb3, x0, hfl, hf, g0, g1, g2, g3, g4, g5, g6, g7, g8, g9, abin_eql, x4, x5, x6, x7, x8, x9, x10, hl9, abin_neq, abin_gtr, f0, f1, f2, f3, f4, f5, f6, f7, f8, f9, z4, z5, z6, z7]
  by_cases z8 : i.num = 0
  rotate_left
  · simp -implicitDefEqProofs [hb, hb2, hb3, x0, hfl, hf, g0, g1, g2, g3, g4, g5, g6, g7, g8, g9, abin_eql, x4, x5, x6, x7, x8, x9, x10, hl9, abin_neq, abin_gtr, f0, f1, f2, f3, f4, f5, f6, f7, f8, f9, z4, z5, z6, z7, z8]
  by_cases z9 : i.args.length = 0
  rotate_left
  · have : 0 < i.args.length := by omega
    simp -implicitDefEqProofs [hb, hb2, hb3, x0, hfl, hf, g0, g1, g2, g3, g4, g5, g6, g7, g8, g9, abin_eql, x4, x5, x6, x7, x8, x9, x10, hl9, abin_neq, abin_gtr, f0, f1, f2, f3, f4, f5, f6, f7, f8, f9, z4, z5, z6, z7, z8, this]
  cases z10 : i.log with
  | true => simp -implicitDefEqProofs [hb, hb2, hb3, x0, hfl, hf, g0, g1, g2, g3, g4, g5, g6, g7, g8, g9, abin_eql, x4, x5, x6, x7, x8, x9, x10, hl9, abin_neq, abin_gtr, f0, f1, f2, f3, f4, f5, f6, f7, f8, f9, z4, z5, z6, z7, z8, z9, z10]
  | false =>
  exfalso
  have e : refBare i = true := by
    unfold refBare bareI plainI
    have z9' : i.args.length = 0 ∨ i.op = 9 := by omega
    simp_all [hasD]
  rw [e] at hbad
  cases hbad
end
end Go.Ev.Tryd

/- The document's answer: instructions, the second part: registers and the rest. -/
set_option maxRecDepth 100000
namespace Go.Ev.Tryd
open Go Go.Ev Go.Proofs
theorem regOk_neg {p : Prc} : regOk p (-1) true = false := by simp [regOk]

section
variable {d lim : Nat} {H : Heap}
set_option maxHeartbeats 4000000 in
/-- Operation 1: registers and the rest. -/
theorem good67_1 {m : Mdl} {p : Prc} {i : Ins} (r0 : 0 ≤ p.regs) (r1 : p.regs ≤ 8000) (hop : i.op = 1) (hz : refBare i = true) : evCall Tryd.prog C (d + 2) lim 28 [.agg ((mD m).map .d), .agg ((pD p).map .d), .agg ((iD i).map .d)] H = some (vb (insOk m p i), H) := by
  rw [evCall_pureEq (fi := fi28) rfl rfl (b28 _ _ _ _ _ _), up_data, up_data, up_data]
  unfold s28
  have hb := bx_data (r := mD m) (A := []) (H := H)
  have hb2 := bx_data (r := pD p) (A := [some ((mD m).map .d)]) (H := H)
  have hb3 := bx_data (r := iD i) (A := [some ((mD m).map .d), some ((pD p).map .d)]) (H := H)
  have hfl := fun H => fields77 (d := d) (lim := 1) (H := H) (op := i.op)
  have hc := cut_data (r := pD p) (n := 6) rfl
  have hr := fun (r : Int) (t : Bool) (H : Heap) => reg76 (d := d) (lim := 1) (H := H) (p := p) (r := r) (t := t) r0 r1
  have m0 : (mD m)[0]? = some (seqD m.gnl m.globs sD) := rfl
  have p4 : (pD p)[4]? = some (seqD p.onl p.objs sD) := rfl
  have hl0 := seq_len m.gnl m.globs sD
  have hl4 := seq_len p.onl p.objs sD
  have x0 : (iD i)[0]? = some (.int .i64 i.op) := rfl
  have x1 : (iD i)[1]? = some (.int .i64 i.d) := rfl
  have x2 : (iD i)[2]? = some (.int .i64 i.a) := rfl
  have x3 : (iD i)[3]? = some (.int .i64 i.b) := rfl
  have x4 : (iD i)[4]? = some (.int .i64 i.fn) := rfl
  have x5 : (iD i)[5]? = some (.int .i64 i.obj) := rfl
  have x6 : (iD i)[6]? = some (.int .i64 i.off) := rfl
  have x7 : (iD i)[7]? = some (.int .i64 i.size) := rfl
  have x8 : (iD i)[8]? = some (.int .u32 i.num) := rfl
  have x9 : (iD i)[9]? = some (seqD i.anl i.args nD) := rfl
  have x10 : (iD i)[10]? = some (.bool i.log) := rfl
  have hl9 := seq_len i.anl i.args nD
  generalize mD m = M at *
  generalize pD p = P at *
  generalize iD i = I at *
  have hi : insOk m p i = (bareI i && (regOk p i.d (outD i.op) && regOk p i.a (hasA i.op) && regOk p i.b (hasB i.op) && restOk m p i)) := by
    unfold insOk
    simp [hop]
  rw [hi]
  have hz0 := hz
  simp [refBare, bareI, plainI, hop, hasD] at hz
  rw [hop] at x0 hfl
  have hf : flV 1 = .d (.seq false 10 [.bool true, .bool false, .bool false, .bool false, .bool false, .bool false, .bool false, .bool true, .bool false, .bool true]) := rfl
  obtain ⟨g0, g1, g2, g3, g4, g5, g6, g7, g8, g9⟩ := fix_at [.bool true, .bool false, .bool false, .bool false, .bool false, .bool false, .bool false, .bool true, .bool false, .bool true]
  generalize hfs : ([.bool true, .bool false, .bool false, .bool false, .bool false, .bool false, .bool false, .bool true, .bool false, .bool true] : List D) = fs at *
  have f0 : fs[0]? = some (.bool true) := by rw [← hfs]; rfl
  have f1 : fs[1]? = some (.bool false) := by rw [← hfs]; rfl
  have f2 : fs[2]? = some (.bool false) := by rw [← hfs]; rfl
  have f3 : fs[3]? = some (.bool false) := by rw [← hfs]; rfl
  have f4 : fs[4]? = some (.bool false) := by rw [← hfs]; rfl
  have f5 : fs[5]? = some (.bool false) := by rw [← hfs]; rfl
  have f6 : fs[6]? = some (.bool false) := by rw [← hfs]; rfl
  have f7 : fs[7]? = some (.bool true) := by rw [← hfs]; rfl
  have f8 : fs[8]? = some (.bool false) := by rw [← hfs]; rfl
  have f9 : fs[9]? = some (.bool true) := by rw [← hfs]; rfl
  clear hfs
  have z4 : i.fn = 0 := by simp_all
  have z5 : i.obj = 0 := by simp_all
  have z6 : i.off = 0 := by simp_all
  have z7 : i.size = 0 := by simp_all
  have z9 : i.args.length = 0 := by simp_all
  have o1 : outD i.op = true := by rw [hop]; rfl
  have o2 : hasA i.op = false := by rw [hop]; rfl
  have o3 : hasB i.op = false := by rw [hop]; rfl
  rw [o1, o2, o3]
  cases k1 : regOk p i.d true with
  | false => simp -implicitDefEqProofs [hb, hb2, hb3, x0, hfl, hf, g0, g1, g2, g3, g4, g5, g6, g7, g8, g9, abin_eql, x4, x5, x6, x7, x8, x9, x10, hl9, abin_neq, abin_gtr, f0, f1, f2, f3, f4, f5, f6, f7, f8, f9, hc, x1, x2, x3, hr, abin_lss, abin_geq, z4, z5, z6, z7, z9, k1]
  | true =>
  have hd : i.d ≠ -1 := fun e => by rw [e, regOk_neg] at k1; cases k1
  have hba : bareI i = true := by
    unfold refBare bareI plainI at hz0
    unfold bareI plainI
    simp_all [hasD]
  rw [hba]
  simp only [Bool.true_and]
  cases k2 : regOk p i.a false with
  | false => simp -implicitDefEqProofs [hb, hb2, hb3, x0, hfl, hf, g0, g1, g2, g3, g4, g5, g6, g7, g8, g9, abin_eql, x4, x5, x6, x7, x8, x9, x10, hl9, abin_neq, abin_gtr, f0, f1, f2, f3, f4, f5, f6, f7, f8, f9, hc, x1, x2, x3, hr, abin_lss, abin_geq, z4, z5, z6, z7, z9, k1, k2]
  | true =>
  cases k3 : regOk p i.b false with
  | false => simp -implicitDefEqProofs [hb, hb2, hb3, x0, hfl, hf, g0, g1, g2, g3, g4, g5, g6, g7, g8, g9, abin_eql, x4, x5, x6, x7, x8, x9, x10, hl9, abin_neq, abin_gtr, f0, f1, f2, f3, f4, f5, f6, f7, f8, f9, hc, x1, x2, x3, hr, abin_lss, abin_geq, z4, z5, z6, z7, z9, k1, k2, k3]
  | true =>
  simp -implicitDefEqProofs [hb, hb2, hb3, x0, hfl, hf, g0, g1, g2, g3, g4, g5, g6, g7, g8, g9, abin_eql, x4, x5, x6, x7, x8, x9, x10, hl9, abin_neq, abin_gtr, f0, f1, f2, f3, f4, f5, f6, f7, f8, f9, hc, x1, x2, x3, hr, abin_lss, abin_geq, z4, z5, z6, z7, z9, k1, k2, k3, restOk, offOk, hop]
end
section
variable {d lim : Nat} {H : Heap}
set_option maxHeartbeats 4000000 in
/-- Operation 2: registers and the rest. -/
theorem good67_2 {m : Mdl} {p : Prc} {i : Ins} (r0 : 0 ≤ p.regs) (r1 : p.regs ≤ 8000) (hop : i.op = 2) (hz : refBare i = true) : evCall Tryd.prog C (d + 2) lim 28 [.agg ((mD m).map .d), .agg ((pD p).map .d), .agg ((iD i).map .d)] H = some (vb (insOk m p i), H) := by
  rw [evCall_pureEq (fi := fi28) rfl rfl (b28 _ _ _ _ _ _), up_data, up_data, up_data]
  unfold s28
  have hb := bx_data (r := mD m) (A := []) (H := H)
  have hb2 := bx_data (r := pD p) (A := [some ((mD m).map .d)]) (H := H)
  have hb3 := bx_data (r := iD i) (A := [some ((mD m).map .d), some ((pD p).map .d)]) (H := H)
  have hfl := fun H => fields77 (d := d) (lim := 1) (H := H) (op := i.op)
  have hc := cut_data (r := pD p) (n := 6) rfl
  have hr := fun (r : Int) (t : Bool) (H : Heap) => reg76 (d := d) (lim := 1) (H := H) (p := p) (r := r) (t := t) r0 r1
  have m0 : (mD m)[0]? = some (seqD m.gnl m.globs sD) := rfl
  have p4 : (pD p)[4]? = some (seqD p.onl p.objs sD) := rfl
  have hl0 := seq_len m.gnl m.globs sD
  have hl4 := seq_len p.onl p.objs sD
  have x0 : (iD i)[0]? = some (.int .i64 i.op) := rfl
  have x1 : (iD i)[1]? = some (.int .i64 i.d) := rfl
  have x2 : (iD i)[2]? = some (.int .i64 i.a) := rfl
  have x3 : (iD i)[3]? = some (.int .i64 i.b) := rfl
  have x4 : (iD i)[4]? = some (.int .i64 i.fn) := rfl
  have x5 : (iD i)[5]? = some (.int .i64 i.obj) := rfl
  have x6 : (iD i)[6]? = some (.int .i64 i.off) := rfl
  have x7 : (iD i)[7]? = some (.int .i64 i.size) := rfl
  have x8 : (iD i)[8]? = some (.int .u32 i.num) := rfl
  have x9 : (iD i)[9]? = some (seqD i.anl i.args nD) := rfl
  have x10 : (iD i)[10]? = some (.bool i.log) := rfl
  have hl9 := seq_len i.anl i.args nD
  generalize mD m = M at *
  generalize pD p = P at *
  generalize iD i = I at *
  have hi : insOk m p i = (bareI i && (regOk p i.d (outD i.op) && regOk p i.a (hasA i.op) && regOk p i.b (hasB i.op) && restOk m p i)) := by
    unfold insOk
    simp [hop]
  rw [hi]
  have hz0 := hz
  simp [refBare, bareI, plainI, hop, hasD] at hz
  rw [hop] at x0 hfl
  have hf : flV 2 = .d (.seq false 10 [.bool true, .bool true, .bool false, .bool false, .bool false, .bool false, .bool false, .bool false, .bool false, .bool true]) := rfl
  obtain ⟨g0, g1, g2, g3, g4, g5, g6, g7, g8, g9⟩ := fix_at [.bool true, .bool true, .bool false, .bool false, .bool false, .bool false, .bool false, .bool false, .bool false, .bool true]
  generalize hfs : ([.bool true, .bool true, .bool false, .bool false, .bool false, .bool false, .bool false, .bool false, .bool false, .bool true] : List D) = fs at *
  have f0 : fs[0]? = some (.bool true) := by rw [← hfs]; rfl
  have f1 : fs[1]? = some (.bool true) := by rw [← hfs]; rfl
  have f2 : fs[2]? = some (.bool false) := by rw [← hfs]; rfl
  have f3 : fs[3]? = some (.bool false) := by rw [← hfs]; rfl
  have f4 : fs[4]? = some (.bool false) := by rw [← hfs]; rfl
  have f5 : fs[5]? = some (.bool false) := by rw [← hfs]; rfl
  have f6 : fs[6]? = some (.bool false) := by rw [← hfs]; rfl
  have f7 : fs[7]? = some (.bool false) := by rw [← hfs]; rfl
  have f8 : fs[8]? = some (.bool false) := by rw [← hfs]; rfl
  have f9 : fs[9]? = some (.bool true) := by rw [← hfs]; rfl
  clear hfs
  have z4 : i.fn = 0 := by simp_all
  have z5 : i.obj = 0 := by simp_all
  have z6 : i.off = 0 := by simp_all
  have z7 : i.size = 0 := by simp_all
  have z8 : i.num = 0 := by simp_all
  have z9 : i.args.length = 0 := by simp_all
  have o1 : outD i.op = true := by rw [hop]; rfl
  have o2 : hasA i.op = true := by rw [hop]; rfl
  have o3 : hasB i.op = false := by rw [hop]; rfl
  rw [o1, o2, o3]
  cases k1 : regOk p i.d true with
  | false => simp -implicitDefEqProofs [hb, hb2, hb3, x0, hfl, hf, g0, g1, g2, g3, g4, g5, g6, g7, g8, g9, abin_eql, x4, x5, x6, x7, x8, x9, x10, hl9, abin_neq, abin_gtr, f0, f1, f2, f3, f4, f5, f6, f7, f8, f9, hc, x1, x2, x3, hr, abin_lss, abin_geq, z4, z5, z6, z7, z8, z9, k1]
  | true =>
  have hd : i.d ≠ -1 := fun e => by rw [e, regOk_neg] at k1; cases k1
  have hba : bareI i = true := by
    unfold refBare bareI plainI at hz0
    unfold bareI plainI
    simp_all [hasD]
  rw [hba]
  simp only [Bool.true_and]
  cases k2 : regOk p i.a true with
  | false => simp -implicitDefEqProofs [hb, hb2, hb3, x0, hfl, hf, g0, g1, g2, g3, g4, g5, g6, g7, g8, g9, abin_eql, x4, x5, x6, x7, x8, x9, x10, hl9, abin_neq, abin_gtr, f0, f1, f2, f3, f4, f5, f6, f7, f8, f9, hc, x1, x2, x3, hr, abin_lss, abin_geq, z4, z5, z6, z7, z8, z9, k1, k2]
  | true =>
  cases k3 : regOk p i.b false with
  | false => simp -implicitDefEqProofs [hb, hb2, hb3, x0, hfl, hf, g0, g1, g2, g3, g4, g5, g6, g7, g8, g9, abin_eql, x4, x5, x6, x7, x8, x9, x10, hl9, abin_neq, abin_gtr, f0, f1, f2, f3, f4, f5, f6, f7, f8, f9, hc, x1, x2, x3, hr, abin_lss, abin_geq, z4, z5, z6, z7, z8, z9, k1, k2, k3]
  | true =>
  simp -implicitDefEqProofs [hb, hb2, hb3, x0, hfl, hf, g0, g1, g2, g3, g4, g5, g6, g7, g8, g9, abin_eql, x4, x5, x6, x7, x8, x9, x10, hl9, abin_neq, abin_gtr, f0, f1, f2, f3, f4, f5, f6, f7, f8, f9, hc, x1, x2, x3, hr, abin_lss, abin_geq, z4, z5, z6, z7, z8, z9, k1, k2, k3, restOk, offOk, hop]
end
section
variable {d lim : Nat} {H : Heap}
set_option maxHeartbeats 4000000 in
/-- Operation 3: registers and the rest. -/
theorem good67_3 {m : Mdl} {p : Prc} {i : Ins} (r0 : 0 ≤ p.regs) (r1 : p.regs ≤ 8000) (hop : i.op = 3) (hz : refBare i = true) : evCall Tryd.prog C (d + 2) lim 28 [.agg ((mD m).map .d), .agg ((pD p).map .d), .agg ((iD i).map .d)] H = some (vb (insOk m p i), H) := by
  rw [evCall_pureEq (fi := fi28) rfl rfl (b28 _ _ _ _ _ _), up_data, up_data, up_data]
  unfold s28
  have hb := bx_data (r := mD m) (A := []) (H := H)
  have hb2 := bx_data (r := pD p) (A := [some ((mD m).map .d)]) (H := H)
  have hb3 := bx_data (r := iD i) (A := [some ((mD m).map .d), some ((pD p).map .d)]) (H := H)
  have hfl := fun H => fields77 (d := d) (lim := 1) (H := H) (op := i.op)
  have hc := cut_data (r := pD p) (n := 6) rfl
  have hr := fun (r : Int) (t : Bool) (H : Heap) => reg76 (d := d) (lim := 1) (H := H) (p := p) (r := r) (t := t) r0 r1
  have m0 : (mD m)[0]? = some (seqD m.gnl m.globs sD) := rfl
  have p4 : (pD p)[4]? = some (seqD p.onl p.objs sD) := rfl
  have hl0 := seq_len m.gnl m.globs sD
  have hl4 := seq_len p.onl p.objs sD
  have x0 : (iD i)[0]? = some (.int .i64 i.op) := rfl
  have x1 : (iD i)[1]? = some (.int .i64 i.d) := rfl
  have x2 : (iD i)[2]? = some (.int .i64 i.a) := rfl
  have x3 : (iD i)[3]? = some (.int .i64 i.b) := rfl
  have x4 : (iD i)[4]? = some (.int .i64 i.fn) := rfl
  have x5 : (iD i)[5]? = some (.int .i64 i.obj) := rfl
  have x6 : (iD i)[6]? = some (.int .i64 i.off) := rfl
  have x7 : (iD i)[7]? = some (.int .i64 i.size) := rfl
  have x8 : (iD i)[8]? = some (.int .u32 i.num) := rfl
  have x9 : (iD i)[9]? = some (seqD i.anl i.args nD) := rfl
  have x10 : (iD i)[10]? = some (.bool i.log) := rfl
  have hl9 := seq_len i.anl i.args nD
  generalize mD m = M at *
  generalize pD p = P at *
  generalize iD i = I at *
  have hi : insOk m p i = (bareI i && (regOk p i.d (outD i.op) && regOk p i.a (hasA i.op) && regOk p i.b (hasB i.op) && restOk m p i)) := by
    unfold insOk
    simp [hop]
  rw [hi]
  have hz0 := hz
  simp [refBare, bareI, plainI, hop, hasD] at hz
  rw [hop] at x0 hfl
  have hf : flV 3 = .d (.seq false 10 [.bool true, .bool true, .bool true, .bool true, .bool false, .bool false, .bool false, .bool false, .bool false, .bool true]) := rfl
  obtain ⟨g0, g1, g2, g3, g4, g5, g6, g7, g8, g9⟩ := fix_at [.bool true, .bool true, .bool true, .bool true, .bool false, .bool false, .bool false, .bool false, .bool false, .bool true]
  generalize hfs : ([.bool true, .bool true, .bool true, .bool true, .bool false, .bool false, .bool false, .bool false, .bool false, .bool true] : List D) = fs at *
  have f0 : fs[0]? = some (.bool true) := by rw [← hfs]; rfl
  have f1 : fs[1]? = some (.bool true) := by rw [← hfs]; rfl
  have f2 : fs[2]? = some (.bool true) := by rw [← hfs]; rfl
  have f3 : fs[3]? = some (.bool true) := by rw [← hfs]; rfl
  have f4 : fs[4]? = some (.bool false) := by rw [← hfs]; rfl
  have f5 : fs[5]? = some (.bool false) := by rw [← hfs]; rfl
  have f6 : fs[6]? = some (.bool false) := by rw [← hfs]; rfl
  have f7 : fs[7]? = some (.bool false) := by rw [← hfs]; rfl
  have f8 : fs[8]? = some (.bool false) := by rw [← hfs]; rfl
  have f9 : fs[9]? = some (.bool true) := by rw [← hfs]; rfl
  clear hfs
  have z5 : i.obj = 0 := by simp_all
  have z6 : i.off = 0 := by simp_all
  have z7 : i.size = 0 := by simp_all
  have z8 : i.num = 0 := by simp_all
  have z9 : i.args.length = 0 := by simp_all
  have o1 : outD i.op = true := by rw [hop]; rfl
  have o2 : hasA i.op = true := by rw [hop]; rfl
  have o3 : hasB i.op = true := by rw [hop]; rfl
  rw [o1, o2, o3]
  cases k1 : regOk p i.d true with
  | false => simp -implicitDefEqProofs [hb, hb2, hb3, x0, hfl, hf, g0, g1, g2, g3, g4, g5, g6, g7, g8, g9, abin_eql, x4, x5, x6, x7, x8, x9, x10, hl9, abin_neq, abin_gtr, f0, f1, f2, f3, f4, f5, f6, f7, f8, f9, hc, x1, x2, x3, hr, abin_lss, abin_geq, z5, z6, z7, z8, z9, k1]
  | true =>
  have hd : i.d ≠ -1 := fun e => by rw [e, regOk_neg] at k1; cases k1
  have hba : bareI i = true := by
    unfold refBare bareI plainI at hz0
    unfold bareI plainI
    simp_all [hasD]
  rw [hba]
  simp only [Bool.true_and]
  cases k2 : regOk p i.a true with
  | false => simp -implicitDefEqProofs [hb, hb2, hb3, x0, hfl, hf, g0, g1, g2, g3, g4, g5, g6, g7, g8, g9, abin_eql, x4, x5, x6, x7, x8, x9, x10, hl9, abin_neq, abin_gtr, f0, f1, f2, f3, f4, f5, f6, f7, f8, f9, hc, x1, x2, x3, hr, abin_lss, abin_geq, z5, z6, z7, z8, z9, k1, k2]
  | true =>
  cases k3 : regOk p i.b true with
  | false => simp -implicitDefEqProofs [hb, hb2, hb3, x0, hfl, hf, g0, g1, g2, g3, g4, g5, g6, g7, g8, g9, abin_eql, x4, x5, x6, x7, x8, x9, x10, hl9, abin_neq, abin_gtr, f0, f1, f2, f3, f4, f5, f6, f7, f8, f9, hc, x1, x2, x3, hr, abin_lss, abin_geq, z5, z6, z7, z8, z9, k1, k2, k3]
  | true =>
  by_cases c1 : i.fn < 1
  · have c1' : ¬ 1 ≤ i.fn := by omega
    simp -implicitDefEqProofs [hb, hb2, hb3, x0, hfl, hf, g0, g1, g2, g3, g4, g5, g6, g7, g8, g9, abin_eql, x4, x5, x6, x7, x8, x9, x10, hl9, abin_neq, abin_gtr, f0, f1, f2, f3, f4, f5, f6, f7, f8, f9, hc, x1, x2, x3, hr, abin_lss, abin_geq, z5, z6, z7, z8, z9, k1, k2, k3, restOk, offOk, hop, c1, c1']
  have c1' : 1 ≤ i.fn := by omega
  by_cases c2 : 16 < i.fn
  · have c2' : ¬ i.fn ≤ 16 := by omega
    simp -implicitDefEqProofs [hb, hb2, hb3, x0, hfl, hf, g0, g1, g2, g3, g4, g5, g6, g7, g8, g9, abin_eql, x4, x5, x6, x7, x8, x9, x10, hl9, abin_neq, abin_gtr, f0, f1, f2, f3, f4, f5, f6, f7, f8, f9, hc, x1, x2, x3, hr, abin_lss, abin_geq, z5, z6, z7, z8, z9, k1, k2, k3, restOk, offOk, hop, c1, c1', c2, c2']
  have c2' : i.fn ≤ 16 := by omega
  simp -implicitDefEqProofs [hb, hb2, hb3, x0, hfl, hf, g0, g1, g2, g3, g4, g5, g6, g7, g8, g9, abin_eql, x4, x5, x6, x7, x8, x9, x10, hl9, abin_neq, abin_gtr, f0, f1, f2, f3, f4, f5, f6, f7, f8, f9, hc, x1, x2, x3, hr, abin_lss, abin_geq, z5, z6, z7, z8, z9, k1, k2, k3, restOk, offOk, hop, c1, c1', c2, c2']
end
section
variable {d lim : Nat} {H : Heap}
set_option maxHeartbeats 4000000 in
/-- Operation 4: registers and the rest. -/
theorem good67_4 {m : Mdl} {p : Prc} {i : Ins} (r0 : 0 ≤ p.regs) (r1 : p.regs ≤ 8000) (hop : i.op = 4) (hz : refBare i = true) : evCall Tryd.prog C (d + 2) lim 28 [.agg ((mD m).map .d), .agg ((pD p).map .d), .agg ((iD i).map .d)] H = some (vb (insOk m p i), H) := by
  rw [evCall_pureEq (fi := fi28) rfl rfl (b28 _ _ _ _ _ _), up_data, up_data, up_data]
  unfold s28
  have hb := bx_data (r := mD m) (A := []) (H := H)
  have hb2 := bx_data (r := pD p) (A := [some ((mD m).map .d)]) (H := H)
  have hb3 := bx_data (r := iD i) (A := [some ((mD m).map .d), some ((pD p).map .d)]) (H := H)
  have hfl := fun H => fields77 (d := d) (lim := 1) (H := H) (op := i.op)
  have hc := cut_data (r := pD p) (n := 6) rfl
  have hr := fun (r : Int) (t : Bool) (H : Heap) => reg76 (d := d) (lim := 1) (H := H) (p := p) (r := r) (t := t) r0 r1
  have m0 : (mD m)[0]? = some (seqD m.gnl m.globs sD) := rfl
  have p4 : (pD p)[4]? = some (seqD p.onl p.objs sD) := rfl
  have hl0 := seq_len m.gnl m.globs sD
  have hl4 := seq_len p.onl p.objs sD
  have x0 : (iD i)[0]? = some (.int .i64 i.op) := rfl
  have x1 : (iD i)[1]? = some (.int .i64 i.d) := rfl
  have x2 : (iD i)[2]? = some (.int .i64 i.a) := rfl
  have x3 : (iD i)[3]? = some (.int .i64 i.b) := rfl
  have x4 : (iD i)[4]? = some (.int .i64 i.fn) := rfl
  have x5 : (iD i)[5]? = some (.int .i64 i.obj) := rfl
  have x6 : (iD i)[6]? = some (.int .i64 i.off) := rfl
  have x7 : (iD i)[7]? = some (.int .i64 i.size) := rfl
  have x8 : (iD i)[8]? = some (.int .u32 i.num) := rfl
  have x9 : (iD i)[9]? = some (seqD i.anl i.args nD) := rfl
  have x10 : (iD i)[10]? = some (.bool i.log) := rfl
  have hl9 := seq_len i.anl i.args nD
  generalize mD m = M at *
  generalize pD p = P at *
  generalize iD i = I at *
  have hi : insOk m p i = (bareI i && (regOk p i.d (outD i.op) && regOk p i.a (hasA i.op) && regOk p i.b (hasB i.op) && restOk m p i)) := by
    unfold insOk
    simp [hop]
  rw [hi]
  have hz0 := hz
  simp [refBare, bareI, plainI, hop, hasD] at hz
  rw [hop] at x0 hfl
  have hf : flV 4 = .d (.seq false 10 [.bool true, .bool true, .bool false, .bool true, .bool false, .bool false, .bool false, .bool false, .bool false, .bool true]) := rfl
  obtain ⟨g0, g1, g2, g3, g4, g5, g6, g7, g8, g9⟩ := fix_at [.bool true, .bool true, .bool false, .bool true, .bool false, .bool false, .bool false, .bool false, .bool false, .bool true]
  generalize hfs : ([.bool true, .bool true, .bool false, .bool true, .bool false, .bool false, .bool false, .bool false, .bool false, .bool true] : List D) = fs at *
  have f0 : fs[0]? = some (.bool true) := by rw [← hfs]; rfl
  have f1 : fs[1]? = some (.bool true) := by rw [← hfs]; rfl
  have f2 : fs[2]? = some (.bool false) := by rw [← hfs]; rfl
  have f3 : fs[3]? = some (.bool true) := by rw [← hfs]; rfl
  have f4 : fs[4]? = some (.bool false) := by rw [← hfs]; rfl
  have f5 : fs[5]? = some (.bool false) := by rw [← hfs]; rfl
  have f6 : fs[6]? = some (.bool false) := by rw [← hfs]; rfl
  have f7 : fs[7]? = some (.bool false) := by rw [← hfs]; rfl
  have f8 : fs[8]? = some (.bool false) := by rw [← hfs]; rfl
  have f9 : fs[9]? = some (.bool true) := by rw [← hfs]; rfl
  clear hfs
  have z5 : i.obj = 0 := by simp_all
  have z6 : i.off = 0 := by simp_all
  have z7 : i.size = 0 := by simp_all
  have z8 : i.num = 0 := by simp_all
  have z9 : i.args.length = 0 := by simp_all
  have o1 : outD i.op = true := by rw [hop]; rfl
  have o2 : hasA i.op = true := by rw [hop]; rfl
  have o3 : hasB i.op = false := by rw [hop]; rfl
  rw [o1, o2, o3]
  cases k1 : regOk p i.d true with
  | false => simp -implicitDefEqProofs [hb, hb2, hb3, x0, hfl, hf, g0, g1, g2, g3, g4, g5, g6, g7, g8, g9, abin_eql, x4, x5, x6, x7, x8, x9, x10, hl9, abin_neq, abin_gtr, f0, f1, f2, f3, f4, f5, f6, f7, f8, f9, hc, x1, x2, x3, hr, abin_lss, abin_geq, z5, z6, z7, z8, z9, k1]
  | true =>
  have hd : i.d ≠ -1 := fun e => by rw [e, regOk_neg] at k1; cases k1
  have hba : bareI i = true := by
    unfold refBare bareI plainI at hz0
    unfold bareI plainI
    simp_all [hasD]
  rw [hba]
  simp only [Bool.true_and]
  cases k2 : regOk p i.a true with
  | false => simp -implicitDefEqProofs [hb, hb2, hb3, x0, hfl, hf, g0, g1, g2, g3, g4, g5, g6, g7, g8, g9, abin_eql, x4, x5, x6, x7, x8, x9, x10, hl9, abin_neq, abin_gtr, f0, f1, f2, f3, f4, f5, f6, f7, f8, f9, hc, x1, x2, x3, hr, abin_lss, abin_geq, z5, z6, z7, z8, z9, k1, k2]
  | true =>
  cases k3 : regOk p i.b false with
  | false => simp -implicitDefEqProofs [hb, hb2, hb3, x0, hfl, hf, g0, g1, g2, g3, g4, g5, g6, g7, g8, g9, abin_eql, x4, x5, x6, x7, x8, x9, x10, hl9, abin_neq, abin_gtr, f0, f1, f2, f3, f4, f5, f6, f7, f8, f9, hc, x1, x2, x3, hr, abin_lss, abin_geq, z5, z6, z7, z8, z9, k1, k2, k3]
  | true =>
  by_cases c1 : i.fn < 17
  · have c1' : ¬ 17 ≤ i.fn := by omega
    simp -implicitDefEqProofs [hb, hb2, hb3, x0, hfl, hf, g0, g1, g2, g3, g4, g5, g6, g7, g8, g9, abin_eql, x4, x5, x6, x7, x8, x9, x10, hl9, abin_neq, abin_gtr, f0, f1, f2, f3, f4, f5, f6, f7, f8, f9, hc, x1, x2, x3, hr, abin_lss, abin_geq, z5, z6, z7, z8, z9, k1, k2, k3, restOk, offOk, hop, c1, c1']
  have c1' : 17 ≤ i.fn := by omega
  by_cases c2 : 19 < i.fn
  · have c2' : ¬ i.fn ≤ 19 := by omega
    simp -implicitDefEqProofs [hb, hb2, hb3, x0, hfl, hf, g0, g1, g2, g3, g4, g5, g6, g7, g8, g9, abin_eql, x4, x5, x6, x7, x8, x9, x10, hl9, abin_neq, abin_gtr, f0, f1, f2, f3, f4, f5, f6, f7, f8, f9, hc, x1, x2, x3, hr, abin_lss, abin_geq, z5, z6, z7, z8, z9, k1, k2, k3, restOk, offOk, hop, c1, c1', c2, c2']
  have c2' : i.fn ≤ 19 := by omega
  simp -implicitDefEqProofs [hb, hb2, hb3, x0, hfl, hf, g0, g1, g2, g3, g4, g5, g6, g7, g8, g9, abin_eql, x4, x5, x6, x7, x8, x9, x10, hl9, abin_neq, abin_gtr, f0, f1, f2, f3, f4, f5, f6, f7, f8, f9, hc, x1, x2, x3, hr, abin_lss, abin_geq, z5, z6, z7, z8, z9, k1, k2, k3, restOk, offOk, hop, c1, c1', c2, c2']
end
section
variable {d lim : Nat} {H : Heap}
set_option maxHeartbeats 4000000 in
/-- Operation 5: registers and the rest. -/
theorem good67_5 {m : Mdl} {p : Prc} {i : Ins} (r0 : 0 ≤ p.regs) (r1 : p.regs ≤ 8000) (hop : i.op = 5) (hz : refBare i = true) : evCall Tryd.prog C (d + 2) lim 28 [.agg ((mD m).map .d), .agg ((pD p).map .d), .agg ((iD i).map .d)] H = some (vb (insOk m p i), H) := by
  rw [evCall_pureEq (fi := fi28) rfl rfl (b28 _ _ _ _ _ _), up_data, up_data, up_data]
  unfold s28
  have hb := bx_data (r := mD m) (A := []) (H := H)
  have hb2 := bx_data (r := pD p) (A := [some ((mD m).map .d)]) (H := H)
  have hb3 := bx_data (r := iD i) (A := [some ((mD m).map .d), some ((pD p).map .d)]) (H := H)
  have hfl := fun H => fields77 (d := d) (lim := 1) (H := H) (op := i.op)
  have hc := cut_data (r := pD p) (n := 6) rfl
  have hr := fun (r : Int) (t : Bool) (H : Heap) => reg76 (d := d) (lim := 1) (H := H) (p := p) (r := r) (t := t) r0 r1
  have m0 : (mD m)[0]? = some (seqD m.gnl m.globs sD) := rfl
  have p4 : (pD p)[4]? = some (seqD p.onl p.objs sD) := rfl
  have hl0 := seq_len m.gnl m.globs sD
  have hl4 := seq_len p.onl p.objs sD
  have x0 : (iD i)[0]? = some (.int .i64 i.op) := rfl
  have x1 : (iD i)[1]? = some (.int .i64 i.d) := rfl
  have x2 : (iD i)[2]? = some (.int .i64 i.a) := rfl
  have x3 : (iD i)[3]? = some (.int .i64 i.b) := rfl
  have x4 : (iD i)[4]? = some (.int .i64 i.fn) := rfl
  have x5 : (iD i)[5]? = some (.int .i64 i.obj) := rfl
  have x6 : (iD i)[6]? = some (.int .i64 i.off) := rfl
  have x7 : (iD i)[7]? = some (.int .i64 i.size) := rfl
  have x8 : (iD i)[8]? = some (.int .u32 i.num) := rfl
  have x9 : (iD i)[9]? = some (seqD i.anl i.args nD) := rfl
  have x10 : (iD i)[10]? = some (.bool i.log) := rfl
  have hl9 := seq_len i.anl i.args nD
  generalize mD m = M at *
  generalize pD p = P at *
  generalize iD i = I at *
  have hi : insOk m p i = (bareI i && (regOk p i.d (outD i.op) && regOk p i.a (hasA i.op) && regOk p i.b (hasB i.op) && restOk m p i)) := by
    unfold insOk
    simp [hop]
  rw [hi]
  have hz0 := hz
  simp [refBare, bareI, plainI, hop, hasD] at hz
  rw [hop] at x0 hfl
  have hf : flV 5 = .d (.seq false 10 [.bool true, .bool true, .bool false, .bool false, .bool false, .bool true, .bool true, .bool false, .bool false, .bool true]) := rfl
  obtain ⟨g0, g1, g2, g3, g4, g5, g6, g7, g8, g9⟩ := fix_at [.bool true, .bool true, .bool false, .bool false, .bool false, .bool true, .bool true, .bool false, .bool false, .bool true]
  generalize hfs : ([.bool true, .bool true, .bool false, .bool false, .bool false, .bool true, .bool true, .bool false, .bool false, .bool true] : List D) = fs at *
  have f0 : fs[0]? = some (.bool true) := by rw [← hfs]; rfl
  have f1 : fs[1]? = some (.bool true) := by rw [← hfs]; rfl
  have f2 : fs[2]? = some (.bool false) := by rw [← hfs]; rfl
  have f3 : fs[3]? = some (.bool false) := by rw [← hfs]; rfl
  have f4 : fs[4]? = some (.bool false) := by rw [← hfs]; rfl
  have f5 : fs[5]? = some (.bool true) := by rw [← hfs]; rfl
  have f6 : fs[6]? = some (.bool true) := by rw [← hfs]; rfl
  have f7 : fs[7]? = some (.bool false) := by rw [← hfs]; rfl
  have f8 : fs[8]? = some (.bool false) := by rw [← hfs]; rfl
  have f9 : fs[9]? = some (.bool true) := by rw [← hfs]; rfl
  clear hfs
  have z4 : i.fn = 0 := by simp_all
  have z5 : i.obj = 0 := by simp_all
  have z8 : i.num = 0 := by simp_all
  have z9 : i.args.length = 0 := by simp_all
  have o1 : outD i.op = true := by rw [hop]; rfl
  have o2 : hasA i.op = true := by rw [hop]; rfl
  have o3 : hasB i.op = false := by rw [hop]; rfl
  rw [o1, o2, o3]
  cases k1 : regOk p i.d true with
  | false => simp -implicitDefEqProofs [hb, hb2, hb3, x0, hfl, hf, g0, g1, g2, g3, g4, g5, g6, g7, g8, g9, abin_eql, x4, x5, x6, x7, x8, x9, x10, hl9, abin_neq, abin_gtr, f0, f1, f2, f3, f4, f5, f6, f7, f8, f9, hc, x1, x2, x3, hr, abin_lss, abin_geq, z4, z5, z8, z9, k1]
  | true =>
  have hd : i.d ≠ -1 := fun e => by rw [e, regOk_neg] at k1; cases k1
  have hba : bareI i = true := by
    unfold refBare bareI plainI at hz0
    unfold bareI plainI
    simp_all [hasD]
  rw [hba]
  simp only [Bool.true_and]
  cases k2 : regOk p i.a true with
  | false => simp -implicitDefEqProofs [hb, hb2, hb3, x0, hfl, hf, g0, g1, g2, g3, g4, g5, g6, g7, g8, g9, abin_eql, x4, x5, x6, x7, x8, x9, x10, hl9, abin_neq, abin_gtr, f0, f1, f2, f3, f4, f5, f6, f7, f8, f9, hc, x1, x2, x3, hr, abin_lss, abin_geq, z4, z5, z8, z9, k1, k2]
  | true =>
  cases k3 : regOk p i.b false with
  | false => simp -implicitDefEqProofs [hb, hb2, hb3, x0, hfl, hf, g0, g1, g2, g3, g4, g5, g6, g7, g8, g9, abin_eql, x4, x5, x6, x7, x8, x9, x10, hl9, abin_neq, abin_gtr, f0, f1, f2, f3, f4, f5, f6, f7, f8, f9, hc, x1, x2, x3, hr, abin_lss, abin_geq, z4, z5, z8, z9, k1, k2, k3]
  | true =>
  by_cases s1 : i.size = 1
  · skip
    by_cases c1 : i.off < -32768
    · have c1' : ¬ -32768 ≤ i.off := by omega
      simp -implicitDefEqProofs [hb, hb2, hb3, x0, hfl, hf, g0, g1, g2, g3, g4, g5, g6, g7, g8, g9, abin_eql, x4, x5, x6, x7, x8, x9, x10, hl9, abin_neq, abin_gtr, f0, f1, f2, f3, f4, f5, f6, f7, f8, f9, hc, x1, x2, x3, hr, abin_lss, abin_geq, z4, z5, z8, z9, k1, k2, k3, restOk, offOk, hop, s1, c1, c1']
    have c1' : -32768 ≤ i.off := by omega
    by_cases c2 : 32768 < i.off
    · have c2' : ¬ i.off ≤ 32768 := by omega
      simp -implicitDefEqProofs [hb, hb2, hb3, x0, hfl, hf, g0, g1, g2, g3, g4, g5, g6, g7, g8, g9, abin_eql, x4, x5, x6, x7, x8, x9, x10, hl9, abin_neq, abin_gtr, f0, f1, f2, f3, f4, f5, f6, f7, f8, f9, hc, x1, x2, x3, hr, abin_lss, abin_geq, z4, z5, z8, z9, k1, k2, k3, restOk, offOk, hop, s1, c1, c1', c2, c2']
    have c2' : i.off ≤ 32768 := by omega
    simp -implicitDefEqProofs [hb, hb2, hb3, x0, hfl, hf, g0, g1, g2, g3, g4, g5, g6, g7, g8, g9, abin_eql, x4, x5, x6, x7, x8, x9, x10, hl9, abin_neq, abin_gtr, f0, f1, f2, f3, f4, f5, f6, f7, f8, f9, hc, x1, x2, x3, hr, abin_lss, abin_geq, z4, z5, z8, z9, k1, k2, k3, restOk, offOk, hop, s1, c1, c1', c2, c2']
  by_cases s4 : i.size = 4
  · skip
    by_cases c1 : i.off < -32768
    · have c1' : ¬ -32768 ≤ i.off := by omega
      simp -implicitDefEqProofs [hb, hb2, hb3, x0, hfl, hf, g0, g1, g2, g3, g4, g5, g6, g7, g8, g9, abin_eql, x4, x5, x6, x7, x8, x9, x10, hl9, abin_neq, abin_gtr, f0, f1, f2, f3, f4, f5, f6, f7, f8, f9, hc, x1, x2, x3, hr, abin_lss, abin_geq, z4, z5, z8, z9, k1, k2, k3, restOk, offOk, hop, s4, c1, c1']
    have c1' : -32768 ≤ i.off := by omega
    by_cases c2 : 32768 < i.off
    · have c2' : ¬ i.off ≤ 32768 := by omega
      simp -implicitDefEqProofs [hb, hb2, hb3, x0, hfl, hf, g0, g1, g2, g3, g4, g5, g6, g7, g8, g9, abin_eql, x4, x5, x6, x7, x8, x9, x10, hl9, abin_neq, abin_gtr, f0, f1, f2, f3, f4, f5, f6, f7, f8, f9, hc, x1, x2, x3, hr, abin_lss, abin_geq, z4, z5, z8, z9, k1, k2, k3, restOk, offOk, hop, s4, c1, c1', c2, c2']
    have c2' : i.off ≤ 32768 := by omega
    simp -implicitDefEqProofs [hb, hb2, hb3, x0, hfl, hf, g0, g1, g2, g3, g4, g5, g6, g7, g8, g9, abin_eql, x4, x5, x6, x7, x8, x9, x10, hl9, abin_neq, abin_gtr, f0, f1, f2, f3, f4, f5, f6, f7, f8, f9, hc, x1, x2, x3, hr, abin_lss, abin_geq, z4, z5, z8, z9, k1, k2, k3, restOk, offOk, hop, s4, c1, c1', c2, c2']
  simp -implicitDefEqProofs [hb, hb2, hb3, x0, hfl, hf, g0, g1, g2, g3, g4, g5, g6, g7, g8, g9, abin_eql, x4, x5, x6, x7, x8, x9, x10, hl9, abin_neq, abin_gtr, f0, f1, f2, f3, f4, f5, f6, f7, f8, f9, hc, x1, x2, x3, hr, abin_lss, abin_geq, z4, z5, z8, z9, k1, k2, k3, restOk, offOk, hop, s1, s4]
end
section
variable {d lim : Nat} {H : Heap}
set_option maxHeartbeats 4000000 in
/-- Operation 6: registers and the rest. -/
theorem good67_6 {m : Mdl} {p : Prc} {i : Ins} (r0 : 0 ≤ p.regs) (r1 : p.regs ≤ 8000) (hop : i.op = 6) (hz : refBare i = true) : evCall Tryd.prog C (d + 2) lim 28 [.agg ((mD m).map .d), .agg ((pD p).map .d), .agg ((iD i).map .d)] H = some (vb (insOk m p i), H) := by
  rw [evCall_pureEq (fi := fi28) rfl rfl (b28 _ _ _ _ _ _), up_data, up_data, up_data]
  unfold s28
  have hb := bx_data (r := mD m) (A := []) (H := H)
  have hb2 := bx_data (r := pD p) (A := [some ((mD m).map .d)]) (H := H)
  have hb3 := bx_data (r := iD i) (A := [some ((mD m).map .d), some ((pD p).map .d)]) (H := H)
  have hfl := fun H => fields77 (d := d) (lim := 1) (H := H) (op := i.op)
  have hc := cut_data (r := pD p) (n := 6) rfl
  have hr := fun (r : Int) (t : Bool) (H : Heap) => reg76 (d := d) (lim := 1) (H := H) (p := p) (r := r) (t := t) r0 r1
  have m0 : (mD m)[0]? = some (seqD m.gnl m.globs sD) := rfl
  have p4 : (pD p)[4]? = some (seqD p.onl p.objs sD) := rfl
  have hl0 := seq_len m.gnl m.globs sD
  have hl4 := seq_len p.onl p.objs sD
  have x0 : (iD i)[0]? = some (.int .i64 i.op) := rfl
  have x1 : (iD i)[1]? = some (.int .i64 i.d) := rfl
  have x2 : (iD i)[2]? = some (.int .i64 i.a) := rfl
  have x3 : (iD i)[3]? = some (.int .i64 i.b) := rfl
  have x4 : (iD i)[4]? = some (.int .i64 i.fn) := rfl
  have x5 : (iD i)[5]? = some (.int .i64 i.obj) := rfl
  have x6 : (iD i)[6]? = some (.int .i64 i.off) := rfl
  have x7 : (iD i)[7]? = some (.int .i64 i.size) := rfl
  have x8 : (iD i)[8]? = some (.int .u32 i.num) := rfl
  have x9 : (iD i)[9]? = some (seqD i.anl i.args nD) := rfl
  have x10 : (iD i)[10]? = some (.bool i.log) := rfl
  have hl9 := seq_len i.anl i.args nD
  generalize mD m = M at *
  generalize pD p = P at *
  generalize iD i = I at *
  have hi : insOk m p i = (bareI i && (regOk p i.d (outD i.op) && regOk p i.a (hasA i.op) && regOk p i.b (hasB i.op) && restOk m p i)) := by
    unfold insOk
    simp [hop]
  rw [hi]
  have hz0 := hz
  simp [refBare, bareI, plainI, hop, hasD] at hz
  rw [hop] at x0 hfl
  have hf : flV 6 = .d (.seq false 10 [.bool false, .bool true, .bool true, .bool false, .bool false, .bool true, .bool true, .bool false, .bool false, .bool true]) := rfl
  obtain ⟨g0, g1, g2, g3, g4, g5, g6, g7, g8, g9⟩ := fix_at [.bool false, .bool true, .bool true, .bool false, .bool false, .bool true, .bool true, .bool false, .bool false, .bool true]
  generalize hfs : ([.bool false, .bool true, .bool true, .bool false, .bool false, .bool true, .bool true, .bool false, .bool false, .bool true] : List D) = fs at *
  have f0 : fs[0]? = some (.bool false) := by rw [← hfs]; rfl
  have f1 : fs[1]? = some (.bool true) := by rw [← hfs]; rfl
  have f2 : fs[2]? = some (.bool true) := by rw [← hfs]; rfl
  have f3 : fs[3]? = some (.bool false) := by rw [← hfs]; rfl
  have f4 : fs[4]? = some (.bool false) := by rw [← hfs]; rfl
  have f5 : fs[5]? = some (.bool true) := by rw [← hfs]; rfl
  have f6 : fs[6]? = some (.bool true) := by rw [← hfs]; rfl
  have f7 : fs[7]? = some (.bool false) := by rw [← hfs]; rfl
  have f8 : fs[8]? = some (.bool false) := by rw [← hfs]; rfl
  have f9 : fs[9]? = some (.bool true) := by rw [← hfs]; rfl
  clear hfs
  have z4 : i.fn = 0 := by simp_all
  have z5 : i.obj = 0 := by simp_all
  have z8 : i.num = 0 := by simp_all
  have z9 : i.args.length = 0 := by simp_all
  have o1 : outD i.op = false := by rw [hop]; rfl
  have o2 : hasA i.op = true := by rw [hop]; rfl
  have o3 : hasB i.op = true := by rw [hop]; rfl
  rw [o1, o2, o3]
  cases k1 : regOk p i.d false with
  | false => simp -implicitDefEqProofs [hb, hb2, hb3, x0, hfl, hf, g0, g1, g2, g3, g4, g5, g6, g7, g8, g9, abin_eql, x4, x5, x6, x7, x8, x9, x10, hl9, abin_neq, abin_gtr, f0, f1, f2, f3, f4, f5, f6, f7, f8, f9, hc, x1, x2, x3, hr, abin_lss, abin_geq, z4, z5, z8, z9, k1]
  | true =>
  have hba : bareI i = true := by
    unfold refBare bareI plainI at hz0
    unfold bareI plainI
    simp_all [hasD]
  rw [hba]
  simp only [Bool.true_and]
  cases k2 : regOk p i.a true with
  | false => simp -implicitDefEqProofs [hb, hb2, hb3, x0, hfl, hf, g0, g1, g2, g3, g4, g5, g6, g7, g8, g9, abin_eql, x4, x5, x6, x7, x8, x9, x10, hl9, abin_neq, abin_gtr, f0, f1, f2, f3, f4, f5, f6, f7, f8, f9, hc, x1, x2, x3, hr, abin_lss, abin_geq, z4, z5, z8, z9, k1, k2]
  | true =>
  cases k3 : regOk p i.b true with
  | false => simp -implicitDefEqProofs [hb, hb2, hb3, x0, hfl, hf, g0, g1, g2, g3, g4, g5, g6, g7, g8, g9, abin_eql, x4, x5, x6, x7, x8, x9, x10, hl9, abin_neq, abin_gtr, f0, f1, f2, f3, f4, f5, f6, f7, f8, f9, hc, x1, x2, x3, hr, abin_lss, abin_geq, z4, z5, z8, z9, k1, k2, k3]
  | true =>
  by_cases s1 : i.size = 1
  · skip
    by_cases c1 : i.off < -32768
    · have c1' : ¬ -32768 ≤ i.off := by omega
      simp -implicitDefEqProofs [hb, hb2, hb3, x0, hfl, hf, g0, g1, g2, g3, g4, g5, g6, g7, g8, g9, abin_eql, x4, x5, x6, x7, x8, x9, x10, hl9, abin_neq, abin_gtr, f0, f1, f2, f3, f4, f5, f6, f7, f8, f9, hc, x1, x2, x3, hr, abin_lss, abin_geq, z4, z5, z8, z9, k1, k2, k3, restOk, offOk, hop, s1, c1, c1']
    have c1' : -32768 ≤ i.off := by omega
    by_cases c2 : 32768 < i.off
    · have c2' : ¬ i.off ≤ 32768 := by omega
      simp -implicitDefEqProofs [hb, hb2, hb3, x0, hfl, hf, g0, g1, g2, g3, g4, g5, g6, g7, g8, g9, abin_eql, x4, x5, x6, x7, x8, x9, x10, hl9, abin_neq, abin_gtr, f0, f1, f2, f3, f4, f5, f6, f7, f8, f9, hc, x1, x2, x3, hr, abin_lss, abin_geq, z4, z5, z8, z9, k1, k2, k3, restOk, offOk, hop, s1, c1, c1', c2, c2']
    have c2' : i.off ≤ 32768 := by omega
    simp -implicitDefEqProofs [hb, hb2, hb3, x0, hfl, hf, g0, g1, g2, g3, g4, g5, g6, g7, g8, g9, abin_eql, x4, x5, x6, x7, x8, x9, x10, hl9, abin_neq, abin_gtr, f0, f1, f2, f3, f4, f5, f6, f7, f8, f9, hc, x1, x2, x3, hr, abin_lss, abin_geq, z4, z5, z8, z9, k1, k2, k3, restOk, offOk, hop, s1, c1, c1', c2, c2']
  by_cases s4 : i.size = 4
  · skip
    by_cases c1 : i.off < -32768
    · have c1' : ¬ -32768 ≤ i.off := by omega
      simp -implicitDefEqProofs [hb, hb2, hb3, x0, hfl, hf, g0, g1, g2, g3, g4, g5, g6, g7, g8, g9, abin_eql, x4, x5, x6, x7, x8, x9, x10, hl9, abin_neq, abin_gtr, f0, f1, f2, f3, f4, f5, f6, f7, f8, f9, hc, x1, x2, x3, hr, abin_lss, abin_geq, z4, z5, z8, z9, k1, k2, k3, restOk, offOk, hop, s4, c1, c1']
    have c1' : -32768 ≤ i.off := by omega
    by_cases c2 : 32768 < i.off
    · have c2' : ¬ i.off ≤ 32768 := by omega
      simp -implicitDefEqProofs [hb, hb2, hb3, x0, hfl, hf, g0, g1, g2, g3, g4, g5, g6, g7, g8, g9, abin_eql, x4, x5, x6, x7, x8, x9, x10, hl9, abin_neq, abin_gtr, f0, f1, f2, f3, f4, f5, f6, f7, f8, f9, hc, x1, x2, x3, hr, abin_lss, abin_geq, z4, z5, z8, z9, k1, k2, k3, restOk, offOk, hop, s4, c1, c1', c2, c2']
    have c2' : i.off ≤ 32768 := by omega
    simp -implicitDefEqProofs [hb, hb2, hb3, x0, hfl, hf, g0, g1, g2, g3, g4, g5, g6, g7, g8, g9, abin_eql, x4, x5, x6, x7, x8, x9, x10, hl9, abin_neq, abin_gtr, f0, f1, f2, f3, f4, f5, f6, f7, f8, f9, hc, x1, x2, x3, hr, abin_lss, abin_geq, z4, z5, z8, z9, k1, k2, k3, restOk, offOk, hop, s4, c1, c1', c2, c2']
  simp -implicitDefEqProofs [hb, hb2, hb3, x0, hfl, hf, g0, g1, g2, g3, g4, g5, g6, g7, g8, g9, abin_eql, x4, x5, x6, x7, x8, x9, x10, hl9, abin_neq, abin_gtr, f0, f1, f2, f3, f4, f5, f6, f7, f8, f9, hc, x1, x2, x3, hr, abin_lss, abin_geq, z4, z5, z8, z9, k1, k2, k3, restOk, offOk, hop, s1, s4]
end
section
variable {d lim : Nat} {H : Heap}
set_option maxHeartbeats 4000000 in
/-- Operation 7: registers and the rest. -/
theorem good67_7 {m : Mdl} {p : Prc} {i : Ins} (r0 : 0 ≤ p.regs) (r1 : p.regs ≤ 8000) (hop : i.op = 7) (hz : refBare i = true) : evCall Tryd.prog C (d + 2) lim 28 [.agg ((mD m).map .d), .agg ((pD p).map .d), .agg ((iD i).map .d)] H = some (vb (insOk m p i), H) := by
  rw [evCall_pureEq (fi := fi28) rfl rfl (b28 _ _ _ _ _ _), up_data, up_data, up_data]
  unfold s28
  have hb := bx_data (r := mD m) (A := []) (H := H)
  have hb2 := bx_data (r := pD p) (A := [some ((mD m).map .d)]) (H := H)
  have hb3 := bx_data (r := iD i) (A := [some ((mD m).map .d), some ((pD p).map .d)]) (H := H)
  have hfl := fun H => fields77 (d := d) (lim := 1) (H := H) (op := i.op)
  have hc := cut_data (r := pD p) (n := 6) rfl
  have hr := fun (r : Int) (t : Bool) (H : Heap) => reg76 (d := d) (lim := 1) (H := H) (p := p) (r := r) (t := t) r0 r1
  have m0 : (mD m)[0]? = some (seqD m.gnl m.globs sD) := rfl
  have p4 : (pD p)[4]? = some (seqD p.onl p.objs sD) := rfl
  have hl0 := seq_len m.gnl m.globs sD
  have hl4 := seq_len p.onl p.objs sD
  have x0 : (iD i)[0]? = some (.int .i64 i.op) := rfl
  have x1 : (iD i)[1]? = some (.int .i64 i.d) := rfl
  have x2 : (iD i)[2]? = some (.int .i64 i.a) := rfl
  have x3 : (iD i)[3]? = some (.int .i64 i.b) := rfl
  have x4 : (iD i)[4]? = some (.int .i64 i.fn) := rfl
  have x5 : (iD i)[5]? = some (.int .i64 i.obj) := rfl
  have x6 : (iD i)[6]? = some (.int .i64 i.off) := rfl
  have x7 : (iD i)[7]? = some (.int .i64 i.size) := rfl
  have x8 : (iD i)[8]? = some (.int .u32 i.num) := rfl
  have x9 : (iD i)[9]? = some (seqD i.anl i.args nD) := rfl
  have x10 : (iD i)[10]? = some (.bool i.log) := rfl
  have hl9 := seq_len i.anl i.args nD
  generalize mD m = M at *
  generalize pD p = P at *
  generalize iD i = I at *
  have hi : insOk m p i = (bareI i && (regOk p i.d (outD i.op) && regOk p i.a (hasA i.op) && regOk p i.b (hasB i.op) && restOk m p i)) := by
    unfold insOk
    simp [hop]
  rw [hi]
  have hz0 := hz
  simp [refBare, bareI, plainI, hop, hasD] at hz
  rw [hop] at x0 hfl
  have hf : flV 7 = .d (.seq false 10 [.bool true, .bool false, .bool false, .bool false, .bool true, .bool true, .bool false, .bool false, .bool false, .bool true]) := rfl
  obtain ⟨g0, g1, g2, g3, g4, g5, g6, g7, g8, g9⟩ := fix_at [.bool true, .bool false, .bool false, .bool false, .bool true, .bool true, .bool false, .bool false, .bool false, .bool true]
  generalize hfs : ([.bool true, .bool false, .bool false, .bool false, .bool true, .bool true, .bool false, .bool false, .bool false, .bool true] : List D) = fs at *
  have f0 : fs[0]? = some (.bool true) := by rw [← hfs]; rfl
  have f1 : fs[1]? = some (.bool false) := by rw [← hfs]; rfl
  have f2 : fs[2]? = some (.bool false) := by rw [← hfs]; rfl
  have f3 : fs[3]? = some (.bool false) := by rw [← hfs]; rfl
  have f4 : fs[4]? = some (.bool true) := by rw [← hfs]; rfl
  have f5 : fs[5]? = some (.bool true) := by rw [← hfs]; rfl
  have f6 : fs[6]? = some (.bool false) := by rw [← hfs]; rfl
  have f7 : fs[7]? = some (.bool false) := by rw [← hfs]; rfl
  have f8 : fs[8]? = some (.bool false) := by rw [← hfs]; rfl
  have f9 : fs[9]? = some (.bool true) := by rw [← hfs]; rfl
  clear hfs
  have z4 : i.fn = 0 := by simp_all
  have z7 : i.size = 0 := by simp_all
  have z8 : i.num = 0 := by simp_all
  have z9 : i.args.length = 0 := by simp_all
  have o1 : outD i.op = true := by rw [hop]; rfl
  have o2 : hasA i.op = false := by rw [hop]; rfl
  have o3 : hasB i.op = false := by rw [hop]; rfl
  rw [o1, o2, o3]
  cases k1 : regOk p i.d true with
  | false => simp -implicitDefEqProofs [hb, hb2, hb3, x0, hfl, hf, g0, g1, g2, g3, g4, g5, g6, g7, g8, g9, abin_eql, x4, x5, x6, x7, x8, x9, x10, hl9, abin_neq, abin_gtr, f0, f1, f2, f3, f4, f5, f6, f7, f8, f9, hc, x1, x2, x3, hr, abin_lss, abin_geq, z4, z7, z8, z9, k1]
  | true =>
  have hd : i.d ≠ -1 := fun e => by rw [e, regOk_neg] at k1; cases k1
  have hba : bareI i = true := by
    unfold refBare bareI plainI at hz0
    unfold bareI plainI
    simp_all [hasD]
  rw [hba]
  simp only [Bool.true_and]
  cases k2 : regOk p i.a false with
  | false => simp -implicitDefEqProofs [hb, hb2, hb3, x0, hfl, hf, g0, g1, g2, g3, g4, g5, g6, g7, g8, g9, abin_eql, x4, x5, x6, x7, x8, x9, x10, hl9, abin_neq, abin_gtr, f0, f1, f2, f3, f4, f5, f6, f7, f8, f9, hc, x1, x2, x3, hr, abin_lss, abin_geq, z4, z7, z8, z9, k1, k2]
  | true =>
  cases k3 : regOk p i.b false with
  | false => simp -implicitDefEqProofs [hb, hb2, hb3, x0, hfl, hf, g0, g1, g2, g3, g4, g5, g6, g7, g8, g9, abin_eql, x4, x5, x6, x7, x8, x9, x10, hl9, abin_neq, abin_gtr, f0, f1, f2, f3, f4, f5, f6, f7, f8, f9, hc, x1, x2, x3, hr, abin_lss, abin_geq, z4, z7, z8, z9, k1, k2, k3]
  | true =>
  by_cases c1 : i.off < -32768
  · have c1' : ¬ -32768 ≤ i.off := by omega
    simp -implicitDefEqProofs [hb, hb2, hb3, x0, hfl, hf, g0, g1, g2, g3, g4, g5, g6, g7, g8, g9, abin_eql, x4, x5, x6, x7, x8, x9, x10, hl9, abin_neq, abin_gtr, f0, f1, f2, f3, f4, f5, f6, f7, f8, f9, hc, x1, x2, x3, hr, abin_lss, abin_geq, z4, z7, z8, z9, k1, k2, k3, restOk, offOk, hop, c1, c1']
  have c1' : -32768 ≤ i.off := by omega
  by_cases c2 : 32768 < i.off
  · have c2' : ¬ i.off ≤ 32768 := by omega
    simp -implicitDefEqProofs [hb, hb2, hb3, x0, hfl, hf, g0, g1, g2, g3, g4, g5, g6, g7, g8, g9, abin_eql, x4, x5, x6, x7, x8, x9, x10, hl9, abin_neq, abin_gtr, f0, f1, f2, f3, f4, f5, f6, f7, f8, f9, hc, x1, x2, x3, hr, abin_lss, abin_geq, z4, z7, z8, z9, k1, k2, k3, restOk, offOk, hop, c1, c1', c2, c2']
  have c2' : i.off ≤ 32768 := by omega
  by_cases y0 : 0 ≤ i.obj
  · by_cases y1 : i.obj < p.objs.length
    · simp -implicitDefEqProofs [hb, hb2, hb3, x0, hfl, hf, g0, g1, g2, g3, g4, g5, g6, g7, g8, g9, abin_eql, x4, x5, x6, x7, x8, x9, x10, hl9, abin_neq, abin_gtr, f0, f1, f2, f3, f4, f5, f6, f7, f8, f9, hc, x1, x2, x3, hr, abin_lss, abin_geq, z4, z7, z8, z9, k1, k2, k3, restOk, offOk, hop, c1, c1', c2, c2', y0, y1, p4, hl4]
    · simp -implicitDefEqProofs [hb, hb2, hb3, x0, hfl, hf, g0, g1, g2, g3, g4, g5, g6, g7, g8, g9, abin_eql, x4, x5, x6, x7, x8, x9, x10, hl9, abin_neq, abin_gtr, f0, f1, f2, f3, f4, f5, f6, f7, f8, f9, hc, x1, x2, x3, hr, abin_lss, abin_geq, z4, z7, z8, z9, k1, k2, k3, restOk, offOk, hop, c1, c1', c2, c2', y0, y1, p4, hl4]
  simp -implicitDefEqProofs [hb, hb2, hb3, x0, hfl, hf, g0, g1, g2, g3, g4, g5, g6, g7, g8, g9, abin_eql, x4, x5, x6, x7, x8, x9, x10, hl9, abin_neq, abin_gtr, f0, f1, f2, f3, f4, f5, f6, f7, f8, f9, hc, x1, x2, x3, hr, abin_lss, abin_geq, z4, z7, z8, z9, k1, k2, k3, restOk, offOk, hop, c1, c1', c2, c2', y0, p4, hl4]
end
section
variable {d lim : Nat} {H : Heap}
set_option maxHeartbeats 4000000 in
/-- Operation 8: registers and the rest. -/
theorem good67_8 {m : Mdl} {p : Prc} {i : Ins} (r0 : 0 ≤ p.regs) (r1 : p.regs ≤ 8000) (hop : i.op = 8) (hz : refBare i = true) : evCall Tryd.prog C (d + 2) lim 28 [.agg ((mD m).map .d), .agg ((pD p).map .d), .agg ((iD i).map .d)] H = some (vb (insOk m p i), H) := by
  rw [evCall_pureEq (fi := fi28) rfl rfl (b28 _ _ _ _ _ _), up_data, up_data, up_data]
  unfold s28
  have hb := bx_data (r := mD m) (A := []) (H := H)
  have hb2 := bx_data (r := pD p) (A := [some ((mD m).map .d)]) (H := H)
  have hb3 := bx_data (r := iD i) (A := [some ((mD m).map .d), some ((pD p).map .d)]) (H := H)
  have hfl := fun H => fields77 (d := d) (lim := 1) (H := H) (op := i.op)
  have hc := cut_data (r := pD p) (n := 6) rfl
  have hr := fun (r : Int) (t : Bool) (H : Heap) => reg76 (d := d) (lim := 1) (H := H) (p := p) (r := r) (t := t) r0 r1
  have m0 : (mD m)[0]? = some (seqD m.gnl m.globs sD) := rfl
  have p4 : (pD p)[4]? = some (seqD p.onl p.objs sD) := rfl
  have hl0 := seq_len m.gnl m.globs sD
  have hl4 := seq_len p.onl p.objs sD
  have x0 : (iD i)[0]? = some (.int .i64 i.op) := rfl
  have x1 : (iD i)[1]? = some (.int .i64 i.d) := rfl
  have x2 : (iD i)[2]? = some (.int .i64 i.a) := rfl
  have x3 : (iD i)[3]? = some (.int .i64 i.b) := rfl
  have x4 : (iD i)[4]? = some (.int .i64 i.fn) := rfl
  have x5 : (iD i)[5]? = some (.int .i64 i.obj) := rfl
  have x6 : (iD i)[6]? = some (.int .i64 i.off) := rfl
  have x7 : (iD i)[7]? = some (.int .i64 i.size) := rfl
  have x8 : (iD i)[8]? = some (.int .u32 i.num) := rfl
  have x9 : (iD i)[9]? = some (seqD i.anl i.args nD) := rfl
  have x10 : (iD i)[10]? = some (.bool i.log) := rfl
  have hl9 := seq_len i.anl i.args nD
  generalize mD m = M at *
  generalize pD p = P at *
  generalize iD i = I at *
  have hi : insOk m p i = (bareI i && (regOk p i.d (outD i.op) && regOk p i.a (hasA i.op) && regOk p i.b (hasB i.op) && restOk m p i)) := by
    unfold insOk
    simp [hop]
  rw [hi]
  have hz0 := hz
  simp [refBare, bareI, plainI, hop, hasD] at hz
  rw [hop] at x0 hfl
  have hf : flV 8 = .d (.seq false 10 [.bool true, .bool false, .bool false, .bool false, .bool true, .bool true, .bool false, .bool false, .bool false, .bool true]) := rfl
  obtain ⟨g0, g1, g2, g3, g4, g5, g6, g7, g8, g9⟩ := fix_at [.bool true, .bool false, .bool false, .bool false, .bool true, .bool true, .bool false, .bool false, .bool false, .bool true]
  generalize hfs : ([.bool true, .bool false, .bool false, .bool false, .bool true, .bool true, .bool false, .bool false, .bool false, .bool true] : List D) = fs at *
  have f0 : fs[0]? = some (.bool true) := by rw [← hfs]; rfl
  have f1 : fs[1]? = some (.bool false) := by rw [← hfs]; rfl
  have f2 : fs[2]? = some (.bool false) := by rw [← hfs]; rfl
  have f3 : fs[3]? = some (.bool false) := by rw [← hfs]; rfl
  have f4 : fs[4]? = some (.bool true) := by rw [← hfs]; rfl
  have f5 : fs[5]? = some (.bool true) := by rw [← hfs]; rfl
  have f6 : fs[6]? = some (.bool false) := by rw [← hfs]; rfl
  have f7 : fs[7]? = some (.bool false) := by rw [← hfs]; rfl
  have f8 : fs[8]? = some (.bool false) := by rw [← hfs]; rfl
  have f9 : fs[9]? = some (.bool true) := by rw [← hfs]; rfl
  clear hfs
  have z4 : i.fn = 0 := by simp_all
  have z7 : i.size = 0 := by simp_all
  have z8 : i.num = 0 := by simp_all
  have z9 : i.args.length = 0 := by simp_all
  have o1 : outD i.op = true := by rw [hop]; rfl
  have o2 : hasA i.op = false := by rw [hop]; rfl
  have o3 : hasB i.op = false := by rw [hop]; rfl
  rw [o1, o2, o3]
  cases k1 : regOk p i.d true with
  | false => simp -implicitDefEqProofs [hb, hb2, hb3, x0, hfl, hf, g0, g1, g2, g3, g4, g5, g6, g7, g8, g9, abin_eql, x4, x5, x6, x7, x8, x9, x10, hl9, abin_neq, abin_gtr, f0, f1, f2, f3, f4, f5, f6, f7, f8, f9, hc, x1, x2, x3, hr, abin_lss, abin_geq, z4, z7, z8, z9, k1]
  | true =>
  have hd : i.d ≠ -1 := fun e => by rw [e, regOk_neg] at k1; cases k1
  have hba : bareI i = true := by
    unfold refBare bareI plainI at hz0
    unfold bareI plainI
    simp_all [hasD]
  rw [hba]
  simp only [Bool.true_and]
  cases k2 : regOk p i.a false with
  | false => simp -implicitDefEqProofs [hb, hb2, hb3, x0, hfl, hf, g0, g1, g2, g3, g4, g5, g6, g7, g8, g9, abin_eql, x4, x5, x6, x7, x8, x9, x10, hl9, abin_neq, abin_gtr, f0, f1, f2, f3, f4, f5, f6, f7, f8, f9, hc, x1, x2, x3, hr, abin_lss, abin_geq, z4, z7, z8, z9, k1, k2]
  | true =>
  cases k3 : regOk p i.b false with
  | false => simp -implicitDefEqProofs [hb, hb2, hb3, x0, hfl, hf, g0, g1, g2, g3, g4, g5, g6, g7, g8, g9, abin_eql, x4, x5, x6, x7, x8, x9, x10, hl9, abin_neq, abin_gtr, f0, f1, f2, f3, f4, f5, f6, f7, f8, f9, hc, x1, x2, x3, hr, abin_lss, abin_geq, z4, z7, z8, z9, k1, k2, k3]
  | true =>
  by_cases c1 : i.off < -32768
  · have c1' : ¬ -32768 ≤ i.off := by omega
    simp -implicitDefEqProofs [hb, hb2, hb3, x0, hfl, hf, g0, g1, g2, g3, g4, g5, g6, g7, g8, g9, abin_eql, x4, x5, x6, x7, x8, x9, x10, hl9, abin_neq, abin_gtr, f0, f1, f2, f3, f4, f5, f6, f7, f8, f9, hc, x1, x2, x3, hr, abin_lss, abin_geq, z4, z7, z8, z9, k1, k2, k3, restOk, offOk, hop, c1, c1']
  have c1' : -32768 ≤ i.off := by omega
  by_cases c2 : 32768 < i.off
  · have c2' : ¬ i.off ≤ 32768 := by omega
    simp -implicitDefEqProofs [hb, hb2, hb3, x0, hfl, hf, g0, g1, g2, g3, g4, g5, g6, g7, g8, g9, abin_eql, x4, x5, x6, x7, x8, x9, x10, hl9, abin_neq, abin_gtr, f0, f1, f2, f3, f4, f5, f6, f7, f8, f9, hc, x1, x2, x3, hr, abin_lss, abin_geq, z4, z7, z8, z9, k1, k2, k3, restOk, offOk, hop, c1, c1', c2, c2']
  have c2' : i.off ≤ 32768 := by omega
  by_cases y0 : 0 ≤ i.obj
  · by_cases y1 : i.obj < m.globs.length
    · simp -implicitDefEqProofs [hb, hb2, hb3, x0, hfl, hf, g0, g1, g2, g3, g4, g5, g6, g7, g8, g9, abin_eql, x4, x5, x6, x7, x8, x9, x10, hl9, abin_neq, abin_gtr, f0, f1, f2, f3, f4, f5, f6, f7, f8, f9, hc, x1, x2, x3, hr, abin_lss, abin_geq, z4, z7, z8, z9, k1, k2, k3, restOk, offOk, hop, c1, c1', c2, c2', y0, y1, m0, hl0]
    · simp -implicitDefEqProofs [hb, hb2, hb3, x0, hfl, hf, g0, g1, g2, g3, g4, g5, g6, g7, g8, g9, abin_eql, x4, x5, x6, x7, x8, x9, x10, hl9, abin_neq, abin_gtr, f0, f1, f2, f3, f4, f5, f6, f7, f8, f9, hc, x1, x2, x3, hr, abin_lss, abin_geq, z4, z7, z8, z9, k1, k2, k3, restOk, offOk, hop, c1, c1', c2, c2', y0, y1, m0, hl0]
  simp -implicitDefEqProofs [hb, hb2, hb3, x0, hfl, hf, g0, g1, g2, g3, g4, g5, g6, g7, g8, g9, abin_eql, x4, x5, x6, x7, x8, x9, x10, hl9, abin_neq, abin_gtr, f0, f1, f2, f3, f4, f5, f6, f7, f8, f9, hc, x1, x2, x3, hr, abin_lss, abin_geq, z4, z7, z8, z9, k1, k2, k3, restOk, offOk, hop, c1, c1', c2, c2', y0, m0, hl0]
end
section
variable {d lim : Nat} {H : Heap}
set_option maxHeartbeats 4000000 in
/-- Operation 10: registers and the rest. -/
theorem good67_10 {m : Mdl} {p : Prc} {i : Ins} (r0 : 0 ≤ p.regs) (r1 : p.regs ≤ 8000) (hop : i.op = 10) (hz : refBare i = true) : evCall Tryd.prog C (d + 2) lim 28 [.agg ((mD m).map .d), .agg ((pD p).map .d), .agg ((iD i).map .d)] H = some (vb (insOk m p i), H) := by
  rw [evCall_pureEq (fi := fi28) rfl rfl (b28 _ _ _ _ _ _), up_data, up_data, up_data]
  unfold s28
  have hb := bx_data (r := mD m) (A := []) (H := H)
  have hb2 := bx_data (r := pD p) (A := [some ((mD m).map .d)]) (H := H)
  have hb3 := bx_data (r := iD i) (A := [some ((mD m).map .d), some ((pD p).map .d)]) (H := H)
  have hfl := fun H => fields77 (d := d) (lim := 1) (H := H) (op := i.op)
  have hc := cut_data (r := pD p) (n := 6) rfl
  have hr := fun (r : Int) (t : Bool) (H : Heap) => reg76 (d := d) (lim := 1) (H := H) (p := p) (r := r) (t := t) r0 r1
  have m0 : (mD m)[0]? = some (seqD m.gnl m.globs sD) := rfl
  have p4 : (pD p)[4]? = some (seqD p.onl p.objs sD) := rfl
  have hl0 := seq_len m.gnl m.globs sD
  have hl4 := seq_len p.onl p.objs sD
  have x0 : (iD i)[0]? = some (.int .i64 i.op) := rfl
  have x1 : (iD i)[1]? = some (.int .i64 i.d) := rfl
  have x2 : (iD i)[2]? = some (.int .i64 i.a) := rfl
  have x3 : (iD i)[3]? = some (.int .i64 i.b) := rfl
  have x4 : (iD i)[4]? = some (.int .i64 i.fn) := rfl
  have x5 : (iD i)[5]? = some (.int .i64 i.obj) := rfl
  have x6 : (iD i)[6]? = some (.int .i64 i.off) := rfl
  have x7 : (iD i)[7]? = some (.int .i64 i.size) := rfl
  have x8 : (iD i)[8]? = some (.int .u32 i.num) := rfl
  have x9 : (iD i)[9]? = some (seqD i.anl i.args nD) := rfl
  have x10 : (iD i)[10]? = some (.bool i.log) := rfl
  have hl9 := seq_len i.anl i.args nD
  generalize mD m = M at *
  generalize pD p = P at *
  generalize iD i = I at *
  have hi : insOk m p i = (bareI i && (regOk p i.d (outD i.op) && regOk p i.a (hasA i.op) && regOk p i.b (hasB i.op) && restOk m p i)) := by
    unfold insOk
    simp [hop]
  rw [hi]
  have hz0 := hz
  simp [refBare, bareI, plainI, hop, hasD] at hz
  rw [hop] at x0 hfl
  have hf : flV 10 = .d (.seq false 10 [.bool false, .bool true, .bool false, .bool false, .bool false, .bool false, .bool false, .bool false, .bool false, .bool false]) := rfl
  obtain ⟨g0, g1, g2, g3, g4, g5, g6, g7, g8, g9⟩ := fix_at [.bool false, .bool true, .bool false, .bool false, .bool false, .bool false, .bool false, .bool false, .bool false, .bool false]
  generalize hfs : ([.bool false, .bool true, .bool false, .bool false, .bool false, .bool false, .bool false, .bool false, .bool false, .bool false] : List D) = fs at *
  have f0 : fs[0]? = some (.bool false) := by rw [← hfs]; rfl
  have f1 : fs[1]? = some (.bool true) := by rw [← hfs]; rfl
  have f2 : fs[2]? = some (.bool false) := by rw [← hfs]; rfl
  have f3 : fs[3]? = some (.bool false) := by rw [← hfs]; rfl
  have f4 : fs[4]? = some (.bool false) := by rw [← hfs]; rfl
  have f5 : fs[5]? = some (.bool false) := by rw [← hfs]; rfl
  have f6 : fs[6]? = some (.bool false) := by rw [← hfs]; rfl
  have f7 : fs[7]? = some (.bool false) := by rw [← hfs]; rfl
  have f8 : fs[8]? = some (.bool false) := by rw [← hfs]; rfl
  have f9 : fs[9]? = some (.bool false) := by rw [← hfs]; rfl
  clear hfs
  have z4 : i.fn = 0 := by simp_all
  have z5 : i.obj = 0 := by simp_all
  have z6 : i.off = 0 := by simp_all
  have z7 : i.size = 0 := by simp_all
  have z8 : i.num = 0 := by simp_all
  have z9 : i.args.length = 0 := by simp_all
  have z10 : i.log = false := by simp_all
  have o1 : outD i.op = false := by rw [hop]; rfl
  have o2 : hasA i.op = true := by rw [hop]; rfl
  have o3 : hasB i.op = false := by rw [hop]; rfl
  rw [o1, o2, o3]
  cases k1 : regOk p i.d false with
  | false => simp -implicitDefEqProofs [hb, hb2, hb3, x0, hfl, hf, g0, g1, g2, g3, g4, g5, g6, g7, g8, g9, abin_eql, x4, x5, x6, x7, x8, x9, x10, hl9, abin_neq, abin_gtr, f0, f1, f2, f3, f4, f5, f6, f7, f8, f9, hc, x1, x2, x3, hr, abin_lss, abin_geq, z4, z5, z6, z7, z8, z9, z10, k1]
  | true =>
  have hba : bareI i = true := by
    unfold refBare bareI plainI at hz0
    unfold bareI plainI
    simp_all [hasD]
  rw [hba]
  simp only [Bool.true_and]
  cases k2 : regOk p i.a true with
  | false => simp -implicitDefEqProofs [hb, hb2, hb3, x0, hfl, hf, g0, g1, g2, g3, g4, g5, g6, g7, g8, g9, abin_eql, x4, x5, x6, x7, x8, x9, x10, hl9, abin_neq, abin_gtr, f0, f1, f2, f3, f4, f5, f6, f7, f8, f9, hc, x1, x2, x3, hr, abin_lss, abin_geq, z4, z5, z6, z7, z8, z9, z10, k1, k2]
  | true =>
  cases k3 : regOk p i.b false with
  | false => simp -implicitDefEqProofs [hb, hb2, hb3, x0, hfl, hf, g0, g1, g2, g3, g4, g5, g6, g7, g8, g9, abin_eql, x4, x5, x6, x7, x8, x9, x10, hl9, abin_neq, abin_gtr, f0, f1, f2, f3, f4, f5, f6, f7, f8, f9, hc, x1, x2, x3, hr, abin_lss, abin_geq, z4, z5, z6, z7, z8, z9, z10, k1, k2, k3]
  | true =>
  simp -implicitDefEqProofs [hb, hb2, hb3, x0, hfl, hf, g0, g1, g2, g3, g4, g5, g6, g7, g8, g9, abin_eql, x4, x5, x6, x7, x8, x9, x10, hl9, abin_neq, abin_gtr, f0, f1, f2, f3, f4, f5, f6, f7, f8, f9, hc, x1, x2, x3, hr, abin_lss, abin_geq, z4, z5, z6, z7, z8, z9, z10, k1, k2, k3, restOk, offOk, hop]
end
section
variable {d lim : Nat} {H : Heap}
set_option maxHeartbeats 4000000 in
/-- Operation 11: registers and the rest. -/
theorem good67_11 {m : Mdl} {p : Prc} {i : Ins} (r0 : 0 ≤ p.regs) (r1 : p.regs ≤ 8000) (hop : i.op = 11) (hz : refBare i = true) : evCall Tryd.prog C (d + 2) lim 28 [.agg ((mD m).map .d), .agg ((pD p).map .d), .agg ((iD i).map .d)] H = some (vb (insOk m p i), H) := by
  rw [evCall_pureEq (fi := fi28) rfl rfl (b28 _ _ _ _ _ _), up_data, up_data, up_data]
  unfold s28
  have hb := bx_data (r := mD m) (A := []) (H := H)
  have hb2 := bx_data (r := pD p) (A := [some ((mD m).map .d)]) (H := H)
  have hb3 := bx_data (r := iD i) (A := [some ((mD m).map .d), some ((pD p).map .d)]) (H := H)
  have hfl := fun H => fields77 (d := d) (lim := 1) (H := H) (op := i.op)
  have hc := cut_data (r := pD p) (n := 6) rfl
  have hr := fun (r : Int) (t : Bool) (H : Heap) => reg76 (d := d) (lim := 1) (H := H) (p := p) (r := r) (t := t) r0 r1
  have m0 : (mD m)[0]? = some (seqD m.gnl m.globs sD) := rfl
  have p4 : (pD p)[4]? = some (seqD p.onl p.objs sD) := rfl
  have hl0 := seq_len m.gnl m.globs sD
  have hl4 := seq_len p.onl p.objs sD
  have x0 : (iD i)[0]? = some (.int .i64 i.op) := rfl
  have x1 : (iD i)[1]? = some (.int .i64 i.d) := rfl
  have x2 : (iD i)[2]? = some (.int .i64 i.a) := rfl
  have x3 : (iD i)[3]? = some (.int .i64 i.b) := rfl
  have x4 : (iD i)[4]? = some (.int .i64 i.fn) := rfl
  have x5 : (iD i)[5]? = some (.int .i64 i.obj) := rfl
  have x6 : (iD i)[6]? = some (.int .i64 i.off) := rfl
  have x7 : (iD i)[7]? = some (.int .i64 i.size) := rfl
  have x8 : (iD i)[8]? = some (.int .u32 i.num) := rfl
  have x9 : (iD i)[9]? = some (seqD i.anl i.args nD) := rfl
  have x10 : (iD i)[10]? = some (.bool i.log) := rfl
  have hl9 := seq_len i.anl i.args nD
  generalize mD m = M at *
  generalize pD p = P at *
  generalize iD i = I at *
  have hi : insOk m p i = (bareI i && (regOk p i.d (outD i.op) && regOk p i.a (hasA i.op) && regOk p i.b (hasB i.op) && restOk m p i)) := by
    unfold insOk
    simp [hop]
  rw [hi]
  have hz0 := hz
  simp [refBare, bareI, plainI, hop, hasD] at hz
  rw [hop] at x0 hfl
  have hf : flV 11 = .d (.seq false 10 [.bool true, .bool false, .bool false, .bool false, .bool false, .bool false, .bool false, .bool false, .bool false, .bool true]) := rfl
  obtain ⟨g0, g1, g2, g3, g4, g5, g6, g7, g8, g9⟩ := fix_at [.bool true, .bool false, .bool false, .bool false, .bool false, .bool false, .bool false, .bool false, .bool false, .bool true]
  generalize hfs : ([.bool true, .bool false, .bool false, .bool false, .bool false, .bool false, .bool false, .bool false, .bool false, .bool true] : List D) = fs at *
  have f0 : fs[0]? = some (.bool true) := by rw [← hfs]; rfl
  have f1 : fs[1]? = some (.bool false) := by rw [← hfs]; rfl
  have f2 : fs[2]? = some (.bool false) := by rw [← hfs]; rfl
  have f3 : fs[3]? = some (.bool false) := by rw [← hfs]; rfl
  have f4 : fs[4]? = some (.bool false) := by rw [← hfs]; rfl
  have f5 : fs[5]? = some (.bool false) := by rw [← hfs]; rfl
  have f6 : fs[6]? = some (.bool false) := by rw [← hfs]; rfl
  have f7 : fs[7]? = some (.bool false) := by rw [← hfs]; rfl
  have f8 : fs[8]? = some (.bool false) := by rw [← hfs]; rfl
  have f9 : fs[9]? = some (.bool true) := by rw [← hfs]; rfl
  clear hfs
  have z4 : i.fn = 0 := by simp_all
  have z5 : i.obj = 0 := by simp_all
  have z6 : i.off = 0 := by simp_all
  have z7 : i.size = 0 := by simp_all
  have z8 : i.num = 0 := by simp_all
  have z9 : i.args.length = 0 := by simp_all
  have o1 : outD i.op = true := by rw [hop]; rfl
  have o2 : hasA i.op = false := by rw [hop]; rfl
  have o3 : hasB i.op = false := by rw [hop]; rfl
  rw [o1, o2, o3]
  cases k1 : regOk p i.d true with
  | false => simp -implicitDefEqProofs [hb, hb2, hb3, x0, hfl, hf, g0, g1, g2, g3, g4, g5, g6, g7, g8, g9, abin_eql, x4, x5, x6, x7, x8, x9, x10, hl9, abin_neq, abin_gtr, f0, f1, f2, f3, f4, f5, f6, f7, f8, f9, hc, x1, x2, x3, hr, abin_lss, abin_geq, z4, z5, z6, z7, z8, z9, k1]
  | true =>
  have hd : i.d ≠ -1 := fun e => by rw [e, regOk_neg] at k1; cases k1
  have hba : bareI i = true := by
    unfold refBare bareI plainI at hz0
    unfold bareI plainI
    simp_all [hasD]
  rw [hba]
  simp only [Bool.true_and]
  cases k2 : regOk p i.a false with
  | false => simp -implicitDefEqProofs [hb, hb2, hb3, x0, hfl, hf, g0, g1, g2, g3, g4, g5, g6, g7, g8, g9, abin_eql, x4, x5, x6, x7, x8, x9, x10, hl9, abin_neq, abin_gtr, f0, f1, f2, f3, f4, f5, f6, f7, f8, f9, hc, x1, x2, x3, hr, abin_lss, abin_geq, z4, z5, z6, z7, z8, z9, k1, k2]
  | true =>
  cases k3 : regOk p i.b false with
  | false => simp -implicitDefEqProofs [hb, hb2, hb3, x0, hfl, hf, g0, g1, g2, g3, g4, g5, g6, g7, g8, g9, abin_eql, x4, x5, x6, x7, x8, x9, x10, hl9, abin_neq, abin_gtr, f0, f1, f2, f3, f4, f5, f6, f7, f8, f9, hc, x1, x2, x3, hr, abin_lss, abin_geq, z4, z5, z6, z7, z8, z9, k1, k2, k3]
  | true =>
  simp -implicitDefEqProofs [hb, hb2, hb3, x0, hfl, hf, g0, g1, g2, g3, g4, g5, g6, g7, g8, g9, abin_eql, x4, x5, x6, x7, x8, x9, x10, hl9, abin_neq, abin_gtr, f0, f1, f2, f3, f4, f5, f6, f7, f8, f9, hc, x1, x2, x3, hr, abin_lss, abin_geq, z4, z5, z6, z7, z8, z9, k1, k2, k3, restOk, offOk, hop]
end
section
variable {d lim : Nat} {H : Heap}
set_option maxHeartbeats 4000000 in
/-- Operation 12: registers and the rest. -/
theorem good67_12 {m : Mdl} {p : Prc} {i : Ins} (r0 : 0 ≤ p.regs) (r1 : p.regs ≤ 8000) (hop : i.op = 12) (hz : refBare i = true) : evCall Tryd.prog C (d + 2) lim 28 [.agg ((mD m).map .d), .agg ((pD p).map .d), .agg ((iD i).map .d)] H = some (vb (insOk m p i), H) := by
  rw [evCall_pureEq (fi := fi28) rfl rfl (b28 _ _ _ _ _ _), up_data, up_data, up_data]
  unfold s28
  have hb := bx_data (r := mD m) (A := []) (H := H)
  have hb2 := bx_data (r := pD p) (A := [some ((mD m).map .d)]) (H := H)
  have hb3 := bx_data (r := iD i) (A := [some ((mD m).map .d), some ((pD p).map .d)]) (H := H)
  have hfl := fun H => fields77 (d := d) (lim := 1) (H := H) (op := i.op)
  have hc := cut_data (r := pD p) (n := 6) rfl
  have hr := fun (r : Int) (t : Bool) (H : Heap) => reg76 (d := d) (lim := 1) (H := H) (p := p) (r := r) (t := t) r0 r1
  have m0 : (mD m)[0]? = some (seqD m.gnl m.globs sD) := rfl
  have p4 : (pD p)[4]? = some (seqD p.onl p.objs sD) := rfl
  have hl0 := seq_len m.gnl m.globs sD
  have hl4 := seq_len p.onl p.objs sD
  have x0 : (iD i)[0]? = some (.int .i64 i.op) := rfl
  have x1 : (iD i)[1]? = some (.int .i64 i.d) := rfl
  have x2 : (iD i)[2]? = some (.int .i64 i.a) := rfl
  have x3 : (iD i)[3]? = some (.int .i64 i.b) := rfl
  have x4 : (iD i)[4]? = some (.int .i64 i.fn) := rfl
  have x5 : (iD i)[5]? = some (.int .i64 i.obj) := rfl
  have x6 : (iD i)[6]? = some (.int .i64 i.off) := rfl
  have x7 : (iD i)[7]? = some (.int .i64 i.size) := rfl
  have x8 : (iD i)[8]? = some (.int .u32 i.num) := rfl
  have x9 : (iD i)[9]? = some (seqD i.anl i.args nD) := rfl
  have x10 : (iD i)[10]? = some (.bool i.log) := rfl
  have hl9 := seq_len i.anl i.args nD
  generalize mD m = M at *
  generalize pD p = P at *
  generalize iD i = I at *
  have hi : insOk m p i = (bareI i && (regOk p i.d (outD i.op) && regOk p i.a (hasA i.op) && regOk p i.b (hasB i.op) && restOk m p i)) := by
    unfold insOk
    simp [hop]
  rw [hi]
  have hz0 := hz
  simp [refBare, bareI, plainI, hop, hasD] at hz
  rw [hop] at x0 hfl
  have hf : flV 12 = .d (.seq false 10 [.bool false, .bool false, .bool false, .bool false, .bool false, .bool false, .bool false, .bool false, .bool false, .bool false]) := rfl
  obtain ⟨g0, g1, g2, g3, g4, g5, g6, g7, g8, g9⟩ := fix_at [.bool false, .bool false, .bool false, .bool false, .bool false, .bool false, .bool false, .bool false, .bool false, .bool false]
  generalize hfs : ([.bool false, .bool false, .bool false, .bool false, .bool false, .bool false, .bool false, .bool false, .bool false, .bool false] : List D) = fs at *
  have f0 : fs[0]? = some (.bool false) := by rw [← hfs]; rfl
  have f1 : fs[1]? = some (.bool false) := by rw [← hfs]; rfl
  have f2 : fs[2]? = some (.bool false) := by rw [← hfs]; rfl
  have f3 : fs[3]? = some (.bool false) := by rw [← hfs]; rfl
  have f4 : fs[4]? = some (.bool false) := by rw [← hfs]; rfl
  have f5 : fs[5]? = some (.bool false) := by rw [← hfs]; rfl
  have f6 : fs[6]? = some (.bool false) := by rw [← hfs]; rfl
  have f7 : fs[7]? = some (.bool false) := by rw [← hfs]; rfl
  have f8 : fs[8]? = some (.bool false) := by rw [← hfs]; rfl
  have f9 : fs[9]? = some (.bool false) := by rw [← hfs]; rfl
  clear hfs
  have z4 : i.fn = 0 := by simp_all
  have z5 : i.obj = 0 := by simp_all
  have z6 : i.off = 0 := by simp_all
  have z7 : i.size = 0 := by simp_all
  have z8 : i.num = 0 := by simp_all
  have z9 : i.args.length = 0 := by simp_all
  have z10 : i.log = false := by simp_all
  have o1 : outD i.op = false := by rw [hop]; rfl
  have o2 : hasA i.op = false := by rw [hop]; rfl
  have o3 : hasB i.op = false := by rw [hop]; rfl
  rw [o1, o2, o3]
  cases k1 : regOk p i.d false with
  | false => simp -implicitDefEqProofs [hb, hb2, hb3, x0, hfl, hf, g0, g1, g2, g3, g4, g5, g6, g7, g8, g9, abin_eql, x4, x5, x6, x7, x8, x9, x10, hl9, abin_neq, abin_gtr, f0, f1, f2, f3, f4, f5, f6, f7, f8, f9, hc, x1, x2, x3, hr, abin_lss, abin_geq, z4, z5, z6, z7, z8, z9, z10, k1]
  | true =>
  have hba : bareI i = true := by
    unfold refBare bareI plainI at hz0
    unfold bareI plainI
    simp_all [hasD]
  rw [hba]
  simp only [Bool.true_and]
  cases k2 : regOk p i.a false with
  | false => simp -implicitDefEqProofs [hb, hb2, hb3, x0, hfl, hf, g0, g1, g2, g3, g4, g5, g6, g7, g8, g9, abin_eql, x4, x5, x6, x7, x8, x9, x10, hl9, abin_neq, abin_gtr, f0, f1, f2, f3, f4, f5, f6, f7, f8, f9, hc, x1, x2, x3, hr, abin_lss, abin_geq, z4, z5, z6, z7, z8, z9, z10, k1, k2]
  | true =>
  cases k3 : regOk p i.b false with
  | false => simp -implicitDefEqProofs [hb, hb2, hb3, x0, hfl, hf, g0, g1, g2, g3, g4, g5, g6, g7, g8, g9, abin_eql, x4, x5, x6, x7, x8, x9, x10, hl9, abin_neq, abin_gtr, f0, f1, f2, f3, f4, f5, f6, f7, f8, f9, hc, x1, x2, x3, hr, abin_lss, abin_geq, z4, z5, z6, z7, z8, z9, z10, k1, k2, k3]
  | true =>
  simp -implicitDefEqProofs [hb, hb2, hb3, x0, hfl, hf, g0, g1, g2, g3, g4, g5, g6, g7, g8, g9, abin_eql, x4, x5, x6, x7, x8, x9, x10, hl9, abin_neq, abin_gtr, f0, f1, f2, f3, f4, f5, f6, f7, f8, f9, hc, x1, x2, x3, hr, abin_lss, abin_geq, z4, z5, z6, z7, z8, z9, z10, k1, k2, k3, restOk, offOk, hop]
end
end Go.Ev.Tryd
