import Derived.Test.YtkbimbpaaikkeaaDoorK2
set_option linter.unusedSimpArgs false
set_option linter.unusedVariables false
/- The document's answer: calls. -/
set_option maxRecDepth 100000
namespace Go.Ev.Tryd
open Go Go.Ev Go.Proofs
section
variable {d lim : Nat} {H : Heap}
theorem args67 {p : Prc} {i : Ins} (r0 : 0 ≤ p.regs) (r1 : p.regs ≤ 8000) (hn : i.args.length ≤ 1000000) {A : Arena} (hA : A[1]? = some (some ((pD p).map .d))) (hI : A[2]? = some (some ((iD i).map .d))) : iterN LB (s28.l0 (evCall Tryd.prog C (d + 1) 1) 1) [.ptr 0 1 0, .ptr 0 2 0, vi 0] (A :: H) =
    some (if i.args.all (fun r => regOk p r true) then (.exit 0, [.ptr 0 2 0], A :: H) else (.ret, [vb false], A :: H)) := by
  have hr := fun (r : Int) (t : Bool) (H : Heap) => reg76 (d := d) (lim := 1) (H := H) (p := p) (r := r) (t := t) r0 r1
  have hc := cut_data (r := pD p) (n := 6) rfl
  have x9 : (iD i)[9]? = some (seqD i.anl i.args nD) := rfl
  have hl9 := seq_len i.anl i.args nD
  generalize pD p = P at *
  generalize iD i = I at *
  have e := iter_any (F := s28.l0 (evCall Tryd.prog C (d + 1) 1) 1) (H := A :: H) (n := i.args.length) (fun k => [.ptr 0 1 0, .ptr 0 2 0, vi k]) (fun k => !regOk p ((i.args[k]?).getD 0) true) (rv := (.ret, [vb false], A :: H)) (ex := (.exit 0, [.ptr 0 2 0], A :: H)) (by omega)
    (fun k hk hp => by
      obtain ⟨x, hx⟩ : ∃ x, i.args[k]? = some x := ⟨_, List.getElem?_eq_getElem hk⟩
      obtain ⟨q, hix, hld⟩ := seq_one (nl := i.anl) (f := fun n => D.int .i64 n) hx
      have hi : (k : Int) < i.args.length := by omega
      have w := wrap_ok ((k : Int) + 1) (by omega) (by omega)
      have hq : regOk p x true = true := by simpa [hx] using hp
      have hix' : ixS 1 (.d (seqD i.anl i.args nD)) (vi k) = some q := hix
      unfold s28.l0
      simp -implicitDefEqProofs [hI, x9, hl9, abin_lss, hi, hix', hld, hA, hc, hr, hq, abin_add, w])
    (fun k hk hp => by
      obtain ⟨x, hx⟩ : ∃ x, i.args[k]? = some x := ⟨_, List.getElem?_eq_getElem hk⟩
      obtain ⟨q, hix, hld⟩ := seq_one (nl := i.anl) (f := fun n => D.int .i64 n) hx
      have hi : (k : Int) < i.args.length := by omega
      have hq : regOk p x true = false := by simpa [hx] using hp
      have hix' : ixS 1 (.d (seqD i.anl i.args nD)) (vi k) = some q := hix
      unfold s28.l0
      simp -implicitDefEqProofs [hI, x9, hl9, abin_lss, hi, hix', hld, hA, hc, hr, hq]) (by simp)
    (by
      unfold s28.l0
      simp -implicitDefEqProofs [hI, x9, hl9, abin_lss]) (by simp)
  refine e.trans (congrArg some ?_)
  have : (List.range i.args.length).any (fun k => !regOk p ((i.args[k]?).getD 0) true) = !(i.args.all fun r => regOk p r true) := by
    rw [Bool.eq_iff_iff]
    simp only [List.any_eq_true, List.mem_range, Bool.not_eq_true', List.all_eq_false]
    constructor
    · rintro ⟨k, hk, h⟩
      rw [List.getElem?_eq_getElem hk] at h
      exact ⟨i.args[k], List.getElem_mem hk, by simpa using h⟩
    · rintro ⟨x, hx, h⟩
      obtain ⟨k, hk, rfl⟩ := List.getElem_of_mem hx
      exact ⟨k, hk, by rw [List.getElem?_eq_getElem hk]; simpa using h⟩
  rw [this]
  cases i.args.all fun r => regOk p r true <;> rfl
set_option maxHeartbeats 8000000 in
theorem good67_9 {m : Mdl} {p : Prc} {i : Ins} (r0 : 0 ≤ p.regs) (r1 : p.regs ≤ 8000) (hn : i.args.length ≤ 1000000) (hop : i.op = 9) (hz : refBare i = true) : evCall Tryd.prog C (d + 2) lim 28 [.agg ((mD m).map .d), .agg ((pD p).map .d), .agg ((iD i).map .d)] H = some (vb (insOk m p i), H) := by
  rw [evCall_pureEq (fi := fi28) rfl rfl (b28 _ _ _ _ _ _), up_data, up_data, up_data]
  unfold s28
  have hb := bx_data (r := mD m) (A := []) (H := H)
  have hb2 := bx_data (r := pD p) (A := [some ((mD m).map .d)]) (H := H)
  have hb3 := bx_data (r := iD i) (A := [some ((mD m).map .d), some ((pD p).map .d)]) (H := H)
  have hfl := fun H => fields77 (d := d) (lim := 1) (H := H) (op := i.op)
  have hc := cut_data (r := pD p) (n := 6) rfl
  have hr := fun (r : Int) (t : Bool) (H : Heap) => reg76 (d := d) (lim := 1) (H := H) (p := p) (r := r) (t := t) r0 r1
  have m2 : (mD m)[2]? = some (seqD m.pnl m.procs pD) := rfl
  have hl2 := seq_len m.pnl m.procs pD
  have x0 : (iD i)[0]? = some (.int .i64 i.op) := rfl
  have x1 : (iD i)[1]? = some (.int .i64 i.d) := rfl
  have x2 : (iD i)[2]? = some (.int .i64 i.a) := rfl
  have x3 : (iD i)[3]? = some (.int .i64 i.b) := rfl
  have x4 : (iD i)[4]? = some (.int .i64 i.fn) := rfl
  have x5 : (iD i)[5]? = some (.int .i64 i.obj) := rfl
  have x6 : (iD i)[6]? = some (.int .i64 i.off) := rfl
  have x7 : (iD i)[7]? = some (.int .i64 i.size) := rfl
  have x8 : (iD i)[8]? = some (.int .u32 i.num) := rfl
  have x9 : (iD i)[9]? = some (seqD i.anl i.args nD) := rfl
  have x10 : (iD i)[10]? = some (.bool i.log) := rfl
  have hl9 := seq_len i.anl i.args nD
  have hloop := args67 (d := d) (H := H) r0 r1 hn (A := [some ((mD m).map .d), some ((pD p).map .d), some ((iD i).map .d)]) rfl rfl
  generalize mD m = M at *
  generalize pD p = P at *
  generalize iD i = I at *
  have hz0 := hz
  simp [refBare, bareI, plainI, hop, hasD] at hz
  obtain ⟨⟨⟨z4, z6⟩, z7⟩, z8⟩ := hz
  have hba : bareI i = (!i.log || decide (i.d ≠ -1)) := by
    unfold bareI plainI
    cases hlog : i.log <;> by_cases hd : i.d = -1 <;> simp [hop, hasD, z4, z6, z7, z8, hlog, hd]
  have hi : insOk m p i = ((!i.log || decide (i.d ≠ -1)) && (callOk m p i && regOk p i.a false && regOk p i.b false)) := by
    unfold insOk
    rw [hba]
    simp [hop]
  rw [hi]
  rw [hop] at x0 hfl
  have hf : flV 9 = .d (.seq false 10 [.bool true, .bool false, .bool false, .bool false, .bool true, .bool false, .bool false, .bool false, .bool true, .bool true]) := rfl
  obtain ⟨g0, g1, g2, g3, g4, g5, g6, g7, g8, g9⟩ := fix_at [.bool true, .bool false, .bool false, .bool false, .bool true, .bool false, .bool false, .bool false, .bool true, .bool true]
  generalize hfs : ([.bool true, .bool false, .bool false, .bool false, .bool true, .bool false, .bool false, .bool false, .bool true, .bool true] : List D) = fs at *
  have f3 : fs[3]? = some (.bool false) := by rw [← hfs]; rfl
  have f4 : fs[4]? = some (.bool true) := by rw [← hfs]; rfl
  have f5 : fs[5]? = some (.bool false) := by rw [← hfs]; rfl
  have f6 : fs[6]? = some (.bool false) := by rw [← hfs]; rfl
  have f7 : fs[7]? = some (.bool false) := by rw [← hfs]; rfl
  have f8 : fs[8]? = some (.bool true) := by rw [← hfs]; rfl
  have f9 : fs[9]? = some (.bool true) := by rw [← hfs]; rfl
  clear hfs
  unfold callOk
  by_cases c0 : i.obj < 0
  · have : ¬ 0 ≤ i.obj := by omega
    simp -implicitDefEqProofs [hb, hb2, hb3, x0, hfl, hf, g3, g4, g5, g6, g7, g8, g9, f3, f4, f5, f6, f7, f8, f9, x4, x5, x6, x7, x8, z4, z6, z7, z8, abin_eql, abin_neq, abin_lss, c0, this]
  by_cases c1 : (m.procs.length : Int) ≤ i.obj
  · have : ¬ i.obj < m.procs.length := by omega
    simp -implicitDefEqProofs [hb, hb2, hb3, x0, hfl, hf, g3, g4, g5, g6, g7, g8, g9, f3, f4, f5, f6, f7, f8, f9, x4, x5, x6, x7, x8, z4, z6, z7, z8, abin_eql, abin_neq, abin_lss, c0, m2, hl2, abin_geq, c1, this]
  obtain ⟨n, hn2⟩ : ∃ n : Nat, i.obj = n := ⟨i.obj.toNat, by omega⟩
  have hlt : n < m.procs.length := by omega
  obtain ⟨t, ht⟩ : ∃ t, m.procs[n]? = some t := ⟨_, List.getElem?_eq_getElem hlt⟩
  obtain ⟨q, qs, rr⟩ := seq_row (nl := m.pnl) (f := pD) (s := 6) (fun _ => rfl) ht
  have hix := rr.ix
  have hfa := rr.fa
  have y1 := fun H => rr.cell H 1 (.bool t.void) rfl
  have y2 := fun H => rr.cell H 2 (.int .i64 t.params) rfl
  rw [hn2] at x5 c0 c1 ⊢
  have q1 : (decide ((0 : Int) ≤ n) && decide ((n : Int) < m.procs.length)) = true := by simp; omega
  rw [q1, cond_true, Int.toNat_natCast, ht]
  by_cases c2 : (i.args.length : Int) = t.params
  rotate_left
  · simp -implicitDefEqProofs [hb, hb2, hb3, x0, hfl, hf, g3, g4, g5, g6, g7, g8, g9, f3, f4, f5, f6, f7, f8, f9, x4, x5, x6, x7, x8, z4, z6, z7, z8, abin_eql, abin_neq, abin_lss, c0, m2, hl2, abin_geq, c1, x9, hl9, hix, hfa, y2, c2]
  rw [c2] at hl9
  cases k1 : regOk p i.d (!t.void) with
  | false => simp -implicitDefEqProofs [hb, hb2, hb3, x0, hfl, hf, g3, g4, g5, g6, g7, g8, g9, f3, f4, f5, f6, f7, f8, f9, x4, x5, x6, x7, x8, z4, z6, z7, z8, abin_eql, abin_neq, abin_lss, c0, m2, hl2, abin_geq, c1, x9, hl9, hix, hfa, y2, c2, hc, x1, y1, hr, k1]
  | true =>
  cases k2 : i.args.all (fun r => regOk p r true) with
  | false =>
    rw [k2, if_neg (by simp)] at hloop
    unfold lp
    simp -implicitDefEqProofs [hb, hb2, hb3, x0, hfl, hf, g3, g4, g5, g6, g7, g8, g9, f3, f4, f5, f6, f7, f8, f9, x4, x5, x6, x7, x8, z4, z6, z7, z8, abin_eql, abin_neq, abin_lss, c0, m2, hl2, abin_geq, c1, x9, hl9, hix, hfa, y2, c2, hc, x1, y1, hr, k1, hloop, bnd_eq]
  | true =>
    rw [k2, if_pos rfl] at hloop
    have ra : regOk p i.a false = decide (i.a = -1) := rfl
    have rb : regOk p i.b false = decide (i.b = -1) := rfl
    rw [ra, rb]
    unfold lp
    by_cases a1 : i.a = -1
    · by_cases a2 : i.b = -1
      · cases hlog : i.log <;>
        simp -implicitDefEqProofs [hb, hb2, hb3, x0, hfl, hf, g3, g4, g5, g6, g7, g8, g9, f3, f4, f5, f6, f7, f8, f9, x4, x5, x6, x7, x8, z4, z6, z7, z8, abin_eql, abin_neq, abin_lss, c0, m2, hl2, abin_geq, c1, x9, hl9, hix, hfa, y2, c2, hc, x1, y1, hr, k1, hloop, bnd_eq, x2, x3, a1, a2, x10, hlog]
      · simp -implicitDefEqProofs [hb, hb2, hb3, x0, hfl, hf, g3, g4, g5, g6, g7, g8, g9, f3, f4, f5, f6, f7, f8, f9, x4, x5, x6, x7, x8, z4, z6, z7, z8, abin_eql, abin_neq, abin_lss, c0, m2, hl2, abin_geq, c1, x9, hl9, hix, hfa, y2, c2, hc, x1, y1, hr, k1, hloop, bnd_eq, x2, x3, a1, a2]
    · simp -implicitDefEqProofs [hb, hb2, hb3, x0, hfl, hf, g3, g4, g5, g6, g7, g8, g9, f3, f4, f5, f6, f7, f8, f9, x4, x5, x6, x7, x8, z4, z6, z7, z8, abin_eql, abin_neq, abin_lss, c0, m2, hl2, abin_geq, c1, x9, hl9, hix, hfa, y2, c2, hc, x1, y1, hr, k1, hloop, bnd_eq, x2, a1]
end
end Go.Ev.Tryd

/- The document's answer: instructions, all of it. -/
set_option maxRecDepth 100000
namespace Go.Ev.Tryd
open Go Go.Ev Go.Proofs
section
variable {d lim : Nat} {H : Heap}
theorem out67 {m : Mdl} {p : Prc} {i : Ins} (h : i.op < 1 ∨ 12 < i.op) : evCall Tryd.prog C (d + 2) lim 28 [.agg ((mD m).map .d), .agg ((pD p).map .d), .agg ((iD i).map .d)] H = some (vb false, H) := by
  rw [evCall_pureEq (fi := fi28) rfl rfl (b28 _ _ _ _ _ _), up_data, up_data, up_data]
  unfold s28
  have hb := bx_data (r := mD m) (A := []) (H := H)
  have hb2 := bx_data (r := pD p) (A := [some ((mD m).map .d)]) (H := H)
  have hb3 := bx_data (r := iD i) (A := [some ((mD m).map .d), some ((pD p).map .d)]) (H := H)
  have hfl := fun H => fields77 (d := d) (lim := 1) (H := H) (op := i.op)
  have x0 : (iD i)[0]? = some (.int .i64 i.op) := rfl
  have hf : flV i.op = .d (.seq true 0 []) := by unfold flV; rw [if_pos h]
  generalize mD m = M at *
  generalize pD p = P at *
  generalize iD i = I at *
  simp -implicitDefEqProofs [hb, hb2, hb3, x0, hfl, hf, abin_eql]
theorem bare_ref {i : Ins} (h : refBare i = false) : bareI i = false := by
  cases hb : bareI i with
  | false => rfl
  | true =>
    have : refBare i = true := by
      unfold refBare bareI plainI
      unfold bareI plainI at hb
      cases hD : hasD i.op <;> simp_all
    rw [this] at h
    cases h
theorem ins67 {m : Mdl} {p : Prc} {i : Ins} (r0 : 0 ≤ p.regs) (r1 : p.regs ≤ 8000) (hn : i.args.length ≤ 1000000) : evCall Tryd.prog C (d + 2) lim 28 [.agg ((mD m).map .d), .agg ((pD p).map .d), .agg ((iD i).map .d)] H = some (vb (insOk m p i), H) := by
  by_cases h : i.op < 1 ∨ 12 < i.op
  · have : insOk m p i = false := by
      unfold insOk
      rcases h with h | h
      · have : decide (1 ≤ i.op) = false := by simp; omega
        simp [this]
      · have : decide (i.op ≤ 12) = false := by simp; omega
        simp [this]
    rw [this]
    exact out67 h
  have hop : i.op = 1 ∨ i.op = 2 ∨ i.op = 3 ∨ i.op = 4 ∨ i.op = 5 ∨ i.op = 6 ∨ i.op = 7 ∨ i.op = 8 ∨ i.op = 9 ∨ i.op = 10 ∨ i.op = 11 ∨ i.op = 12 := by omega
  cases hz : refBare i with
  | false =>
    have : insOk m p i = false := by
      unfold insOk
      rw [bare_ref hz]
      simp
    rw [this]
    rcases hop with h | h | h | h | h | h | h | h | h | h | h | h
    · exact bare67_1 h hz
    · exact bare67_2 h hz
    · exact bare67_3 h hz
    · exact bare67_4 h hz
    · exact bare67_5 h hz
    · exact bare67_6 h hz
    · exact bare67_7 h hz
    · exact bare67_8 h hz
    · exact bare67_9 h hz
    · exact bare67_10 h hz
    · exact bare67_11 h hz
    · exact bare67_12 h hz
  | true =>
    rcases hop with h | h | h | h | h | h | h | h | h | h | h | h
    · exact good67_1 r0 r1 h hz
    · exact good67_2 r0 r1 h hz
    · exact good67_3 r0 r1 h hz
    · exact good67_4 r0 r1 h hz
    · exact good67_5 r0 r1 h hz
    · exact good67_6 r0 r1 h hz
    · exact good67_7 r0 r1 h hz
    · exact good67_8 r0 r1 h hz
    · exact good67_9 r0 r1 hn h hz
    · exact good67_10 r0 r1 h hz
    · exact good67_11 r0 r1 h hz
    · exact good67_12 r0 r1 h hz
end
end Go.Ev.Tryd

/- The document's answer: procedures. -/
set_option maxRecDepth 100000
namespace Go.Ev.Tryd
open Go Go.Ev Go.Proofs
theorem any_all {α : Type} [Inhabited α] (l : List α) (f : α → Bool) : (List.range l.length).any (fun k => !f ((l[k]?).getD default)) = !(l.all f) := by
  rw [Bool.eq_iff_iff]
  simp only [List.any_eq_true, List.mem_range, Bool.not_eq_true', List.all_eq_false]
  constructor
  · rintro ⟨k, hk, h⟩
    rw [List.getElem?_eq_getElem hk] at h
    exact ⟨l[k], List.getElem_mem hk, by simpa using h⟩
  · rintro ⟨x, hx, h⟩
    obtain ⟨k, hk, rfl⟩ := List.getElem_of_mem hx
    exact ⟨k, hk, by rw [List.getElem?_eq_getElem hk]; simpa using h⟩
instance : Inhabited Ins := ⟨⟨0, 0, 0, 0, 0, 0, 0, 0, 0, true, [], false⟩⟩
section
variable {d lim : Nat} {H : Heap}
theorem ins44 {m : Mdl} {p : Prc} (hF : FewP p) (r0 : 0 ≤ p.regs) (r1 : p.regs ≤ 8000) {k : Nat} {b : Blk} (hb : p.blks[k]? = some b) (S : AV) :
    iterN LB (s11.l0 (evCall Tryd.prog C (d + 2) 1) 1) [.ptr 0 0 0, .ptr 0 1 0, S, vi k, vi 0] ([some ((mD m).map .d), some ((pD p).map .d)] :: H) =
      some (if b.ins.all (insOk m p) then (.exit 2, [.ptr 0 0 0, .ptr 0 1 0, S, vi k], [some ((mD m).map .d), some ((pD p).map .d)] :: H) else (.ret, [vi 3], [some ((mD m).map .d), some ((pD p).map .d)] :: H)) := by
  have hmem := List.mem_of_getElem? hb
  have hins := fun (i : Ins) (hi : i.args.length ≤ 1000000) (H : Heap) => ins67 (d := d) (lim := 1) (H := H) (m := m) (p := p) (i := i) r0 r1 hi
  have h60 := hF.ins b hmem
  have hargs := hF.args b hmem
  have hc4 := cut_data (r := mD m) (n := 4) rfl
  have hc6 := cut_data (r := pD p) (n := 6) rfl
  have y5 : (pD p)[5]? = some (seqD p.bnl p.blks bD) := rfl
  obtain ⟨q, qs, rr⟩ := seq_row (nl := p.bnl) (f := bD) (s := 5) (fun _ => rfl) hb
  have hix := rr.ix
  have hfa := rr.fa
  have c0 := fun H => rr.cell H 0 (seqD b.inl b.ins iD) rfl
  have hl := seq_len b.inl b.ins iD
  generalize mD m = M at *
  generalize pD p = P at *
  rw [show (if b.ins.all (insOk m p) then _ else _) = (if (List.range b.ins.length).any (fun j => !insOk m p ((b.ins[j]?).getD default)) then ((.ret, [vi 3], [some (M.map .d), some (P.map .d)] :: H) : Res) else (.exit 2, [.ptr 0 0 0, .ptr 0 1 0, S, vi k], [some (M.map .d), some (P.map .d)] :: H)) by
    rw [any_all]
    cases b.ins.all (insOk m p) <;> rfl]
  refine iter_any (n := b.ins.length) (fun j => [.ptr 0 0 0, .ptr 0 1 0, S, vi k, vi j]) (fun j => !insOk m p ((b.ins[j]?).getD default)) (by omega) (fun j hj hp => ?_) (fun j hj hp => ?_) (by simp) ?_ (by simp)
  · obtain ⟨i, hi'⟩ : ∃ i, b.ins[j]? = some i := ⟨_, List.getElem?_eq_getElem hj⟩
    obtain ⟨q2, qs2, rr2⟩ := seq_row (nl := b.inl) (f := iD) (s := 11) (fun _ => rfl) hi'
    have hi : (j : Int) < b.ins.length := by omega
    have hix2 := rr2.ix
    have hall2 := rr2.all
    have w := wrap_ok ((j : Int) + 1) (by omega) (by omega)
    have hcall := hins i (by have := hargs i (List.mem_of_getElem? hi'); omega)
    have hk : insOk m p i = true := by simpa [hi'] using hp
    unfold s11.l0
    simp -implicitDefEqProofs [y5, hix, hfa, c0, hl, abin_lss, hi, hc4, hc6, hix2, hall2, hcall, hk, abin_add, w]
  · obtain ⟨i, hi'⟩ : ∃ i, b.ins[j]? = some i := ⟨_, List.getElem?_eq_getElem hj⟩
    obtain ⟨q2, qs2, rr2⟩ := seq_row (nl := b.inl) (f := iD) (s := 11) (fun _ => rfl) hi'
    have hi : (j : Int) < b.ins.length := by omega
    have hix2 := rr2.ix
    have hall2 := rr2.all
    have hcall := hins i (by have := hargs i (List.mem_of_getElem? hi'); omega)
    have hk : insOk m p i = false := by simpa [hi'] using hp
    unfold s11.l0
    simp -implicitDefEqProofs [y5, hix, hfa, c0, hl, abin_lss, hi, hc4, hc6, hix2, hall2, hcall, hk]
  · unfold s11.l0
    simp -implicitDefEqProofs [y5, hix, hfa, c0, hl, abin_lss]
end
end Go.Ev.Tryd

/- The document's answer: procedures, all of it. -/
set_option maxRecDepth 100000
namespace Go.Ev.Tryd
open Go Go.Ev Go.Proofs
section
variable {d lim : Nat} {H : Heap}
theorem blks44 {m : Mdl} {p : Prc} (hF : FewP p) (r0 : 0 ≤ p.regs) (r1 : p.regs ≤ 8000) :
    iterN LB (s11.l1 (evCall Tryd.prog C (d + 2) 1) 1) [.ptr 0 0 0, .ptr 0 1 0, vi 0, vi 0] ([some ((mD m).map .d), some ((pD p).map .d)] :: H) =
      some (if p.blks.all (blkOk m p) then (.exit 0, [vi (insSum p.blks)], [some ((mD m).map .d), some ((pD p).map .d)] :: H) else (.ret, [vi 3], [some ((mD m).map .d), some ((pD p).map .d)] :: H)) := by
  have hend := fun (b : Blk) (H : Heap) => end66 (d := d) (lim := 1) (H := H) (p := p) (b := b) r0 r1
  have hin := fun (k : Nat) (b : Blk) (hb : p.blks[k]? = some b) (S : AV) => ins44 (d := d) (H := H) (m := m) hF r0 r1 hb S
  have hc6 := cut_data (r := pD p) (n := 6) rfl
  have y5 : (pD p)[5]? = some (seqD p.bnl p.blks bD) := rfl
  have hl := seq_len p.bnl p.blks bD
  have h40 := hF.blks
  generalize mD m = M at *
  generalize pD p = P at *
  refine gives_eq (iter_gives (Inv := fun k s H' => s = [.ptr 0 0 0, .ptr 0 1 0, vi (insSum (p.blks.take k) : Nat), vi k] ∧ H' = [some (M.map .d), some (P.map .d)] :: H ∧ ∀ j b, j < k → p.blks[j]? = some b → blkOk m p b = true) p.blks.length (big_lt (by omega)) (fun k hk s H' h => ?_) ⟨by simp [insSum], rfl, fun j b hj => by omega⟩)
  obtain ⟨rfl, rfl, hp⟩ := h
  rcases Nat.lt_or_ge k p.blks.length with hlt | hge
  · obtain ⟨b, hb⟩ : ∃ b, p.blks[k]? = some b := ⟨_, List.getElem?_eq_getElem hlt⟩
    have hmem := List.mem_of_getElem? hb
    obtain ⟨q, qs, rr⟩ := seq_row (nl := p.bnl) (f := bD) (s := 5) (fun _ => rfl) hb
    have hi : (k : Int) < p.blks.length := by omega
    have hix := rr.ix
    have hfa := rr.fa
    have hall := rr.all
    have c0 := fun H => rr.cell H 0 (seqD b.inl b.ins iD) rfl
    have hl2 := seq_len b.inl b.ins iD
    have he := hend b
    have hs := insSum_take hb
    have hle := insSum_le (l := p.blks.take (k + 1)) fun x hx => hF.ins x (List.mem_of_mem_take hx)
    rw [List.length_take] at hle
    have w := wrap_ok ((insSum (p.blks.take k) : Int) + b.ins.length) (by omega) (by omega)
    have w2 := wrap_ok ((k : Int) + 1) (by omega) (by omega)
    have hloop := hin k b hb (vi ((insSum (p.blks.take k) : Int) + b.ins.length))
    have hfail : blkOk m p b = false → p.blks.all (blkOk m p) = false := fun h => by
      rw [List.all_eq_false]
      exact ⟨b, hmem, by simp [h]⟩
    cases k1 : endOk p b with
    | false =>
      right
      refine ⟨(.ret, [vi 3], [some (M.map .d), some (P.map .d)] :: H), ?_, by simp, ?_⟩
      · unfold s11.l1
        simp -implicitDefEqProofs [y5, hl, abin_lss, hi, hix, hfa, c0, hl2, abin_add, w, hc6, hall, he, k1]
      · rw [hfail (by simp [blkOk, k1])]
        rfl
    | true =>
      cases k2 : b.ins.all (insOk m p) with
      | false =>
        right
        rw [k2, if_neg (by simp)] at hloop
        refine ⟨(.ret, [vi 3], [some (M.map .d), some (P.map .d)] :: H), ?_, by simp, ?_⟩
        · unfold s11.l1 lp
          simp -implicitDefEqProofs [y5, hl, abin_lss, hi, hix, hfa, c0, hl2, abin_add, w, hc6, hall, he, k1, hloop, bnd_eq]
        · rw [hfail (by simp [blkOk, k2])]
          rfl
      | true =>
        left
        rw [k2, if_pos rfl] at hloop
        refine ⟨[.ptr 0 0 0, .ptr 0 1 0, vi (insSum (p.blks.take (k + 1)) : Nat), vi (k + 1 : Nat)], [some (M.map .d), some (P.map .d)] :: H, hlt, ?_, rfl, rfl, fun j x hj hx => ?_⟩
        · unfold s11.l1 lp
          rw [hs]
          simp -implicitDefEqProofs [y5, hl, abin_lss, hi, hix, hfa, c0, hl2, abin_add, w, hc6, hall, he, k1, hloop, bnd_eq, w2]
        · rcases Nat.lt_succ_iff_lt_or_eq.1 hj with h | rfl
          · exact hp j x h hx
          · rw [hb] at hx; cases hx; simp [blkOk, k1, k2]
  · right
    obtain rfl : k = p.blks.length := by omega
    have ha : p.blks.all (blkOk m p) = true := by
      rw [List.all_eq_true]
      intro s hs
      obtain ⟨j, hj, he⟩ := List.getElem_of_mem hs
      exact hp j s hj (by rw [List.getElem?_eq_getElem hj, he])
    refine ⟨(.exit 0, [vi (insSum p.blks)], [some (M.map .d), some (P.map .d)] :: H), ?_, by simp, by rw [ha]; rfl⟩
    unfold s11.l1
    simp -implicitDefEqProofs [y5, hl, abin_lss]
set_option maxHeartbeats 4000000 in
theorem proc44 {m : Mdl} (hF : FewM m) {n : Int} : evCall Tryd.prog C (d + 3) lim 11 [.agg ((mD m).map .d), vi n] H = some (vi (procE m n), H) := by
  rw [evCall_pureEq (fi := fi11) rfl rfl (b11 _ _ _ _ _), up_data]
  unfold s11
  have hb := bx_data (r := mD m) (A := []) (H := H)
  have h2 : (mD m)[2]? = some (seqD m.pnl m.procs pD) := rfl
  have hl := seq_len m.pnl m.procs pD
  have hbl := fun (p : Prc) (hp : FewP p) (r0 : 0 ≤ p.regs) (r1 : p.regs ≤ 8000) => blks44 (d := d) (H := H) (m := m) hp r0 r1
  generalize mD m = R at *
  unfold procE
  by_cases c0 : n < 0
  · simp -implicitDefEqProofs [hb, abin_lss, c0, Int.not_le.2 c0]
  by_cases c1 : (m.procs.length : Int) ≤ n
  · simp -implicitDefEqProofs [hb, abin_lss, c0, h2, hl, abin_geq, c1, Int.not_lt.2 c1]
  obtain ⟨k, rfl⟩ : ∃ k : Nat, n = k := ⟨n.toNat, by omega⟩
  have hlt : k < m.procs.length := by omega
  obtain ⟨p, hp⟩ : ∃ p, m.procs[k]? = some p := ⟨_, List.getElem?_eq_getElem hlt⟩
  have hP := hF.each p (List.mem_of_getElem? hp)
  obtain ⟨q, qs, rr⟩ := seq_row (nl := m.pnl) (f := pD) (s := 6) (fun _ => rfl) hp
  have hix := rr.ix
  have hall := rr.all
  have hst := stA_at (n := 6) (lim := 1) (A := [some (R.map .d), some [.d (.str ⟨#[]⟩), .d (.bool false), .d (.int .i64 0), .d (.int .i64 0), .d (.seq true 0 []), .d (.seq true 0 [])]]) (H := H) (i := 1)
    (cs := (pD p).map .d) _ (by decide) (all_leaf_d _) rfl rfl rfl
  have hloop := hbl p hP
  have hsl := fun H => slots43 (d := d + 1) (lim := 1) (H := H) (nl := p.onl) (L := p.objs) (by have := hP.objs; omega) (n := 400) (by decide)
  have y2 : (pD p)[2]? = some (.int .i64 p.params) := rfl
  have y3 : (pD p)[3]? = some (.int .i64 p.regs) := rfl
  have y4 : (pD p)[4]? = some (seqD p.onl p.objs sD) := rfl
  have y5 : (pD p)[5]? = some (seqD p.bnl p.blks bD) := rfl
  have hlb := seq_len p.bnl p.blks bD
  generalize pD p = P at *
  simp only [List.set_cons_succ, List.set_cons_zero] at hst
  have h40 := hP.blks
  have hsum := insSum_le hP.ins
  have n2 : ¬ (4000 : Int) < p.blks.length := by omega
  have n3 : ¬ (20000 : Int) < (insSum p.blks : Int) := by omega
  have q1 : (decide ((0 : Int) ≤ k) && decide ((k : Int) < m.procs.length)) = true := by simp; omega
  rw [q1, cond_true, Int.toNat_natCast, hp]
  simp only
  unfold procOk headOk
  by_cases d1 : p.params < 0
  · simp -implicitDefEqProofs [hb, abin_lss, c0, h2, hl, abin_geq, c1, hix, hall, hst, y2, d1, Int.not_le.2 d1]
  by_cases d2 : 6 < p.params
  · simp -implicitDefEqProofs [hb, abin_lss, c0, h2, hl, abin_geq, c1, hix, hall, hst, y2, d1, abin_gtr, d2, Int.not_le.2 d2]
  by_cases d3 : p.regs < p.params
  · simp -implicitDefEqProofs [hb, abin_lss, c0, h2, hl, abin_geq, c1, hix, hall, hst, y2, d1, abin_gtr, d2, y3, d3, Int.not_le.2 d3]
  by_cases d4 : 8000 < p.regs
  · simp -implicitDefEqProofs [hb, abin_lss, c0, h2, hl, abin_geq, c1, hix, hall, hst, y2, d1, abin_gtr, d2, y3, d3, d4, Int.not_le.2 d4]
  have hloop := hloop (by omega) (by omega)
  cases d5 : p.objs.all slotOk with
  | false => simp -implicitDefEqProofs [hb, abin_lss, c0, h2, hl, abin_geq, c1, hix, hall, hst, y2, d1, abin_gtr, d2, y3, d3, d4, y4, hsl, d5]
  | true =>
  by_cases d6 : (p.blks.length : Int) < 1
  · have d6' : ¬ 1 ≤ p.blks.length := by omega
    simp -implicitDefEqProofs [hb, abin_lss, c0, h2, hl, abin_geq, c1, hix, hall, hst, y2, d1, abin_gtr, d2, y3, d3, d4, y4, hsl, d5, y5, hlb, d6, d6']
  have g : (decide (0 ≤ p.params) && decide (p.params ≤ 6) && decide (p.params ≤ p.regs) && decide (p.regs ≤ 8000) && decide (1 ≤ p.blks.length) && true) = true := by
    simp
    omega
  rw [g, Bool.true_and]
  unfold lp
  cases d7 : p.blks.all (blkOk m p) with
  | false =>
    rw [d7, if_neg (by simp)] at hloop
    simp -implicitDefEqProofs [hb, abin_lss, c0, h2, hl, abin_geq, c1, hix, hall, hst, y2, d1, abin_gtr, d2, y3, d3, d4, y4, hsl, d5, y5, hlb, d6, n2, hloop, bnd_eq]
  | true =>
    rw [d7, if_pos rfl] at hloop
    simp -implicitDefEqProofs [hb, abin_lss, c0, h2, hl, abin_geq, c1, hix, hall, hst, y2, d1, abin_gtr, d2, y3, d3, d4, y4, hsl, d5, y5, hlb, d6, n2, hloop, bnd_eq, n3]
end
end Go.Ev.Tryd

/- The document's answer: modules. -/
set_option maxRecDepth 100000
namespace Go.Ev.Tryd
open Go Go.Ev Go.Proofs
section
variable {d lim : Nat} {H : Heap}
theorem datas20 {m : Mdl} (hF : FewM m) (he : m.datas.length = m.globs.length) {call : ACall} {A : Arena} (hA : A[0]? = some (some ((mD m).map .d))) :
    iterN LB (s9.l0 call 1) [.ptr 0 0 0, vi 0] (A :: H) = some (if (List.range m.datas.length).any (fun k => !dataOk m k) then (.ret, [vi 3], A :: H) else (.exit 0, [.ptr 0 0 0], A :: H)) := by
  have h0 : (mD m)[0]? = some (seqD m.gnl m.globs sD) := rfl
  have h1 : (mD m)[1]? = some (seqD m.dnl m.datas yD) := rfl
  have l1 := seq_len m.dnl m.datas yD
  generalize mD m = R at *
  have h20 := hF.datas
  have key : ∀ k, k < m.datas.length → ∃ (x : Bool × List Int) (s : Slt) (q p : AV) (ps : Nat → AV), m.datas[k]? = some x ∧ m.globs[k]? = some s ∧ ixS 1 (.d (seqD m.dnl m.datas yD)) (vi k) = some q ∧ (∀ H, ld H q = some (.d (seqD x.1 x.2 byD))) ∧
      ixS 4 (.d (seqD m.gnl m.globs sD)) (vi k) = some p ∧ fa 1 p = some (ps 1) ∧ ∀ H, ld H (ps 1) = some (vi s.size) := by
    intro k hk
    obtain ⟨x, hx⟩ : ∃ x, m.datas[k]? = some x := ⟨_, List.getElem?_eq_getElem hk⟩
    obtain ⟨s, hs⟩ : ∃ s, m.globs[k]? = some s := ⟨_, List.getElem?_eq_getElem (by omega)⟩
    obtain ⟨q, h1, h2⟩ := seq_one (nl := m.dnl) (f := fun x : Bool × List Int => seqD x.1 x.2 byD) hx
    obtain ⟨p, ps, rr⟩ := seq_row (nl := m.gnl) (f := sD) (s := 4) (fun _ => rfl) hs
    exact ⟨x, s, q, p, ps, hx, hs, h1, h2, rr.ix, rr.fa 1, fun H => rr.cell H 1 _ rfl⟩
  refine iter_any (n := m.datas.length) (fun k => [.ptr 0 0 0, vi k]) (fun k => !dataOk m k) (by omega) (fun k hk hp => ?_) (fun k hk hp => ?_) (by simp) ?_ (by simp)
  · obtain ⟨x, s, q, p, ps, hx, hs, g1, g2, g3, g4, g5⟩ := key k hk
    have hi : (k : Int) < m.datas.length := by omega
    have hl := seq_len x.1 x.2 byD
    have w := wrap_ok ((k : Int) + 1) (by omega) (by omega)
    have hq : (x.2.length : Int) = s.size := by simpa [dataOk, dataLen, hx, sizeAt_eq hs] using hp
    unfold s9.l0
    simp -implicitDefEqProofs [hA, h1, l1, abin_lss, hi, g1, g2, hl, h0, g3, g4, g5, abin_neq, hq, abin_add, w]
  · obtain ⟨x, s, q, p, ps, hx, hs, g1, g2, g3, g4, g5⟩ := key k hk
    have hi : (k : Int) < m.datas.length := by omega
    have hl := seq_len x.1 x.2 byD
    have hq : ¬ (x.2.length : Int) = s.size := by simpa [dataOk, dataLen, hx, sizeAt_eq hs] using hp
    unfold s9.l0
    simp -implicitDefEqProofs [hA, h1, l1, abin_lss, hi, g1, g2, hl, h0, g3, g4, g5, abin_neq, hq]
  · unfold s9.l0
    simp -implicitDefEqProofs [hA, h1, l1, abin_lss]
theorem procs20 {m : Mdl} (hF : FewM m) {A : Arena} (hA : A[0]? = some (some ((mD m).map .d))) :
    iterN LB (s9.l1 (evCall Tryd.prog C (d + 3) 1) 1) [.ptr 0 0 0, vi 0] (A :: H) = some (if (List.range m.procs.length).any (fun k => !decide (procE m k = 0)) then (.ret, [vi 3], A :: H) else (.exit 2, [], A :: H)) := by
  have hpr := fun (n : Int) (H : Heap) => proc44 (d := d) (lim := 1) (H := H) (m := m) hF (n := n)
  have hc := cut_data (r := mD m) (n := 4) rfl
  have h2 : (mD m)[2]? = some (seqD m.pnl m.procs pD) := rfl
  have l2 := seq_len m.pnl m.procs pD
  generalize mD m = R at *
  have h6 := hF.procs
  refine iter_any (n := m.procs.length) (fun k => [.ptr 0 0 0, vi k]) (fun k => !decide (procE m k = 0)) (by omega) (fun k hk hp => ?_) (fun k hk hp => ?_) (by simp) ?_ (by simp)
  · have hi : (k : Int) < m.procs.length := by omega
    have w := wrap_ok ((k : Int) + 1) (by omega) (by omega)
    have hq : procE m k = 0 := by simpa using hp
    unfold s9.l1
    simp -implicitDefEqProofs [hA, h2, l2, abin_lss, hi, hc, hpr, abin_neq, hq, abin_add, w]
  · have hi : (k : Int) < m.procs.length := by omega
    have hq : ¬ procE m k = 0 := by simpa using hp
    unfold s9.l1
    simp -implicitDefEqProofs [hA, h2, l2, abin_lss, hi, hc, hpr, abin_neq, hq]
  · unfold s9.l1
    simp -implicitDefEqProofs [hA, h2, l2, abin_lss]
set_option maxHeartbeats 4000000 in
theorem check20 {m : Mdl} (hF : FewM m) : evCall Tryd.prog C (d + 4) lim 9 [.agg ((mD m).map .d)] H = some (vi (modE m), H) := by
  rw [evCall_pureEq (fi := fi9) rfl rfl (b9 _ _ _ _), up_data]
  unfold s9
  have hb := bx_data (r := mD m) (A := []) (H := H)
  have h0 : (mD m)[0]? = some (seqD m.gnl m.globs sD) := rfl
  have h1 : (mD m)[1]? = some (seqD m.dnl m.datas yD) := rfl
  have h2 : (mD m)[2]? = some (seqD m.pnl m.procs pD) := rfl
  have h3 : (mD m)[3]? = some (.int .i64 m.main) := rfl
  have l0 := seq_len m.gnl m.globs sD
  have l1 := seq_len m.dnl m.datas yD
  have l2 := seq_len m.pnl m.procs pD
  have hsl := fun H => slots43 (d := d + 2) (lim := 1) (H := H) (nl := m.gnl) (L := m.globs) (by have := hF.globs; omega) (n := 200) (by decide)
  have hd := fun he => datas20 (H := H) hF he (call := evCall Tryd.prog C (d + 3) 1) (A := [some ((mD m).map .d)]) rfl
  have hp := procs20 (d := d) (H := H) hF (A := [some ((mD m).map .d)]) rfl
  generalize mD m = R at *
  have p6 := hF.procs
  have n2 : ¬ (200 : Int) < m.procs.length := by omega
  unfold modE modOk topOk
  by_cases c0 : (m.datas.length : Int) = m.globs.length
  rotate_left
  · have : ¬ m.datas.length = m.globs.length := by omega
    simp -implicitDefEqProofs [hb, h1, l1, h0, l0, abin_neq, c0, this]
  have c0' : m.datas.length = m.globs.length := by omega
  cases c1 : m.globs.all slotOk with
  | false => simp -implicitDefEqProofs [hb, h1, l1, h0, l0, abin_neq, c0, hsl, c1]
  | true =>
  by_cases c2 : (m.procs.length : Int) < 1
  · have : ¬ 1 ≤ m.procs.length := by omega
    simp -implicitDefEqProofs [hb, h1, l1, h0, l0, abin_neq, c0, hsl, c1, h2, l2, abin_lss, c2, this]
  by_cases c3 : m.main < 0
  · have : ¬ 0 ≤ m.main := by omega
    simp -implicitDefEqProofs [hb, h1, l1, h0, l0, abin_neq, c0, abin_gtr, hsl, c1, h2, l2, abin_lss, c2, n2, h3, c3, this]
  by_cases c4 : (m.procs.length : Int) ≤ m.main
  · have : ¬ m.main < m.procs.length := by omega
    simp -implicitDefEqProofs [hb, h1, l1, h0, l0, abin_neq, c0, abin_gtr, hsl, c1, h2, l2, abin_lss, c2, n2, h3, c3, abin_geq, c4, this]
  have g : (decide (m.datas.length = m.globs.length) && true && decide (1 ≤ m.procs.length) && decide (0 ≤ m.main) && decide (m.main < m.procs.length)) = true := by
    simp
    omega
  rw [g, Bool.true_and]
  have hd := hd c0'
  cases c5 : (List.range m.datas.length).any (fun k => !dataOk m k) with
  | true =>
    rw [c5, if_pos rfl] at hd
    unfold lp
    simp -implicitDefEqProofs [hb, h1, l1, h0, l0, abin_neq, c0, abin_gtr, hsl, c1, h2, l2, abin_lss, c2, n2, h3, c3, abin_geq, c4, hd, bnd_eq]
  | false =>
  rw [c5, if_neg (by simp)] at hd
  obtain ⟨k, hk⟩ : ∃ k : Nat, m.main = k := ⟨m.main.toNat, by omega⟩
  have hlt : k < m.procs.length := by omega
  obtain ⟨p, hpp⟩ : ∃ p, m.procs[k]? = some p := ⟨_, List.getElem?_eq_getElem hlt⟩
  obtain ⟨q, qs, rr⟩ := seq_row (nl := m.pnl) (f := pD) (s := 6) (fun _ => rfl) hpp
  have hix := rr.ix
  have hfa := rr.fa
  have y1 := fun H => rr.cell H 1 (.bool p.void) rfl
  have y2 := fun H => rr.cell H 2 (.int .i64 p.params) rfl
  have hm : mainOk m = (decide (p.params = 0) && !p.void) := by
    unfold mainOk
    rw [hk, Int.toNat_natCast, hpp]
  rw [hm]
  rw [hk] at h3 c3 c4
  unfold lp
  by_cases c6 : p.params = 0
  rotate_left
  · simp -implicitDefEqProofs [hb, h1, l1, h0, l0, abin_neq, c0, abin_gtr, hsl, c1, h2, l2, abin_lss, c2, n2, h3, c3, abin_geq, c4, hd, bnd_eq, hix, hfa, y2, c6]
  cases c7 : p.void with
  | true => simp -implicitDefEqProofs [hb, h1, l1, h0, l0, abin_neq, c0, abin_gtr, hsl, c1, h2, l2, abin_lss, c2, n2, h3, c3, abin_geq, c4, hd, bnd_eq, hix, hfa, y2, c6, y1, c7]
  | false =>
  cases c8 : (List.range m.procs.length).any (fun k => !decide (procE m k = 0)) with
  | true =>
    rw [c8, if_pos rfl] at hp
    simp -implicitDefEqProofs [hb, h1, l1, h0, l0, abin_neq, c0, abin_gtr, hsl, c1, h2, l2, abin_lss, c2, n2, h3, c3, abin_geq, c4, hd, bnd_eq, hix, hfa, y2, c6, y1, c7, hp]
  | false =>
    rw [c8, if_neg (by simp)] at hp
    simp -implicitDefEqProofs [hb, h1, l1, h0, l0, abin_neq, c0, abin_gtr, hsl, c1, h2, l2, abin_lss, c2, n2, h3, c3, abin_geq, c4, hd, bnd_eq, hix, hfa, y2, c6, y1, c7, hp]
end
end Go.Ev.Tryd

/- What is few: instructions. -/
set_option maxRecDepth 100000
namespace Go.Ev.Tryd
open Go Go.Ev Go.Proofs
/-- A number that is too long. -/
def farN (n : Int) : Bool := decide (1099511627776 < n) || decide (n < -1099511627776)
def numsI (i : Ins) : List Int := [i.op, i.d, i.a, i.b, i.fn, i.obj, i.off, i.size]
def insFew (i : Ins) : Bool := !((numsI i).any farN) && !(i.args.any farN) && decide (i.args.length ≤ 12)
theorem any_any {α : Type} (z : α) (l : List α) (f : α → Bool) : (List.range l.length).any (fun k => f ((l[k]?).getD z)) = l.any f := by
  rw [Bool.eq_iff_iff]
  simp only [List.any_eq_true, List.mem_range]
  constructor
  · rintro ⟨k, hk, h⟩
    rw [List.getElem?_eq_getElem hk] at h
    exact ⟨l[k], List.getElem_mem hk, by simpa using h⟩
  · rintro ⟨x, hx, h⟩
    obtain ⟨k, hk, rfl⟩ := List.getElem_of_mem hx
    exact ⟨k, hk, by rw [List.getElem?_eq_getElem hk]; simpa using h⟩
theorem bldS_8 (x0 x1 x2 x3 x4 x5 x6 x7 : Int) (A : Arena) (H : Heap) :
    bldS 1 8 [vi 0] [(0, vi x0), (1, vi x1), (2, vi x2), (3, vi x3), (4, vi x4), (5, vi x5), (6, vi x6), (7, vi x7)] (A :: H) =
      some (.sl 0 A.length 0 8 1, (A ++ [some ([x0, x1, x2, x3, x4, x5, x6, x7].map vi)]) :: H) := by kernel_rfl
section
variable {d lim : Nat} {H : Heap}
theorem nums17 {call : ACall} {i : Ins} {X : Option (List AV)} : iterN LB (s12.l0 call 1) [.ptr 0 0 0, .sl 0 1 0 8 1, vi 0] ([X, some ((numsI i).map vi)] :: H) =
    some (if (numsI i).any farN then (.ret, [vb false], [X, some ((numsI i).map vi)] :: H) else (.exit 0, [.ptr 0 0 0], [X, some ((numsI i).map vi)] :: H)) := by
  have hlen : (numsI i).length = 8 := rfl
  rw [← any_any 0 (numsI i) farN, hlen]
  generalize numsI i = L at *
  refine iter_any (n := 8) (fun k => [.ptr 0 0 0, .sl 0 1 0 8 1, vi k]) (fun k => farN ((L[k]?).getD 0)) (by omega) (fun k hk hp => ?_) (fun k hk hp => ?_) (by simp) ?_ (by simp)
  · obtain ⟨x, hx⟩ : ∃ x, L[k]? = some x := ⟨_, List.getElem?_eq_getElem (by omega)⟩
    have hi : (k : Int) < 8 := by omega
    have hix : ixS 1 (.sl 0 1 0 8 1) (vi k) = some (.ptr 0 1 k) := by simp [inB_nat hk]
    have w := wrap_ok ((k : Int) + 1) (by omega) (by omega)
    rw [hx] at hp
    simp [farN] at hp
    unfold s12.l0
    simp -implicitDefEqProofs [abin_lss, hi, hix, hx, abin_gtr, Int.not_lt.2 hp.1, Int.not_lt.2 hp.2, abin_add, w]
  · obtain ⟨x, hx⟩ : ∃ x, L[k]? = some x := ⟨_, List.getElem?_eq_getElem (by omega)⟩
    have hi : (k : Int) < 8 := by omega
    have hix : ixS 1 (.sl 0 1 0 8 1) (vi k) = some (.ptr 0 1 k) := by simp [inB_nat hk]
    rw [hx] at hp
    simp [farN] at hp
    unfold s12.l0
    by_cases h1 : 1099511627776 < x
    · simp -implicitDefEqProofs [abin_lss, hi, hix, hx, abin_gtr, h1]
    · have h2 : x < -1099511627776 := by omega
      simp -implicitDefEqProofs [abin_lss, hi, hix, hx, abin_gtr, h1, h2]
  · unfold s12.l0
    simp -implicitDefEqProofs [abin_lss]
theorem args17 {call : ACall} {i : Ins} (hn : i.args.length ≤ 9223372036854775807) {A : Arena} (hI : A[0]? = some (some ((iD i).map .d))) : iterN LB (s12.l1 call 1) [.ptr 0 0 0, vi 0] (A :: H) =
    some (if i.args.any farN then (.ret, [vb false], A :: H) else (.exit 2, [.ptr 0 0 0], A :: H)) := by
  have x9 : (iD i)[9]? = some (seqD i.anl i.args nD) := rfl
  have hl9 := seq_len i.anl i.args nD
  generalize iD i = I at *
  rw [← any_any 0 i.args farN]
  refine iter_any (n := i.args.length) (fun k => [.ptr 0 0 0, vi k]) (fun k => farN ((i.args[k]?).getD 0)) (by omega) (fun k hk hp => ?_) (fun k hk hp => ?_) (by simp) ?_ (by simp)
  · obtain ⟨x, hx⟩ : ∃ x, i.args[k]? = some x := ⟨_, List.getElem?_eq_getElem hk⟩
    obtain ⟨q, hix, hld⟩ := seq_one (nl := i.anl) (f := fun n => D.int .i64 n) hx
    have hix' : ixS 1 (.d (seqD i.anl i.args nD)) (vi k) = some q := hix
    have hi : (k : Int) < i.args.length := by omega
    have w := wrap_ok ((k : Int) + 1) (by omega) (by omega)
    rw [hx] at hp
    simp [farN] at hp
    unfold s12.l1
    simp -implicitDefEqProofs [hI, x9, hl9, abin_lss, hi, hix', hld, abin_gtr, Int.not_lt.2 hp.1, Int.not_lt.2 hp.2, abin_add, w]
  · obtain ⟨x, hx⟩ : ∃ x, i.args[k]? = some x := ⟨_, List.getElem?_eq_getElem hk⟩
    obtain ⟨q, hix, hld⟩ := seq_one (nl := i.anl) (f := fun n => D.int .i64 n) hx
    have hix' : ixS 1 (.d (seqD i.anl i.args nD)) (vi k) = some q := hix
    have hi : (k : Int) < i.args.length := by omega
    rw [hx] at hp
    simp [farN] at hp
    unfold s12.l1
    by_cases h1 : 1099511627776 < x
    · simp -implicitDefEqProofs [hI, x9, hl9, abin_lss, hi, hix', hld, abin_gtr, h1]
    · have h2 : x < -1099511627776 := by omega
      simp -implicitDefEqProofs [hI, x9, hl9, abin_lss, hi, hix', hld, abin_gtr, h1, h2]
  · unfold s12.l1
    simp -implicitDefEqProofs [hI, x9, hl9, abin_lss]
theorem ins17 {i : Ins} (hn : i.args.length ≤ 9223372036854775807) : evCall Tryd.prog C (d + 1) lim 12 [.agg ((iD i).map .d)] H = some (vb (insFew i), H) := by
  rw [evCall_pureEq (fi := fi12) rfl rfl (b12 _ _ _ _), up_data]
  unfold s12
  have hb := bx_data (r := iD i) (A := []) (H := H)
  have x0 : (iD i)[0]? = some (.int .i64 i.op) := rfl
  have x1 : (iD i)[1]? = some (.int .i64 i.d) := rfl
  have x2 : (iD i)[2]? = some (.int .i64 i.a) := rfl
  have x3 : (iD i)[3]? = some (.int .i64 i.b) := rfl
  have x4 : (iD i)[4]? = some (.int .i64 i.fn) := rfl
  have x5 : (iD i)[5]? = some (.int .i64 i.obj) := rfl
  have x6 : (iD i)[6]? = some (.int .i64 i.off) := rfl
  have x7 : (iD i)[7]? = some (.int .i64 i.size) := rfl
  have x9 : (iD i)[9]? = some (seqD i.anl i.args nD) := rfl
  have hl9 := seq_len i.anl i.args nD
  have h1 := nums17 (H := H) (call := evCall Tryd.prog C d 1) (i := i) (X := some ((iD i).map .d))
  have h2 := args17 (H := H) (call := evCall Tryd.prog C d 1) (i := i) hn (A := [some ((iD i).map .d), some ((numsI i).map vi)]) rfl
  have hB := bldS_8 i.op i.d i.a i.b i.fn i.obj i.off i.size [some ((iD i).map .d)] H
  replace hB : _ = some (AV.sl 0 1 0 8 1, [some ((iD i).map .d), some ((numsI i).map vi)] :: H) := hB
  generalize (numsI i).map vi = Z at *
  generalize iD i = I at *
  unfold insFew lp
  cases c1 : (numsI i).any farN with
  | true =>
    rw [c1, if_pos rfl] at h1
    simp -implicitDefEqProofs [hb, x0, x1, x2, x3, x4, x5, x6, x7, hB, h1, bnd_eq]
  | false =>
    rw [c1, if_neg (by simp)] at h1
    cases c2 : i.args.any farN with
    | true =>
      rw [c2, if_pos rfl] at h2
      simp -implicitDefEqProofs [hb, x0, x1, x2, x3, x4, x5, x6, x7, hB, h1, bnd_eq, h2]
    | false =>
      rw [c2, if_neg (by simp)] at h2
      have hle : ((i.args.length : Int) ≤ 12) = (i.args.length ≤ 12) := by rw [eq_iff_iff]; omega
      simp -implicitDefEqProofs [hb, x0, x1, x2, x3, x4, x5, x6, x7, hB, h1, bnd_eq, h2, x9, hl9, abin_leq, hle]
end
end Go.Ev.Tryd

/- What is few: modules. -/
set_option maxRecDepth 100000
namespace Go.Ev.Tryd
open Go Go.Ev Go.Proofs
instance : Inhabited Blk := ⟨⟨true, [], 0, 0, 0, 0⟩⟩
instance : Inhabited Prc := ⟨⟨⟨#[]⟩, false, 0, 0, true, [], true, []⟩⟩
/-- No list is longer than can be. -/
structure LenOk (m : Mdl) : Prop where
  procs : m.procs.length ≤ 9223372036854775807
  globs : m.globs.length ≤ 9223372036854775807
  datas : m.datas.length ≤ 9223372036854775807
  blks : ∀ p ∈ m.procs, p.blks.length ≤ 9223372036854775807 ∧ p.objs.length ≤ 9223372036854775807
  ins : ∀ p ∈ m.procs, ∀ b ∈ p.blks, b.ins.length ≤ 9223372036854775807
  args : ∀ p ∈ m.procs, ∀ b ∈ p.blks, ∀ i ∈ b.ins, i.args.length ≤ 9223372036854775807
def blkFew (b : Blk) : Bool := decide (b.ins.length ≤ 60) && b.ins.all insFew
def prcFew (p : Prc) : Bool := decide (p.blks.length ≤ 40) && decide (p.objs.length ≤ 20) && p.blks.all blkFew
def mdlFew (m : Mdl) : Bool := decide (m.procs.length ≤ 6) && decide (m.globs.length ≤ 20) && decide (m.datas.length ≤ 20) && m.procs.all prcFew
theorem mdlFew_ok {m : Mdl} (h : mdlFew m = true) : FewM m := by
  simp [mdlFew, prcFew, blkFew, insFew] at h
  obtain ⟨⟨⟨h1, h2⟩, h3⟩, h4⟩ := h
  exact ⟨h1, h2, h3, fun p hp => ⟨(h4 p hp).1.1, (h4 p hp).1.2, fun b hb => ((h4 p hp).2 b hb).1, fun b hb i hi => (((h4 p hp).2 b hb).2 i hi).2⟩⟩
section
variable {d lim : Nat} {H : Heap}
theorem ins7 {m : Mdl} {p : Prc} {b : Blk} {a k : Nat} (hp : m.procs[a]? = some p) (hb : p.blks[k]? = some b) (hn : b.ins.length ≤ 60) (ha : ∀ i ∈ b.ins, i.args.length ≤ 9223372036854775807) :
    iterN LB (s6.l0 (evCall Tryd.prog C (d + 1) 1) 1) [.ptr 0 0 0, vi a, vi k, vi 0] ([some ((mD m).map .d)] :: H) =
      some (if b.ins.all insFew then (.exit 4, [.ptr 0 0 0, vi a, vi k], [some ((mD m).map .d)] :: H) else (.ret, [vb false], [some ((mD m).map .d)] :: H)) := by
  have hins := fun (i : Ins) (hi : i.args.length ≤ 9223372036854775807) (H : Heap) => ins17 (d := d) (lim := 1) (H := H) (i := i) hi
  have h2 : (mD m)[2]? = some (seqD m.pnl m.procs pD) := rfl
  generalize mD m = R at *
  obtain ⟨q, qs, rr⟩ := seq_row (nl := m.pnl) (f := pD) (s := 6) (fun _ => rfl) hp
  have hix := rr.ix
  have hfa := rr.fa
  have c5 := fun H => rr.cell H 5 (seqD p.bnl p.blks bD) rfl
  obtain ⟨q2, qs2, rr2⟩ := seq_row (nl := p.bnl) (f := bD) (s := 5) (fun _ => rfl) hb
  have hix2 := rr2.ix
  have hfa2 := rr2.fa
  have c0 := fun H => rr2.cell H 0 (seqD b.inl b.ins iD) rfl
  have hl := seq_len b.inl b.ins iD
  rw [show (if b.ins.all insFew then _ else _) = (if (List.range b.ins.length).any (fun j => !insFew ((b.ins[j]?).getD default)) then ((.ret, [vb false], [some (R.map .d)] :: H) : Res) else (.exit 4, [.ptr 0 0 0, vi a, vi k], [some (R.map .d)] :: H)) by
    rw [any_all]
    cases b.ins.all insFew <;> rfl]
  refine iter_any (n := b.ins.length) (fun j => [.ptr 0 0 0, vi a, vi k, vi j]) (fun j => !insFew ((b.ins[j]?).getD default)) (by omega) (fun j hj hp => ?_) (fun j hj hp => ?_) (by simp) ?_ (by simp)
  · obtain ⟨i, hi'⟩ : ∃ i, b.ins[j]? = some i := ⟨_, List.getElem?_eq_getElem hj⟩
    obtain ⟨q3, qs3, rr3⟩ := seq_row (nl := b.inl) (f := iD) (s := 11) (fun _ => rfl) hi'
    have hi : (j : Int) < b.ins.length := by omega
    have hix3 := rr3.ix
    have hall3 := rr3.all
    have w := wrap_ok ((j : Int) + 1) (by omega) (by omega)
    have hcall := hins i (ha i (List.mem_of_getElem? hi'))
    have hk : insFew i = true := by simpa [hi'] using hp
    unfold s6.l0
    simp -implicitDefEqProofs [h2, hix, hfa, c5, hix2, hfa2, c0, hl, abin_lss, hi, hix3, hall3, hcall, hk, abin_add, w]
  · obtain ⟨i, hi'⟩ : ∃ i, b.ins[j]? = some i := ⟨_, List.getElem?_eq_getElem hj⟩
    obtain ⟨q3, qs3, rr3⟩ := seq_row (nl := b.inl) (f := iD) (s := 11) (fun _ => rfl) hi'
    have hi : (j : Int) < b.ins.length := by omega
    have hix3 := rr3.ix
    have hall3 := rr3.all
    have hcall := hins i (ha i (List.mem_of_getElem? hi'))
    have hk : insFew i = false := by simpa [hi'] using hp
    unfold s6.l0
    simp -implicitDefEqProofs [h2, hix, hfa, c5, hix2, hfa2, c0, hl, abin_lss, hi, hix3, hall3, hcall, hk]
  · unfold s6.l0
    simp -implicitDefEqProofs [h2, hix, hfa, c5, hix2, hfa2, c0, hl, abin_lss]
theorem blks7 {m : Mdl} (hm : LenOk m) {p : Prc} {a : Nat} (hp : m.procs[a]? = some p) (hn : p.blks.length ≤ 40) :
    iterN LB (s6.l1 (evCall Tryd.prog C (d + 1) 1) 1) [.ptr 0 0 0, vi a, vi 0] ([some ((mD m).map .d)] :: H) =
      some (if p.blks.all blkFew then (.exit 2, [.ptr 0 0 0, vi a], [some ((mD m).map .d)] :: H) else (.ret, [vb false], [some ((mD m).map .d)] :: H)) := by
  have hmem := List.mem_of_getElem? hp
  have hin := fun (k : Nat) (b : Blk) (hb : p.blks[k]? = some b) (h60 : b.ins.length ≤ 60) => ins7 (d := d) (H := H) hp hb h60 (hm.args p hmem b (List.mem_of_getElem? hb))
  have h2 : (mD m)[2]? = some (seqD m.pnl m.procs pD) := rfl
  generalize mD m = R at *
  obtain ⟨q, qs, rr⟩ := seq_row (nl := m.pnl) (f := pD) (s := 6) (fun _ => rfl) hp
  have hix := rr.ix
  have hfa := rr.fa
  have c5 := fun H => rr.cell H 5 (seqD p.bnl p.blks bD) rfl
  have hl := seq_len p.bnl p.blks bD
  rw [show (if p.blks.all blkFew then _ else _) = (if (List.range p.blks.length).any (fun j => !blkFew ((p.blks[j]?).getD default)) then ((.ret, [vb false], [some (R.map .d)] :: H) : Res) else (.exit 2, [.ptr 0 0 0, vi a], [some (R.map .d)] :: H)) by
    rw [any_all]
    cases p.blks.all blkFew <;> rfl]
  refine iter_any (n := p.blks.length) (fun k => [.ptr 0 0 0, vi a, vi k]) (fun j => !blkFew ((p.blks[j]?).getD default)) (by omega) (fun k hk hp => ?_) (fun k hk hp => ?_) (by simp) ?_ (by simp)
  · obtain ⟨b, hb⟩ : ∃ b, p.blks[k]? = some b := ⟨_, List.getElem?_eq_getElem hk⟩
    obtain ⟨q2, qs2, rr2⟩ := seq_row (nl := p.bnl) (f := bD) (s := 5) (fun _ => rfl) hb
    have hix2 := rr2.ix
    have hfa2 := rr2.fa
    have c0 := fun H => rr2.cell H 0 (seqD b.inl b.ins iD) rfl
    have hl2 := seq_len b.inl b.ins iD
    have hi : (k : Int) < p.blks.length := by omega
    have w := wrap_ok ((k : Int) + 1) (by omega) (by omega)
    have hf : blkFew b = true := by simpa [hb] using hp
    simp [blkFew] at hf
    have hall : b.ins.all insFew = true := List.all_eq_true.2 hf.2
    have h60 : ¬ (60 : Int) < b.ins.length := by omega
    have hloop := hin k b hb hf.1
    rw [hall, if_pos rfl] at hloop
    unfold s6.l1 lp
    simp -implicitDefEqProofs [h2, hix, hfa, c5, hl, abin_lss, hi, hix2, hfa2, c0, hl2, abin_gtr, h60, hloop, bnd_eq, abin_add, w]
  · obtain ⟨b, hb⟩ : ∃ b, p.blks[k]? = some b := ⟨_, List.getElem?_eq_getElem hk⟩
    obtain ⟨q2, qs2, rr2⟩ := seq_row (nl := p.bnl) (f := bD) (s := 5) (fun _ => rfl) hb
    have hix2 := rr2.ix
    have hfa2 := rr2.fa
    have c0 := fun H => rr2.cell H 0 (seqD b.inl b.ins iD) rfl
    have hl2 := seq_len b.inl b.ins iD
    have hi : (k : Int) < p.blks.length := by omega
    have hf : blkFew b = false := by simpa [hb] using hp
    unfold s6.l1 lp
    by_cases h60 : (60 : Int) < b.ins.length
    · simp -implicitDefEqProofs [h2, hix, hfa, c5, hl, abin_lss, hi, hix2, hfa2, c0, hl2, abin_gtr, h60]
    · have hle : b.ins.length ≤ 60 := by omega
      have hall : b.ins.all insFew = false := by
        have : (decide (b.ins.length ≤ 60)) = true := by simpa using hle
        unfold blkFew at hf
        rw [this, Bool.true_and] at hf
        exact hf
      have hloop := hin k b hb hle
      rw [hall, if_neg (by simp)] at hloop
      simp -implicitDefEqProofs [h2, hix, hfa, c5, hl, abin_lss, hi, hix2, hfa2, c0, hl2, abin_gtr, h60, hloop, bnd_eq]
  · unfold s6.l1
    simp -implicitDefEqProofs [h2, hix, hfa, c5, hl, abin_lss]
end
end Go.Ev.Tryd

/- Few. -/
set_option maxRecDepth 100000
namespace Go.Ev.Tryd
open Go Go.Ev Go.Proofs
section
variable {d lim : Nat} {H : Heap}
theorem procs7 {m : Mdl} (hm : LenOk m) (hn : m.procs.length ≤ 6) :
    iterN LB (s6.l2 (evCall Tryd.prog C (d + 1) 1) 1) [.ptr 0 0 0, vi 0] ([some ((mD m).map .d)] :: H) =
      some (if m.procs.all prcFew then (.exit 0, [], [some ((mD m).map .d)] :: H) else (.ret, [vb false], [some ((mD m).map .d)] :: H)) := by
  have hin := fun (a : Nat) (p : Prc) (hp : m.procs[a]? = some p) (h40 : p.blks.length ≤ 40) => blks7 (d := d) (H := H) hm hp h40
  have h2 : (mD m)[2]? = some (seqD m.pnl m.procs pD) := rfl
  generalize mD m = R at *
  have hl := seq_len m.pnl m.procs pD
  rw [show (if m.procs.all prcFew then _ else _) = (if (List.range m.procs.length).any (fun j => !prcFew ((m.procs[j]?).getD default)) then ((.ret, [vb false], [some (R.map .d)] :: H) : Res) else (.exit 0, [], [some (R.map .d)] :: H)) by
    rw [any_all]
    cases m.procs.all prcFew <;> rfl]
  refine iter_any (n := m.procs.length) (fun k => [.ptr 0 0 0, vi k]) (fun j => !prcFew ((m.procs[j]?).getD default)) (by omega) (fun k hk hp => ?_) (fun k hk hp => ?_) (by simp) ?_ (by simp)
  · obtain ⟨p, hb⟩ : ∃ p, m.procs[k]? = some p := ⟨_, List.getElem?_eq_getElem hk⟩
    obtain ⟨q, qs, rr⟩ := seq_row (nl := m.pnl) (f := pD) (s := 6) (fun _ => rfl) hb
    have hix := rr.ix
    have hfa := rr.fa
    have c5 := fun H => rr.cell H 5 (seqD p.bnl p.blks bD) rfl
    have c4 := fun H => rr.cell H 4 (seqD p.onl p.objs sD) rfl
    have hl5 := seq_len p.bnl p.blks bD
    have hl4 := seq_len p.onl p.objs sD
    have hi : (k : Int) < m.procs.length := by omega
    have w := wrap_ok ((k : Int) + 1) (by omega) (by omega)
    have hf : prcFew p = true := by simpa [hb] using hp
    simp [prcFew] at hf
    have hall : p.blks.all blkFew = true := List.all_eq_true.2 hf.2
    have h40 : ¬ (40 : Int) < p.blks.length := by omega
    have h20 : ¬ (20 : Int) < p.objs.length := by omega
    have hloop := hin k p hb hf.1.1
    rw [hall, if_pos rfl] at hloop
    unfold s6.l2 lp
    simp -implicitDefEqProofs [h2, hl, abin_lss, hi, hix, hfa, c5, hl5, abin_gtr, h40, c4, hl4, h20, hloop, bnd_eq, abin_add, w]
  · obtain ⟨p, hb⟩ : ∃ p, m.procs[k]? = some p := ⟨_, List.getElem?_eq_getElem hk⟩
    obtain ⟨q, qs, rr⟩ := seq_row (nl := m.pnl) (f := pD) (s := 6) (fun _ => rfl) hb
    have hix := rr.ix
    have hfa := rr.fa
    have c5 := fun H => rr.cell H 5 (seqD p.bnl p.blks bD) rfl
    have c4 := fun H => rr.cell H 4 (seqD p.onl p.objs sD) rfl
    have hl5 := seq_len p.bnl p.blks bD
    have hl4 := seq_len p.onl p.objs sD
    have hi : (k : Int) < m.procs.length := by omega
    have hf : prcFew p = false := by simpa [hb] using hp
    unfold s6.l2 lp
    by_cases h40 : (40 : Int) < p.blks.length
    · simp -implicitDefEqProofs [h2, hl, abin_lss, hi, hix, hfa, c5, hl5, abin_gtr, h40]
    · by_cases h20 : (20 : Int) < p.objs.length
      · simp -implicitDefEqProofs [h2, hl, abin_lss, hi, hix, hfa, c5, hl5, abin_gtr, h40, c4, hl4, h20]
      · have e1 : (decide (p.blks.length ≤ 40) && decide (p.objs.length ≤ 20)) = true := by simp; omega
        have hall : p.blks.all blkFew = false := by
          unfold prcFew at hf
          rw [e1, Bool.true_and] at hf
          exact hf
        have hloop := hin k p hb (by omega)
        rw [hall, if_neg (by simp)] at hloop
        simp -implicitDefEqProofs [h2, hl, abin_lss, hi, hix, hfa, c5, hl5, abin_gtr, h40, c4, hl4, h20, hloop, bnd_eq]
  · unfold s6.l2
    simp -implicitDefEqProofs [h2, hl, abin_lss]
theorem few7 {m : Mdl} (hm : LenOk m) : evCall Tryd.prog C (d + 2) lim 6 [.agg ((mD m).map .d)] H = some (vb (mdlFew m), H) := by
  rw [evCall_pureEq (fi := fi6) rfl rfl (b6 _ _ _ _), up_data]
  unfold s6
  have hb := bx_data (r := mD m) (A := []) (H := H)
  have h0 : (mD m)[0]? = some (seqD m.gnl m.globs sD) := rfl
  have h1 : (mD m)[1]? = some (seqD m.dnl m.datas yD) := rfl
  have h2 : (mD m)[2]? = some (seqD m.pnl m.procs pD) := rfl
  have l0 := seq_len m.gnl m.globs sD
  have l1 := seq_len m.dnl m.datas yD
  have l2 := seq_len m.pnl m.procs pD
  have hloop := fun h => procs7 (d := d) (H := H) hm h
  generalize mD m = R at *
  unfold mdlFew lp
  by_cases c1 : (6 : Int) < m.procs.length
  · have : ¬ m.procs.length ≤ 6 := by omega
    simp -implicitDefEqProofs [hb, h2, l2, abin_gtr, c1, this]
  by_cases c2 : (20 : Int) < m.globs.length
  · have : ¬ m.globs.length ≤ 20 := by omega
    simp -implicitDefEqProofs [hb, h2, l2, abin_gtr, c1, h0, l0, c2, this]
  by_cases c3 : (20 : Int) < m.datas.length
  · have : ¬ m.datas.length ≤ 20 := by omega
    simp -implicitDefEqProofs [hb, h2, l2, abin_gtr, c1, h0, l0, c2, h1, l1, c3, this]
  have g : (decide (m.procs.length ≤ 6) && decide (m.globs.length ≤ 20) && decide (m.datas.length ≤ 20)) = true := by simp; omega
  rw [g, Bool.true_and]
  have hloop := hloop (by omega)
  cases c4 : m.procs.all prcFew with
  | true =>
    rw [c4, if_pos rfl] at hloop
    simp -implicitDefEqProofs [hb, h2, l2, abin_gtr, c1, h0, l0, c2, h1, l1, c3, hloop, bnd_eq]
  | false =>
    rw [c4, if_neg (by simp)] at hloop
    simp -implicitDefEqProofs [hb, h2, l2, abin_gtr, c1, h0, l0, c2, h1, l1, c3, hloop, bnd_eq]
end
end Go.Ev.Tryd

/- IrChecks: which modules are valid. -/
set_option maxRecDepth 100000
namespace Go.Ev.Tryd
open Go Go.Ev Go.Proofs Go.RowKit
section
variable {H : Heap}
theorem checks_ok {m : Mdl} (hL : LenOk m) {n : Int} {d : Nat} : evCall Tryd.prog C (d + 100) 1 3 [.agg ((mD m).map .d), vi n] H = some (vb true, H) := by
  rw [evCall_pureEq (fi := fi3) rfl rfl (b3 _ _ _ _ _), up_data]
  unfold s3
  have hb := bx_data (r := mD m) (A := []) (H := H)
  have hcut := cut_data (r := mD m) (n := 4) rfl
  have h6 := fun H => few7 (d := d + 97) (lim := 1) (H := H) hL
  have h7 := fun H => awake_d (d := d) (H := H)
  cases hfew : mdlFew m with
  | false =>
    rw [hfew] at h6
    generalize mD m = MD at *
    simp -implicitDefEqProofs [hb, hcut, h6, h7]
  | true =>
    rw [hfew] at h6
    have hF := mdlFew_ok hfew
    have h8 := fun H => check18 (d := d + 92) (lim := 1) (H := H) hF
    have h9 := fun H => check20 (d := d + 95) (lim := 1) (H := H) hF
    have h10 := fun H => proc38 (d := d + 93) (lim := 1) (H := H) hF (n := n)
    have h11 := fun H => proc44 (d := d + 96) (lim := 1) (H := H) hF (n := n)
    generalize mD m = MD at *
    generalize modE m = e1 at *
    generalize procE m n = e2 at *
    simp -implicitDefEqProofs [hb, hcut, h6, h7, h8, h9, h10, h11, abin_eql]
end
end Go.Ev.Tryd

/- Arguments of this seat's laws; IrChecks: the walk. -/
set_option maxRecDepth 100000
namespace Go.Ev.Tryd
open Go Go.Ev Go.Proofs Go.RowKit
def W (n : Int) : Prop := 0 ≤ n ∧ n < 4294967296
theorem u3 : Tryd.prog.underlying 3 = some (.int .i64) := by kernel_rfl
theorem u42 : Tryd.prog.underlying 42 = some (.int .u32) := by kernel_rfl
theorem follows : Tryd.prog.follows .mixedOrders = true := by kernel_rfl
theorem dok3 {f : Nat} {ds : List D} (h : DOk Tryd.prog (f + 1) 3 ds) : ∃ n, ds = [.int .i64 n] ∧ (Lit.int .i64 n).wf = true := by
  unfold DOk at h
  rw [u3] at h
  exact h
theorem dok42 {f : Nat} {ds : List D} (h : DOk Tryd.prog (f + 1) 42 ds) : ∃ n, ds = [.int .u32 n] ∧ W n := by
  unfold DOk at h
  rw [u42] at h
  obtain ⟨n, h1, h2⟩ := h
  refine ⟨n, h1, ?_⟩
  simp [Lit.wf, IntKind.min, IntKind.max, IntKind.signed, IntKind.bits] at h2
  exact ⟨h2.1, by omega⟩
theorem u9 : Tryd.prog.underlying 9 = some .string := by kernel_rfl
theorem u22 : Tryd.prog.underlying 22 = some (.slice 57) := by kernel_rfl
theorem f57 : fieldTypes Tryd.prog 57 = some [9, 3, 3, 3] := by kernel_rfl
theorem dok9 {f : Nat} {ds : List D} (h : DOk Tryd.prog (f + 1) 9 ds) : ∃ s, ds = [.str s] ∧ s.size ≤ maxLen := by
  unfold DOk at h
  rw [u9] at h
  exact h
theorem dok57 {f : Nat} {ds : List D} (h : DOk Tryd.prog (f + 2) 57 ds) : ∃ s : Slt, ds = sD s := by
  obtain ⟨p, q, rfl, h1, p2, q2, rfl, h2, p3, q3, rfl, h3, p4, q4, rfl, h4, rfl⟩ := dok_struct f57 h
  obtain ⟨s, rfl, _⟩ := dok9 h1
  obtain ⟨a, rfl, _⟩ := dok3 h2
  obtain ⟨b, rfl, _⟩ := dok3 h3
  obtain ⟨c, rfl, _⟩ := dok3 h4
  exact ⟨⟨s, a, b, c⟩, rfl⟩
theorem u4 : Tryd.prog.underlying 4 = some .bool := by kernel_rfl
theorem u5 : Tryd.prog.underlying 5 = some (.int .u8) := by kernel_rfl
theorem u23 : Tryd.prog.underlying 23 = some (.slice 55) := by kernel_rfl
theorem u24 : Tryd.prog.underlying 24 = some (.slice 37) := by kernel_rfl
theorem u43 : Tryd.prog.underlying 43 = some (.slice 3) := by kernel_rfl
theorem u35 : Tryd.prog.underlying 35 = some (.slice 40) := by kernel_rfl
theorem u38 : Tryd.prog.underlying 38 = some (.slice 45) := by kernel_rfl
theorem u55 : Tryd.prog.underlying 55 = some (.slice 5) := by kernel_rfl
theorem f26 : fieldTypes Tryd.prog 26 = some [22, 23, 24, 3] := by kernel_rfl
theorem f37 : fieldTypes Tryd.prog 37 = some [9, 4, 3, 3, 22, 35] := by kernel_rfl
theorem f40 : fieldTypes Tryd.prog 40 = some [38, 3, 3, 3, 3] := by kernel_rfl
theorem f45 : fieldTypes Tryd.prog 45 = some [3, 3, 3, 3, 3, 3, 3, 3, 42, 43, 4] := by kernel_rfl
theorem dok4 {f : Nat} {ds : List D} (h : DOk Tryd.prog (f + 1) 4 ds) : ∃ b, ds = [.bool b] := by
  unfold DOk at h
  rw [u4] at h
  exact h
theorem dok5 {f : Nat} {ds : List D} (h : DOk Tryd.prog (f + 1) 5 ds) : ∃ n, ds = [.int .u8 n] ∧ 0 ≤ n ∧ n < 256 := by
  unfold DOk at h
  rw [u5] at h
  obtain ⟨n, h1, h2⟩ := h
  refine ⟨n, h1, ?_⟩
  simp [Lit.wf, IntKind.min, IntKind.max, IntKind.signed, IntKind.bits] at h2
  exact ⟨h2.1, by omega⟩
theorem list_of {α : Type} {P : List D → Prop} {Q : α → Prop} {g : α → List D} (hq : ∀ r, P r → ∃ a, r = g a ∧ Q a) : ∀ {rows : List (List D)}, (∀ r ∈ rows, P r) → ∃ l : List α, rows = l.map g ∧ ∀ a ∈ l, Q a
  | [], _ => ⟨[], rfl, fun a h => by cases h⟩
  | r :: rows, h => by
    obtain ⟨a, ha, hqa⟩ := hq r (h r (by simp))
    obtain ⟨l, hl, hql⟩ := list_of hq (rows := rows) fun x hx => h x (by simp [hx])
    refine ⟨a :: l, by simp [ha, hl], fun x hx => ?_⟩
    rcases List.mem_cons.1 hx with rfl | hx
    · exact hqa
    · exact hql x hx
theorem dok_slice {α : Type} {Q : α → Prop} {g : α → List D} {t e : TypeId} {f : Nat} {ds : List D} (hu : Tryd.prog.underlying t = some (.slice e)) (hq : ∀ r, DOk Tryd.prog f e r → ∃ a, r = g a ∧ Q a) (h : DOk Tryd.prog (f + 1) t ds) :
    ∃ (nl : Bool) (l : List α), ds = [seqD nl l g] ∧ l.length ≤ 9223372036854775807 ∧ ∀ a ∈ l, Q a := by
  unfold DOk at h
  rw [hu] at h
  rcases h with rfl | ⟨rows, rfl, hl, h⟩
  · exact ⟨true, [], rfl, by simp, fun a h => by cases h⟩
  · obtain ⟨l, rfl, hql⟩ := list_of (g := g) (fun r hr => hq r hr.2) h
    refine ⟨false, l, by simp [seqD, List.flatMap], ?_, hql⟩
    simp only [List.length_map] at hl
    have : maxLen ≤ 9223372036854775807 := by decide
    omega
theorem dok43 {f : Nat} {ds : List D} (h : DOk Tryd.prog (f + 2) 43 ds) : ∃ (nl : Bool) (l : List Int), ds = [seqD nl l nD] ∧ l.length ≤ 9223372036854775807 ∧ ∀ n ∈ l, True :=
  dok_slice u43 (fun r hr => by obtain ⟨n, rfl, _⟩ := dok3 hr; exact ⟨n, rfl, trivial⟩) h
theorem dok55 {f : Nat} {ds : List D} (h : DOk Tryd.prog (f + 2) 55 ds) : ∃ (nl : Bool) (l : List Int), ds = [seqD nl l byD] ∧ l.length ≤ 9223372036854775807 ∧ ∀ n ∈ l, 0 ≤ n ∧ n < 256 :=
  dok_slice u55 (fun r hr => by obtain ⟨n, rfl, hn⟩ := dok5 hr; exact ⟨n, rfl, hn⟩) h
theorem dok45 {f : Nat} {ds : List D} (h : DOk Tryd.prog (f + 3) 45 ds) : ∃ i : Ins, ds = iD i ∧ i.args.length ≤ 9223372036854775807 ∧ W i.num := by
  obtain ⟨p, q, rfl, h1, p2, q2, rfl, h2, p3, q3, rfl, h3, p4, q4, rfl, h4, p5, q5, rfl, h5, p6, q6, rfl, h6, p7, q7, rfl, h7, p8, q8, rfl, h8, p9, q9, rfl, h9, p10, q10, rfl, h10, p11, q11, rfl, h11, rfl⟩ := dok_struct f45 h
  obtain ⟨a1, rfl, _⟩ := dok3 h1
  obtain ⟨a2, rfl, _⟩ := dok3 h2
  obtain ⟨a3, rfl, _⟩ := dok3 h3
  obtain ⟨a4, rfl, _⟩ := dok3 h4
  obtain ⟨a5, rfl, _⟩ := dok3 h5
  obtain ⟨a6, rfl, _⟩ := dok3 h6
  obtain ⟨a7, rfl, _⟩ := dok3 h7
  obtain ⟨a8, rfl, _⟩ := dok3 h8
  obtain ⟨a9, rfl, hw⟩ := dok42 h9
  obtain ⟨nl, l, rfl, hl, _⟩ := dok43 h10
  obtain ⟨b, rfl⟩ := dok4 h11
  exact ⟨⟨a1, a2, a3, a4, a5, a6, a7, a8, a9, nl, l, b⟩, rfl, hl, hw⟩
theorem dok40 {f : Nat} {ds : List D} (h : DOk Tryd.prog (f + 5) 40 ds) : ∃ b : Blk, ds = bD b ∧ b.ins.length ≤ 9223372036854775807 ∧ ∀ i ∈ b.ins, i.args.length ≤ 9223372036854775807 ∧ W i.num := by
  obtain ⟨p, q, rfl, h1, p2, q2, rfl, h2, p3, q3, rfl, h3, p4, q4, rfl, h4, p5, q5, rfl, h5, rfl⟩ := dok_struct f40 h
  obtain ⟨nl, l, rfl, hl, hq⟩ := dok_slice (g := iD) (Q := fun i => i.args.length ≤ 9223372036854775807 ∧ W i.num) u38 (fun r hr => dok45 hr) h1
  obtain ⟨a2, rfl, _⟩ := dok3 h2
  obtain ⟨a3, rfl, _⟩ := dok3 h3
  obtain ⟨a4, rfl, _⟩ := dok3 h4
  obtain ⟨a5, rfl, _⟩ := dok3 h5
  exact ⟨⟨nl, l, a2, a3, a4, a5⟩, rfl, hl, hq⟩
/-- What an argument's lists and numbers keep to. -/
def BlkIn (b : Blk) : Prop := b.ins.length ≤ 9223372036854775807 ∧ ∀ i ∈ b.ins, i.args.length ≤ 9223372036854775807 ∧ W i.num
def PrcIn (p : Prc) : Prop := p.blks.length ≤ 9223372036854775807 ∧ p.objs.length ≤ 9223372036854775807 ∧ ∀ b ∈ p.blks, BlkIn b
theorem dok37 {f : Nat} {ds : List D} (h : DOk Tryd.prog (f + 7) 37 ds) : ∃ p : Prc, ds = pD p ∧ PrcIn p := by
  obtain ⟨p, q, rfl, h1, p2, q2, rfl, h2, p3, q3, rfl, h3, p4, q4, rfl, h4, p5, q5, rfl, h5, p6, q6, rfl, h6, rfl⟩ := dok_struct f37 h
  obtain ⟨s, rfl, _⟩ := dok9 h1
  obtain ⟨b, rfl⟩ := dok4 h2
  obtain ⟨a3, rfl, _⟩ := dok3 h3
  obtain ⟨a4, rfl, _⟩ := dok3 h4
  obtain ⟨onl, ol, rfl, hol, _⟩ := dok_slice (g := sD) (Q := fun _ => True) u22 (fun r hr => by obtain ⟨s, hs⟩ := dok57 hr; exact ⟨s, hs, trivial⟩) h5
  obtain ⟨bnl, bl, rfl, hbl, hb⟩ := dok_slice (g := bD) (Q := BlkIn) u35 (fun r hr => dok40 hr) h6
  exact ⟨⟨s, b, a3, a4, onl, ol, bnl, bl⟩, rfl, hbl, hol, hb⟩
theorem dok26 {f : Nat} {ds : List D} (h : DOk Tryd.prog (f + 9) 26 ds) : ∃ m : Mdl, ds = mD m ∧ LenOk m ∧ (∀ p ∈ m.procs, ∀ b ∈ p.blks, ∀ i ∈ b.ins, W i.num) ∧ (∀ x ∈ m.datas, ∀ y ∈ x.2, 0 ≤ y ∧ y < 256) := by
  obtain ⟨p, q, rfl, h1, p2, q2, rfl, h2, p3, q3, rfl, h3, p4, q4, rfl, h4, rfl⟩ := dok_struct f26 h
  obtain ⟨gnl, gl, rfl, hgl, _⟩ := dok_slice (g := sD) (Q := fun _ => True) u22 (fun r hr => by obtain ⟨s, hs⟩ := dok57 hr; exact ⟨s, hs, trivial⟩) h1
  obtain ⟨dnl, dl, rfl, hdl, hd⟩ := dok_slice (g := yD) (Q := fun x => ∀ y ∈ x.2, 0 ≤ y ∧ y < 256) u23 (fun r hr => by obtain ⟨nl, l, rfl, _, hl⟩ := dok55 hr; exact ⟨(nl, l), rfl, hl⟩) h2
  obtain ⟨pnl, pl, rfl, hpl, hp⟩ := dok_slice (g := pD) (Q := PrcIn) u24 (fun r hr => dok37 hr) h3
  obtain ⟨mn, rfl, _⟩ := dok3 h4
  exact ⟨⟨gnl, gl, dnl, dl, pnl, pl, mn⟩, rfl, ⟨hpl, hgl, hdl, fun p hp' => ⟨(hp p hp').1, (hp p hp').2.1⟩, fun p hp' b hb => ((hp p hp').2.2 b hb).1, fun p hp' b hb i hi => (((hp p hp').2.2 b hb).2 i hi).1⟩,
    fun p hp' b hb i hi => (((hp p hp').2.2 b hb).2 i hi).2, hd⟩
theorem walkIrChecks {ds0 : List D} {d1 : D} {W0 : World} (hL : LT W0) {v0 v1 : Value} (h0 : DOk Tryd.prog 12 26 ds0) (h1 : DOk Tryd.prog 12 3 [d1]) (hv : VRs (IW W0) G0 [.agg (ds0.map .d), .d d1] [v0, v1]) :
    Calls Tryd.prog 3 #[v0, v1] W0 (fun x W' => x = .returned (.bool true) ∧ Below W0.heap.size W0 W') := by
  obtain ⟨m, rfl, hm, _⟩ := dok26 h0
  obtain ⟨n, h1, _⟩ := dok3 h1
  obtain rfl : d1 = .int .i64 n := by simpa using h1
  exact calls_true fitsC follows fits3 hL (checks_ok hm (d := 0)) hv
end Go.Ev.Tryd
