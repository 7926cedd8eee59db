import Derived.Test.YtkbimbpaaikkeaaK8
set_option linter.unusedSimpArgs false
set_option linter.unusedVariables false
/- The document's step (printed by genRnO.py). -/
set_option maxRecDepth 100000
namespace Go.Ev.Try
open Go Go.Ev Go.Proofs
section
variable {d : Nat} {H : Heap} {E : Rf} {A : Arena} {S : List (Nat × Fr)} {s : Ms} {o tv : AV} {R : Nat} {f : Fr}
theorem step22_end (hE : RfOk E) (hM : MdOk E.m) (hI : InOk E.inputs) (h : RefAt E A ((R, f) :: S) s o tv 0 0 false) (hf : FrOk E.m f) (hg : ∀ y ∈ S, WtOk E.m y.2) (hS : S.length < 5000) (hin : s.ins < 1000000) (hol : s.out.length < 1000000) (he : f.i = (getB' (getP E.m f.n) f.b).ins.length) : ∃ A', evCall Try.prog C (d + 6) 1 22 [.ptr 0 E.ri 0] (A :: H) = some (.tup [], A' :: H) ∧ RefR E A' (stepR E.m E.inputs f (S.map (·.2)) s) := by
  rw [evCall_inEq (fi := fi22) rfl rfl (b22 _ _ _ _)]
  unfold s22
  obtain ⟨b, cells, t1, t2, t3, t4, t5, t6, t7⟩ := h.topRead
  have hln : lnS tv = some (vi ((S.length : Int) + 1)) := h.top.len
  have w1 := wrap_ok (S.length : Int) (by omega) (by omega)
  have jr := join_of h.run
  have jb := join_of t3
  have c5 : (E.cells s o tv 0 0 false)[5]? = some tv := rfl
  have c2 : (E.cells s o tv 0 0 false)[2]? = some (.d (seqD E.m.pnl E.m.procs pD)) := rfl
  have hlA := lt_of_get t3
  obtain ⟨p1, q1, u1⟩ := seq_row (nl := E.m.pnl) (f := pD) (s := 6) (fun _ => rfl) (getP_of hf.n)
  have x1 := u1.ix
  have y1 := u1.all
  obtain ⟨p2, q2, u2⟩ := seq_row (nl := (getP E.m f.n).bnl) (f := bD) (s := 5) (fun _ => rfl) (getB_of hf.b)
  have x2 := u2.ix
  have y2 := u2.all
  have r0 : (row (R, f))[0]? = some (vi f.n) := rfl
  have r1 : (row (R, f))[1]? = some (.sl 0 R 0 f.regs.length 1) := rfl
  have r2 : (row (R, f))[2]? = some (vi f.low) := rfl
  have r3 : (row (R, f))[3]? = some (vi f.b) := rfl
  have r4 : (row (R, f))[4]? = some (vi f.i) := rfl
  have pp4 : (pD (getP E.m f.n))[4]? = some (seqD (getP E.m f.n).onl (getP E.m f.n).objs sD) := rfl
  have pp5 : (pD (getP E.m f.n))[5]? = some (seqD (getP E.m f.n).bnl (getP E.m f.n).blks bD) := rfl
  have bb0 : (bD (getB' (getP E.m f.n) f.b))[0]? = some (seqD (getB' (getP E.m f.n) f.b).inl (getB' (getP E.m f.n) f.b).ins iD) := rfl
  have hlb := seq_len (getB' (getP E.m f.n) f.b).inl (getB' (getP E.m f.n) f.b).ins iD
  have s1 := stA_new (n := 5) (lim := 1) (A := A) (H := H) (cs := row (R, f)) (c := [AV.d (.int .i64 0), .d (.seq true 0 []), .d (.int .i64 0), .d (.int .i64 0), .d (.int .i64 0)]) (by decide) rfl rfl rfl
  have h1 := h.push hE [some (row (R, f))]
  have k1 : (A ++ [some (row (R, f))])[A.length]? = some (some (row (R, f))) := by simp
  have l1 : (A ++ [some (row (R, f))]).length = A.length + 1 := by simp
  have v1 : (A ++ [some (row (R, f))])[b]? = some (some cells) := by rw [List.getElem?_append_left hlA]; exact t3
  generalize A ++ [some (row (R, f))] = A1 at *
  have jr1 := join_of h1.run
  have jq1 := join_of k1
  have jrz : ((A1 ++ [some [AV.d (.str ⟨#[]⟩), .d (.bool false), .d (.int .i64 0), .d (.int .i64 0), .d (.seq true 0 []), .d (.seq true 0 [])]])[E.ri]?).join = some (E.cells s o tv 0 0 false) := by rw [List.getElem?_append_left (lt_of_get h1.run)]; exact jr1
  have jqz : ((A1 ++ [some [AV.d (.str ⟨#[]⟩), .d (.bool false), .d (.int .i64 0), .d (.int .i64 0), .d (.seq true 0 []), .d (.seq true 0 [])]])[A.length]?).join = some (row (R, f)) := by rw [List.getElem?_append_left (by omega)]; exact jq1
  have s2 := stA_new (n := 6) (lim := 1) (A := A1) (H := H) (cs := (pD (getP E.m f.n)).map .d) (c := [AV.d (.str ⟨#[]⟩), .d (.bool false), .d (.int .i64 0), .d (.int .i64 0), .d (.seq true 0 []), .d (.seq true 0 [])]) (by decide) (all_leaf_d _) rfl rfl
  have h2 := h1.push hE [some ((pD (getP E.m f.n)).map AV.d)]
  have k2 : (A1 ++ [some ((pD (getP E.m f.n)).map AV.d)])[A1.length]? = some (some ((pD (getP E.m f.n)).map AV.d)) := by simp
  have l2 : (A1 ++ [some ((pD (getP E.m f.n)).map AV.d)]).length = A.length + 2 := by simp [l1]
  have k12 : (A1 ++ [some ((pD (getP E.m f.n)).map AV.d)])[A.length]? = some (some (row (R, f))) := by rw [List.getElem?_append_left (by omega)]; exact k1
  have v2 : (A1 ++ [some ((pD (getP E.m f.n)).map AV.d)])[b]? = some (some cells) := by rw [List.getElem?_append_left (by omega)]; exact v1
  generalize A1 ++ [some ((pD (getP E.m f.n)).map AV.d)] = A2 at *
  have jq2 := join_of k2
  have jq12 := join_of k12
  have s3 := stA_new (n := 5) (lim := 1) (A := A2) (H := H) (cs := (bD (getB' (getP E.m f.n) f.b)).map .d) (c := [AV.d (.seq true 0 []), .d (.int .i64 0), .d (.int .i64 0), .d (.int .i64 0), .d (.int .i64 0)]) (by decide) (all_leaf_d _) rfl rfl
  have h3 := h2.push hE [some ((bD (getB' (getP E.m f.n) f.b)).map AV.d)]
  have k3 : (A2 ++ [some ((bD (getB' (getP E.m f.n) f.b)).map AV.d)])[A2.length]? = some (some ((bD (getB' (getP E.m f.n) f.b)).map AV.d)) := by simp
  have l3 : (A2 ++ [some ((bD (getB' (getP E.m f.n) f.b)).map AV.d)]).length = A.length + 3 := by simp [l2]
  have k13 : (A2 ++ [some ((bD (getB' (getP E.m f.n) f.b)).map AV.d)])[A.length]? = some (some (row (R, f))) := by rw [List.getElem?_append_left (by omega)]; exact k12
  have k23 : (A2 ++ [some ((bD (getB' (getP E.m f.n) f.b)).map AV.d)])[A1.length]? = some (some ((pD (getP E.m f.n)).map AV.d)) := by rw [List.getElem?_append_left (by omega)]; exact k2
  have v3 : (A2 ++ [some ((bD (getB' (getP E.m f.n) f.b)).map AV.d)])[b]? = some (some cells) := by rw [List.getElem?_append_left (by omega)]; exact v2
  generalize A2 ++ [some ((bD (getB' (getP E.m f.n) f.b)).map AV.d)] = A3 at *
  have jq3 := join_of k3
  have jq13 := join_of k13
  have hcut := cut_data (r := bD (getB' (getP E.m f.n) f.b)) (n := 5) rfl
  obtain ⟨A', hc, hr⟩ := end45 (d := d + 3) (H := H) hE hM h3 hf hg (by omega)
  have hst : stepR E.m E.inputs f (S.map (·.2)) s = (if (getB' (getP E.m f.n) f.b).fin = 3 then retR E.m (retV (getB' (getP E.m f.n) f.b) f.regs) (S.map (·.2)) s else .go (⟨f.n, f.regs, f.low, (nextB (getB' (getP E.m f.n) f.b) f.regs).toNat, 0⟩ :: S.map (·.2)) s) := by unfold stepR; rw [if_pos he]
  refine ⟨A', ?_, by rw [hst]; exact hr⟩
  rw [← he] at hlb
  generalize row (R, f) = RW at *
  generalize bD (getB' (getP E.m f.n) f.b) = BD at *
  generalize pD (getP E.m f.n) = PD at *
  simp -implicitDefEqProofs [jr, c5, hln, abin_sub, w1, t6, jb, t7, s1, jr1, c2, jq1, r0, x1, y1, jrz, jqz, s2, jq2, pp5, jq12, r3, x2, y2, s3, jq3, bb0, hlb, jq13, r4, abin_eql, hcut, hc]
theorem step22_1 (hE : RfOk E) (hM : MdOk E.m) (hI : InOk E.inputs) (h : RefAt E A ((R, f) :: S) s o tv 0 0 false) (hf : FrOk E.m f) (hg : ∀ y ∈ S, WtOk E.m y.2) (hS : S.length < 5000) (hin : s.ins < 1000000) (hol : s.out.length < 1000000) (he : f.i ≠ (getB' (getP E.m f.n) f.b).ins.length) (hop : (getI (getB' (getP E.m f.n) f.b) f.i).op = 1) : ∃ A', evCall Try.prog C (d + 6) 1 22 [.ptr 0 E.ri 0] (A :: H) = some (.tup [], A' :: H) ∧ RefR E A' (stepR E.m E.inputs f (S.map (·.2)) s) := by
  rw [evCall_inEq (fi := fi22) rfl rfl (b22 _ _ _ _)]
  unfold s22
  obtain ⟨b, cells, t1, t2, t3, t4, t5, t6, t7⟩ := h.topRead
  have hln : lnS tv = some (vi ((S.length : Int) + 1)) := h.top.len
  have w1 := wrap_ok (S.length : Int) (by omega) (by omega)
  have jr := join_of h.run
  have jb := join_of t3
  have c5 : (E.cells s o tv 0 0 false)[5]? = some tv := rfl
  have c2 : (E.cells s o tv 0 0 false)[2]? = some (.d (seqD E.m.pnl E.m.procs pD)) := rfl
  have hlA := lt_of_get t3
  obtain ⟨p1, q1, u1⟩ := seq_row (nl := E.m.pnl) (f := pD) (s := 6) (fun _ => rfl) (getP_of hf.n)
  have x1 := u1.ix
  have y1 := u1.all
  obtain ⟨p2, q2, u2⟩ := seq_row (nl := (getP E.m f.n).bnl) (f := bD) (s := 5) (fun _ => rfl) (getB_of hf.b)
  have x2 := u2.ix
  have y2 := u2.all
  have r0 : (row (R, f))[0]? = some (vi f.n) := rfl
  have r1 : (row (R, f))[1]? = some (.sl 0 R 0 f.regs.length 1) := rfl
  have r2 : (row (R, f))[2]? = some (vi f.low) := rfl
  have r3 : (row (R, f))[3]? = some (vi f.b) := rfl
  have r4 : (row (R, f))[4]? = some (vi f.i) := rfl
  have pp4 : (pD (getP E.m f.n))[4]? = some (seqD (getP E.m f.n).onl (getP E.m f.n).objs sD) := rfl
  have pp5 : (pD (getP E.m f.n))[5]? = some (seqD (getP E.m f.n).bnl (getP E.m f.n).blks bD) := rfl
  have bb0 : (bD (getB' (getP E.m f.n) f.b))[0]? = some (seqD (getB' (getP E.m f.n) f.b).inl (getB' (getP E.m f.n) f.b).ins iD) := rfl
  have hlb := seq_len (getB' (getP E.m f.n) f.b).inl (getB' (getP E.m f.n) f.b).ins iD
  have s1 := stA_new (n := 5) (lim := 1) (A := A) (H := H) (cs := row (R, f)) (c := [AV.d (.int .i64 0), .d (.seq true 0 []), .d (.int .i64 0), .d (.int .i64 0), .d (.int .i64 0)]) (by decide) rfl rfl rfl
  have h1 := h.push hE [some (row (R, f))]
  have k1 : (A ++ [some (row (R, f))])[A.length]? = some (some (row (R, f))) := by simp
  have l1 : (A ++ [some (row (R, f))]).length = A.length + 1 := by simp
  have v1 : (A ++ [some (row (R, f))])[b]? = some (some cells) := by rw [List.getElem?_append_left hlA]; exact t3
  generalize A ++ [some (row (R, f))] = A1 at *
  have jr1 := join_of h1.run
  have jq1 := join_of k1
  have jrz : ((A1 ++ [some [AV.d (.str ⟨#[]⟩), .d (.bool false), .d (.int .i64 0), .d (.int .i64 0), .d (.seq true 0 []), .d (.seq true 0 [])]])[E.ri]?).join = some (E.cells s o tv 0 0 false) := by rw [List.getElem?_append_left (lt_of_get h1.run)]; exact jr1
  have jqz : ((A1 ++ [some [AV.d (.str ⟨#[]⟩), .d (.bool false), .d (.int .i64 0), .d (.int .i64 0), .d (.seq true 0 []), .d (.seq true 0 [])]])[A.length]?).join = some (row (R, f)) := by rw [List.getElem?_append_left (by omega)]; exact jq1
  have s2 := stA_new (n := 6) (lim := 1) (A := A1) (H := H) (cs := (pD (getP E.m f.n)).map .d) (c := [AV.d (.str ⟨#[]⟩), .d (.bool false), .d (.int .i64 0), .d (.int .i64 0), .d (.seq true 0 []), .d (.seq true 0 [])]) (by decide) (all_leaf_d _) rfl rfl
  have h2 := h1.push hE [some ((pD (getP E.m f.n)).map AV.d)]
  have k2 : (A1 ++ [some ((pD (getP E.m f.n)).map AV.d)])[A1.length]? = some (some ((pD (getP E.m f.n)).map AV.d)) := by simp
  have l2 : (A1 ++ [some ((pD (getP E.m f.n)).map AV.d)]).length = A.length + 2 := by simp [l1]
  have k12 : (A1 ++ [some ((pD (getP E.m f.n)).map AV.d)])[A.length]? = some (some (row (R, f))) := by rw [List.getElem?_append_left (by omega)]; exact k1
  have v2 : (A1 ++ [some ((pD (getP E.m f.n)).map AV.d)])[b]? = some (some cells) := by rw [List.getElem?_append_left (by omega)]; exact v1
  generalize A1 ++ [some ((pD (getP E.m f.n)).map AV.d)] = A2 at *
  have jq2 := join_of k2
  have jq12 := join_of k12
  have s3 := stA_new (n := 5) (lim := 1) (A := A2) (H := H) (cs := (bD (getB' (getP E.m f.n) f.b)).map .d) (c := [AV.d (.seq true 0 []), .d (.int .i64 0), .d (.int .i64 0), .d (.int .i64 0), .d (.int .i64 0)]) (by decide) (all_leaf_d _) rfl rfl
  have h3 := h2.push hE [some ((bD (getB' (getP E.m f.n) f.b)).map AV.d)]
  have k3 : (A2 ++ [some ((bD (getB' (getP E.m f.n) f.b)).map AV.d)])[A2.length]? = some (some ((bD (getB' (getP E.m f.n) f.b)).map AV.d)) := by simp
  have l3 : (A2 ++ [some ((bD (getB' (getP E.m f.n) f.b)).map AV.d)]).length = A.length + 3 := by simp [l2]
  have k13 : (A2 ++ [some ((bD (getB' (getP E.m f.n) f.b)).map AV.d)])[A.length]? = some (some (row (R, f))) := by rw [List.getElem?_append_left (by omega)]; exact k12
  have k23 : (A2 ++ [some ((bD (getB' (getP E.m f.n) f.b)).map AV.d)])[A1.length]? = some (some ((pD (getP E.m f.n)).map AV.d)) := by rw [List.getElem?_append_left (by omega)]; exact k2
  have v3 : (A2 ++ [some ((bD (getB' (getP E.m f.n) f.b)).map AV.d)])[b]? = some (some cells) := by rw [List.getElem?_append_left (by omega)]; exact v2
  generalize A2 ++ [some ((bD (getB' (getP E.m f.n) f.b)).map AV.d)] = A3 at *
  have jq3 := join_of k3
  have jq13 := join_of k13
  have hfi := hf.i
  have hlt : f.i < (getB' (getP E.m f.n) f.b).ins.length := by omega
  have hne : ¬ ((f.i : Int) = (getB' (getP E.m f.n) f.b).ins.length) := by omega
  have h60 := hM.insLen hf.n hf.b
  obtain ⟨p3, q3, u3⟩ := seq_row (nl := (getB' (getP E.m f.n) f.b).inl) (f := iD) (s := 11) (fun _ => rfl) (getI_of hlt)
  have x3 := u3.ix
  have y3 := u3.all
  have s4 := stA_new (n := 11) (lim := 1) (A := A3) (H := H) (cs := (iD (getI (getB' (getP E.m f.n) f.b) f.i)).map .d) (c := [AV.d (.int .i64 0), .d (.int .i64 0), .d (.int .i64 0), .d (.int .i64 0), .d (.int .i64 0), .d (.int .i64 0), .d (.int .i64 0), .d (.int .i64 0), .d (.int .u32 0), .d (.seq true 0 []), .d (.bool false)]) (by decide) (all_leaf_d _) rfl rfl
  have h4 := h3.push hE [some ((iD (getI (getB' (getP E.m f.n) f.b) f.i)).map AV.d)]
  have k4 : (A3 ++ [some ((iD (getI (getB' (getP E.m f.n) f.b) f.i)).map AV.d)])[A3.length]? = some (some ((iD (getI (getB' (getP E.m f.n) f.b) f.i)).map AV.d)) := by simp
  have l4 : (A3 ++ [some ((iD (getI (getB' (getP E.m f.n) f.b) f.i)).map AV.d)]).length = A.length + 4 := by simp [l3]
  have k14 : (A3 ++ [some ((iD (getI (getB' (getP E.m f.n) f.b) f.i)).map AV.d)])[A.length]? = some (some (row (R, f))) := by rw [List.getElem?_append_left (by omega)]; exact k13
  have k24 : (A3 ++ [some ((iD (getI (getB' (getP E.m f.n) f.b) f.i)).map AV.d)])[A1.length]? = some (some ((pD (getP E.m f.n)).map AV.d)) := by rw [List.getElem?_append_left (by omega)]; exact k23
  have v4 : (A3 ++ [some ((iD (getI (getB' (getP E.m f.n) f.b) f.i)).map AV.d)])[b]? = some (some cells) := by rw [List.getElem?_append_left (by omega)]; exact v3
  generalize A3 ++ [some ((iD (getI (getB' (getP E.m f.n) f.b) f.i)).map AV.d)] = A4 at *
  have jr4 := join_of h4.run
  have jq14 := join_of k14
  have w2 : IntKind.i64.wrap ((f.i : Int) + 1) = ((f.i + 1 : Nat) : Int) := wrap_ok _ (by omega) (by omega)
  have s5 := stA_leaf (lim := 1) (A := A4) (H := H) (i := b) (o := S.length * 5 + 4) (v := vi ((f.i + 1 : Nat) : Int)) (c := cells) (by decide) rfl (join_of v4) (by omega)
  have hc' := set_top (j := 4) (v := vi ((f.i + 1 : Nat) : Int)) t5
  have h5 := h4.setTop hE (f' := ⟨f.n, f.regs, f.low, f.b, f.i + 1⟩) rfl t1 v4 (by simp; omega) hc'
  have k5 : (A4.set b (some (cells.set (S.length * 5 + 4) (vi ((f.i + 1 : Nat) : Int)))))[A3.length]? = some (some ((iD (getI (getB' (getP E.m f.n) f.b) f.i)).map AV.d)) := by rw [List.getElem?_set_ne (by omega)]; exact k4
  have k15 : (A4.set b (some (cells.set (S.length * 5 + 4) (vi ((f.i + 1 : Nat) : Int)))))[A.length]? = some (some (row (R, f))) := by rw [List.getElem?_set_ne (by omega)]; exact k14
  have k25 : (A4.set b (some (cells.set (S.length * 5 + 4) (vi ((f.i + 1 : Nat) : Int)))))[A1.length]? = some (some ((pD (getP E.m f.n)).map AV.d)) := by rw [List.getElem?_set_ne (by omega)]; exact k24
  have l5 : (A4.set b (some (cells.set (S.length * 5 + 4) (vi ((f.i + 1 : Nat) : Int))))).length = A.length + 4 := by simp [l4]
  generalize ((f.i + 1 : Nat) : Int) = fi1 at *
  generalize A4.set b (some (cells.set (S.length * 5 + 4) (vi fi1))) = A5 at *
  have jr5 := join_of h5.run
  have jq5 := join_of k5
  have jq15 := join_of k15
  have jq25 := join_of k25
  have hrl := hf.regs.len
  have hrw := hf.regs.w
  have hR5 := h5.regs (R, ⟨f.n, f.regs, f.low, f.b, f.i + 1⟩) (by simp)
  have hRA := h.regs (R, f) (by simp)
  simp only at hR5 hRA
  have hRlt := lt_of_get hRA.2
  have jR5 := join_of hR5.2
  have rd : ∀ k : Int, 0 ≤ k → k < (getP E.m f.n).regs → ixS 1 (.sl 0 R 0 f.regs.length 1) (vi k) = some (.ptr 0 R k.toNat) ∧ (f.regs.map vw)[k.toNat]? = some (vw (rg f.regs k)) := fun k a0 a1 => by
    have := ixS_nat (s := 1) (l := 0) (b := R) (o := 0) (n := f.regs.length) (z := 1) a0 (by omega)
    simp only [Nat.zero_add, Nat.mul_one] at this
    exact ⟨this, rg_map vw a0 (by omega)⟩
  have hio := hM.ins hf.n hf.b hlt
  have hnw := hM.numW hf.n hf.b hlt
  have ki0 := h.k0
  have kr := hE.r
  have km := hE.m
  have hst : stepR E.m E.inputs f (S.map (·.2)) s = .go (⟨f.n, wr f.regs (getI (getB' (getP E.m f.n) f.b) f.i).d (getI (getB' (getP E.m f.n) f.b) f.i).num, f.low, f.b, f.i + 1⟩ :: S.map (·.2)) s := by
    unfold stepR
    rw [if_neg he, if_neg (by omega)]
    simp [insP, hop]
  rw [hst]
  generalize hii : (getI (getB' (getP E.m f.n) f.b) f.i) = ii at *
  have hrg := ins_regs hio (by omega)
  have hd := regOk_t (show regOk (getP E.m f.n) ii.d true = true by have := hrg.1; rwa [hop] at this)
  obtain ⟨gd, _⟩ := rd ii.d hd.1 hd.2
  have i0 : (iD ii)[0]? = some (.int .i64 ii.op) := rfl
  have i1 : (iD ii)[1]? = some (.int .i64 ii.d) := rfl
  have i8 : (iD ii)[8]? = some (.int .u32 ii.num) := rfl
  have s6 := stA_leaf (lim := 1) (A := A5) (H := H) (i := R) (o := ii.d.toNat) (v := vw ii.num) (c := f.regs.map vw) (by decide) rfl jR5 (by simp; omega)
  have hfin := h5.setRegs hE (r := wr f.regs ii.d ii.num) (wr_len _ _ _)
  rw [show (wr f.regs ii.d ii.num).map vw = (f.regs.map vw).set ii.d.toNat (vw ii.num) by simp [wr, List.map_set]] at hfin
  have k6 : (A5.set R (some ((f.regs.map vw).set ii.d.toNat (vw ii.num))))[A3.length]? = some (some ((iD ii).map AV.d)) := by rw [List.getElem?_set_ne (by omega)]; exact k5
  refine ⟨A5.set R (some ((f.regs.map vw).set ii.d.toNat (vw ii.num))), ?_, (R, ⟨f.n, wr f.regs ii.d ii.num, f.low, f.b, f.i + 1⟩) :: S, o, tv, rfl, hfin⟩
  generalize A5.set R (some ((f.regs.map vw).set ii.d.toNat (vw ii.num))) = A6 at *
  have jq6 := join_of k6
  generalize row (R, f) = RW at *
  generalize bD (getB' (getP E.m f.n) f.b) = BD at *
  generalize pD (getP E.m f.n) = PD at *
  generalize iD ii = ID at *
  simp -implicitDefEqProofs [jr, c5, hln, abin_sub, w1, t6, jb, t7, s1, jr1, c2, jq1, r0, x1, y1, jrz, jqz, s2, jq2, pp5, jq12, r3, x2, y2, s3, jq3, bb0, hlb, jq13, r4, abin_eql, hne, x3, y3, s4, jr4, jq14, abin_add, w2, s5, jq5, i0, hop, jq15, r1, jR5, gd, s6, jq6, i1, i8]
theorem step22_2 (hE : RfOk E) (hM : MdOk E.m) (hI : InOk E.inputs) (h : RefAt E A ((R, f) :: S) s o tv 0 0 false) (hf : FrOk E.m f) (hg : ∀ y ∈ S, WtOk E.m y.2) (hS : S.length < 5000) (hin : s.ins < 1000000) (hol : s.out.length < 1000000) (he : f.i ≠ (getB' (getP E.m f.n) f.b).ins.length) (hop : (getI (getB' (getP E.m f.n) f.b) f.i).op = 2) : ∃ A', evCall Try.prog C (d + 6) 1 22 [.ptr 0 E.ri 0] (A :: H) = some (.tup [], A' :: H) ∧ RefR E A' (stepR E.m E.inputs f (S.map (·.2)) s) := by
  rw [evCall_inEq (fi := fi22) rfl rfl (b22 _ _ _ _)]
  unfold s22
  obtain ⟨b, cells, t1, t2, t3, t4, t5, t6, t7⟩ := h.topRead
  have hln : lnS tv = some (vi ((S.length : Int) + 1)) := h.top.len
  have w1 := wrap_ok (S.length : Int) (by omega) (by omega)
  have jr := join_of h.run
  have jb := join_of t3
  have c5 : (E.cells s o tv 0 0 false)[5]? = some tv := rfl
  have c2 : (E.cells s o tv 0 0 false)[2]? = some (.d (seqD E.m.pnl E.m.procs pD)) := rfl
  have hlA := lt_of_get t3
  obtain ⟨p1, q1, u1⟩ := seq_row (nl := E.m.pnl) (f := pD) (s := 6) (fun _ => rfl) (getP_of hf.n)
  have x1 := u1.ix
  have y1 := u1.all
  obtain ⟨p2, q2, u2⟩ := seq_row (nl := (getP E.m f.n).bnl) (f := bD) (s := 5) (fun _ => rfl) (getB_of hf.b)
  have x2 := u2.ix
  have y2 := u2.all
  have r0 : (row (R, f))[0]? = some (vi f.n) := rfl
  have r1 : (row (R, f))[1]? = some (.sl 0 R 0 f.regs.length 1) := rfl
  have r2 : (row (R, f))[2]? = some (vi f.low) := rfl
  have r3 : (row (R, f))[3]? = some (vi f.b) := rfl
  have r4 : (row (R, f))[4]? = some (vi f.i) := rfl
  have pp4 : (pD (getP E.m f.n))[4]? = some (seqD (getP E.m f.n).onl (getP E.m f.n).objs sD) := rfl
  have pp5 : (pD (getP E.m f.n))[5]? = some (seqD (getP E.m f.n).bnl (getP E.m f.n).blks bD) := rfl
  have bb0 : (bD (getB' (getP E.m f.n) f.b))[0]? = some (seqD (getB' (getP E.m f.n) f.b).inl (getB' (getP E.m f.n) f.b).ins iD) := rfl
  have hlb := seq_len (getB' (getP E.m f.n) f.b).inl (getB' (getP E.m f.n) f.b).ins iD
  have s1 := stA_new (n := 5) (lim := 1) (A := A) (H := H) (cs := row (R, f)) (c := [AV.d (.int .i64 0), .d (.seq true 0 []), .d (.int .i64 0), .d (.int .i64 0), .d (.int .i64 0)]) (by decide) rfl rfl rfl
  have h1 := h.push hE [some (row (R, f))]
  have k1 : (A ++ [some (row (R, f))])[A.length]? = some (some (row (R, f))) := by simp
  have l1 : (A ++ [some (row (R, f))]).length = A.length + 1 := by simp
  have v1 : (A ++ [some (row (R, f))])[b]? = some (some cells) := by rw [List.getElem?_append_left hlA]; exact t3
  generalize A ++ [some (row (R, f))] = A1 at *
  have jr1 := join_of h1.run
  have jq1 := join_of k1
  have jrz : ((A1 ++ [some [AV.d (.str ⟨#[]⟩), .d (.bool false), .d (.int .i64 0), .d (.int .i64 0), .d (.seq true 0 []), .d (.seq true 0 [])]])[E.ri]?).join = some (E.cells s o tv 0 0 false) := by rw [List.getElem?_append_left (lt_of_get h1.run)]; exact jr1
  have jqz : ((A1 ++ [some [AV.d (.str ⟨#[]⟩), .d (.bool false), .d (.int .i64 0), .d (.int .i64 0), .d (.seq true 0 []), .d (.seq true 0 [])]])[A.length]?).join = some (row (R, f)) := by rw [List.getElem?_append_left (by omega)]; exact jq1
  have s2 := stA_new (n := 6) (lim := 1) (A := A1) (H := H) (cs := (pD (getP E.m f.n)).map .d) (c := [AV.d (.str ⟨#[]⟩), .d (.bool false), .d (.int .i64 0), .d (.int .i64 0), .d (.seq true 0 []), .d (.seq true 0 [])]) (by decide) (all_leaf_d _) rfl rfl
  have h2 := h1.push hE [some ((pD (getP E.m f.n)).map AV.d)]
  have k2 : (A1 ++ [some ((pD (getP E.m f.n)).map AV.d)])[A1.length]? = some (some ((pD (getP E.m f.n)).map AV.d)) := by simp
  have l2 : (A1 ++ [some ((pD (getP E.m f.n)).map AV.d)]).length = A.length + 2 := by simp [l1]
  have k12 : (A1 ++ [some ((pD (getP E.m f.n)).map AV.d)])[A.length]? = some (some (row (R, f))) := by rw [List.getElem?_append_left (by omega)]; exact k1
  have v2 : (A1 ++ [some ((pD (getP E.m f.n)).map AV.d)])[b]? = some (some cells) := by rw [List.getElem?_append_left (by omega)]; exact v1
  generalize A1 ++ [some ((pD (getP E.m f.n)).map AV.d)] = A2 at *
  have jq2 := join_of k2
  have jq12 := join_of k12
  have s3 := stA_new (n := 5) (lim := 1) (A := A2) (H := H) (cs := (bD (getB' (getP E.m f.n) f.b)).map .d) (c := [AV.d (.seq true 0 []), .d (.int .i64 0), .d (.int .i64 0), .d (.int .i64 0), .d (.int .i64 0)]) (by decide) (all_leaf_d _) rfl rfl
  have h3 := h2.push hE [some ((bD (getB' (getP E.m f.n) f.b)).map AV.d)]
  have k3 : (A2 ++ [some ((bD (getB' (getP E.m f.n) f.b)).map AV.d)])[A2.length]? = some (some ((bD (getB' (getP E.m f.n) f.b)).map AV.d)) := by simp
  have l3 : (A2 ++ [some ((bD (getB' (getP E.m f.n) f.b)).map AV.d)]).length = A.length + 3 := by simp [l2]
  have k13 : (A2 ++ [some ((bD (getB' (getP E.m f.n) f.b)).map AV.d)])[A.length]? = some (some (row (R, f))) := by rw [List.getElem?_append_left (by omega)]; exact k12
  have k23 : (A2 ++ [some ((bD (getB' (getP E.m f.n) f.b)).map AV.d)])[A1.length]? = some (some ((pD (getP E.m f.n)).map AV.d)) := by rw [List.getElem?_append_left (by omega)]; exact k2
  have v3 : (A2 ++ [some ((bD (getB' (getP E.m f.n) f.b)).map AV.d)])[b]? = some (some cells) := by rw [List.getElem?_append_left (by omega)]; exact v2
  generalize A2 ++ [some ((bD (getB' (getP E.m f.n) f.b)).map AV.d)] = A3 at *
  have jq3 := join_of k3
  have jq13 := join_of k13
  have hfi := hf.i
  have hlt : f.i < (getB' (getP E.m f.n) f.b).ins.length := by omega
  have hne : ¬ ((f.i : Int) = (getB' (getP E.m f.n) f.b).ins.length) := by omega
  have h60 := hM.insLen hf.n hf.b
  obtain ⟨p3, q3, u3⟩ := seq_row (nl := (getB' (getP E.m f.n) f.b).inl) (f := iD) (s := 11) (fun _ => rfl) (getI_of hlt)
  have x3 := u3.ix
  have y3 := u3.all
  have s4 := stA_new (n := 11) (lim := 1) (A := A3) (H := H) (cs := (iD (getI (getB' (getP E.m f.n) f.b) f.i)).map .d) (c := [AV.d (.int .i64 0), .d (.int .i64 0), .d (.int .i64 0), .d (.int .i64 0), .d (.int .i64 0), .d (.int .i64 0), .d (.int .i64 0), .d (.int .i64 0), .d (.int .u32 0), .d (.seq true 0 []), .d (.bool false)]) (by decide) (all_leaf_d _) rfl rfl
  have h4 := h3.push hE [some ((iD (getI (getB' (getP E.m f.n) f.b) f.i)).map AV.d)]
  have k4 : (A3 ++ [some ((iD (getI (getB' (getP E.m f.n) f.b) f.i)).map AV.d)])[A3.length]? = some (some ((iD (getI (getB' (getP E.m f.n) f.b) f.i)).map AV.d)) := by simp
  have l4 : (A3 ++ [some ((iD (getI (getB' (getP E.m f.n) f.b) f.i)).map AV.d)]).length = A.length + 4 := by simp [l3]
  have k14 : (A3 ++ [some ((iD (getI (getB' (getP E.m f.n) f.b) f.i)).map AV.d)])[A.length]? = some (some (row (R, f))) := by rw [List.getElem?_append_left (by omega)]; exact k13
  have k24 : (A3 ++ [some ((iD (getI (getB' (getP E.m f.n) f.b) f.i)).map AV.d)])[A1.length]? = some (some ((pD (getP E.m f.n)).map AV.d)) := by rw [List.getElem?_append_left (by omega)]; exact k23
  have v4 : (A3 ++ [some ((iD (getI (getB' (getP E.m f.n) f.b) f.i)).map AV.d)])[b]? = some (some cells) := by rw [List.getElem?_append_left (by omega)]; exact v3
  generalize A3 ++ [some ((iD (getI (getB' (getP E.m f.n) f.b) f.i)).map AV.d)] = A4 at *
  have jr4 := join_of h4.run
  have jq14 := join_of k14
  have w2 : IntKind.i64.wrap ((f.i : Int) + 1) = ((f.i + 1 : Nat) : Int) := wrap_ok _ (by omega) (by omega)
  have s5 := stA_leaf (lim := 1) (A := A4) (H := H) (i := b) (o := S.length * 5 + 4) (v := vi ((f.i + 1 : Nat) : Int)) (c := cells) (by decide) rfl (join_of v4) (by omega)
  have hc' := set_top (j := 4) (v := vi ((f.i + 1 : Nat) : Int)) t5
  have h5 := h4.setTop hE (f' := ⟨f.n, f.regs, f.low, f.b, f.i + 1⟩) rfl t1 v4 (by simp; omega) hc'
  have k5 : (A4.set b (some (cells.set (S.length * 5 + 4) (vi ((f.i + 1 : Nat) : Int)))))[A3.length]? = some (some ((iD (getI (getB' (getP E.m f.n) f.b) f.i)).map AV.d)) := by rw [List.getElem?_set_ne (by omega)]; exact k4
  have k15 : (A4.set b (some (cells.set (S.length * 5 + 4) (vi ((f.i + 1 : Nat) : Int)))))[A.length]? = some (some (row (R, f))) := by rw [List.getElem?_set_ne (by omega)]; exact k14
  have k25 : (A4.set b (some (cells.set (S.length * 5 + 4) (vi ((f.i + 1 : Nat) : Int)))))[A1.length]? = some (some ((pD (getP E.m f.n)).map AV.d)) := by rw [List.getElem?_set_ne (by omega)]; exact k24
  have l5 : (A4.set b (some (cells.set (S.length * 5 + 4) (vi ((f.i + 1 : Nat) : Int))))).length = A.length + 4 := by simp [l4]
  generalize ((f.i + 1 : Nat) : Int) = fi1 at *
  generalize A4.set b (some (cells.set (S.length * 5 + 4) (vi fi1))) = A5 at *
  have jr5 := join_of h5.run
  have jq5 := join_of k5
  have jq15 := join_of k15
  have jq25 := join_of k25
  have hrl := hf.regs.len
  have hrw := hf.regs.w
  have hR5 := h5.regs (R, ⟨f.n, f.regs, f.low, f.b, f.i + 1⟩) (by simp)
  have hRA := h.regs (R, f) (by simp)
  simp only at hR5 hRA
  have hRlt := lt_of_get hRA.2
  have jR5 := join_of hR5.2
  have rd : ∀ k : Int, 0 ≤ k → k < (getP E.m f.n).regs → ixS 1 (.sl 0 R 0 f.regs.length 1) (vi k) = some (.ptr 0 R k.toNat) ∧ (f.regs.map vw)[k.toNat]? = some (vw (rg f.regs k)) := fun k a0 a1 => by
    have := ixS_nat (s := 1) (l := 0) (b := R) (o := 0) (n := f.regs.length) (z := 1) a0 (by omega)
    simp only [Nat.zero_add, Nat.mul_one] at this
    exact ⟨this, rg_map vw a0 (by omega)⟩
  have hio := hM.ins hf.n hf.b hlt
  have hnw := hM.numW hf.n hf.b hlt
  have ki0 := h.k0
  have kr := hE.r
  have km := hE.m
  have hst : stepR E.m E.inputs f (S.map (·.2)) s = .go (⟨f.n, wr f.regs (getI (getB' (getP E.m f.n) f.b) f.i).d (rg f.regs (getI (getB' (getP E.m f.n) f.b) f.i).a), f.low, f.b, f.i + 1⟩ :: S.map (·.2)) s := by
    unfold stepR
    rw [if_neg he, if_neg (by omega)]
    simp [insP, hop]
  rw [hst]
  generalize hii : (getI (getB' (getP E.m f.n) f.b) f.i) = ii at *
  have hrg := ins_regs hio (by omega)
  have hd := regOk_t (show regOk (getP E.m f.n) ii.d true = true by have := hrg.1; rwa [hop] at this)
  obtain ⟨gd, _⟩ := rd ii.d hd.1 hd.2
  have ha := regOk_t (show regOk (getP E.m f.n) ii.a true = true by have := hrg.2.1; rwa [hop] at this)
  obtain ⟨ga, ga2⟩ := rd ii.a ha.1 ha.2
  have i0 : (iD ii)[0]? = some (.int .i64 ii.op) := rfl
  have i1 : (iD ii)[1]? = some (.int .i64 ii.d) := rfl
  have i2 : (iD ii)[2]? = some (.int .i64 ii.a) := rfl
  have s6 := stA_leaf (lim := 1) (A := A5) (H := H) (i := R) (o := ii.d.toNat) (v := vw (rg f.regs ii.a)) (c := f.regs.map vw) (by decide) rfl jR5 (by simp; omega)
  have hfin := h5.setRegs hE (r := wr f.regs ii.d (rg f.regs ii.a)) (wr_len _ _ _)
  rw [show (wr f.regs ii.d (rg f.regs ii.a)).map vw = (f.regs.map vw).set ii.d.toNat (vw (rg f.regs ii.a)) by simp [wr, List.map_set]] at hfin
  have k6 : (A5.set R (some ((f.regs.map vw).set ii.d.toNat (vw (rg f.regs ii.a)))))[A3.length]? = some (some ((iD ii).map AV.d)) := by rw [List.getElem?_set_ne (by omega)]; exact k5
  refine ⟨A5.set R (some ((f.regs.map vw).set ii.d.toNat (vw (rg f.regs ii.a)))), ?_, (R, ⟨f.n, wr f.regs ii.d (rg f.regs ii.a), f.low, f.b, f.i + 1⟩) :: S, o, tv, rfl, hfin⟩
  generalize A5.set R (some ((f.regs.map vw).set ii.d.toNat (vw (rg f.regs ii.a)))) = A6 at *
  have jq6 := join_of k6
  generalize row (R, f) = RW at *
  generalize bD (getB' (getP E.m f.n) f.b) = BD at *
  generalize pD (getP E.m f.n) = PD at *
  generalize iD ii = ID at *
  simp -implicitDefEqProofs [jr, c5, hln, abin_sub, w1, t6, jb, t7, s1, jr1, c2, jq1, r0, x1, y1, jrz, jqz, s2, jq2, pp5, jq12, r3, x2, y2, s3, jq3, bb0, hlb, jq13, r4, abin_eql, hne, x3, y3, s4, jr4, jq14, abin_add, w2, s5, jq5, i0, hop, jq15, r1, jR5, gd, s6, jq6, i1, i2, ga, ga2]
theorem step22_3 (hE : RfOk E) (hM : MdOk E.m) (hI : InOk E.inputs) (h : RefAt E A ((R, f) :: S) s o tv 0 0 false) (hf : FrOk E.m f) (hg : ∀ y ∈ S, WtOk E.m y.2) (hS : S.length < 5000) (hin : s.ins < 1000000) (hol : s.out.length < 1000000) (he : f.i ≠ (getB' (getP E.m f.n) f.b).ins.length) (hop : (getI (getB' (getP E.m f.n) f.b) f.i).op = 3) : ∃ A', evCall Try.prog C (d + 6) 1 22 [.ptr 0 E.ri 0] (A :: H) = some (.tup [], A' :: H) ∧ RefR E A' (stepR E.m E.inputs f (S.map (·.2)) s) := by
  rw [evCall_inEq (fi := fi22) rfl rfl (b22 _ _ _ _)]
  unfold s22
  obtain ⟨b, cells, t1, t2, t3, t4, t5, t6, t7⟩ := h.topRead
  have hln : lnS tv = some (vi ((S.length : Int) + 1)) := h.top.len
  have w1 := wrap_ok (S.length : Int) (by omega) (by omega)
  have jr := join_of h.run
  have jb := join_of t3
  have c5 : (E.cells s o tv 0 0 false)[5]? = some tv := rfl
  have c2 : (E.cells s o tv 0 0 false)[2]? = some (.d (seqD E.m.pnl E.m.procs pD)) := rfl
  have hlA := lt_of_get t3
  obtain ⟨p1, q1, u1⟩ := seq_row (nl := E.m.pnl) (f := pD) (s := 6) (fun _ => rfl) (getP_of hf.n)
  have x1 := u1.ix
  have y1 := u1.all
  obtain ⟨p2, q2, u2⟩ := seq_row (nl := (getP E.m f.n).bnl) (f := bD) (s := 5) (fun _ => rfl) (getB_of hf.b)
  have x2 := u2.ix
  have y2 := u2.all
  have r0 : (row (R, f))[0]? = some (vi f.n) := rfl
  have r1 : (row (R, f))[1]? = some (.sl 0 R 0 f.regs.length 1) := rfl
  have r2 : (row (R, f))[2]? = some (vi f.low) := rfl
  have r3 : (row (R, f))[3]? = some (vi f.b) := rfl
  have r4 : (row (R, f))[4]? = some (vi f.i) := rfl
  have pp4 : (pD (getP E.m f.n))[4]? = some (seqD (getP E.m f.n).onl (getP E.m f.n).objs sD) := rfl
  have pp5 : (pD (getP E.m f.n))[5]? = some (seqD (getP E.m f.n).bnl (getP E.m f.n).blks bD) := rfl
  have bb0 : (bD (getB' (getP E.m f.n) f.b))[0]? = some (seqD (getB' (getP E.m f.n) f.b).inl (getB' (getP E.m f.n) f.b).ins iD) := rfl
  have hlb := seq_len (getB' (getP E.m f.n) f.b).inl (getB' (getP E.m f.n) f.b).ins iD
  have s1 := stA_new (n := 5) (lim := 1) (A := A) (H := H) (cs := row (R, f)) (c := [AV.d (.int .i64 0), .d (.seq true 0 []), .d (.int .i64 0), .d (.int .i64 0), .d (.int .i64 0)]) (by decide) rfl rfl rfl
  have h1 := h.push hE [some (row (R, f))]
  have k1 : (A ++ [some (row (R, f))])[A.length]? = some (some (row (R, f))) := by simp
  have l1 : (A ++ [some (row (R, f))]).length = A.length + 1 := by simp
  have v1 : (A ++ [some (row (R, f))])[b]? = some (some cells) := by rw [List.getElem?_append_left hlA]; exact t3
  generalize A ++ [some (row (R, f))] = A1 at *
  have jr1 := join_of h1.run
  have jq1 := join_of k1
  have jrz : ((A1 ++ [some [AV.d (.str ⟨#[]⟩), .d (.bool false), .d (.int .i64 0), .d (.int .i64 0), .d (.seq true 0 []), .d (.seq true 0 [])]])[E.ri]?).join = some (E.cells s o tv 0 0 false) := by rw [List.getElem?_append_left (lt_of_get h1.run)]; exact jr1
  have jqz : ((A1 ++ [some [AV.d (.str ⟨#[]⟩), .d (.bool false), .d (.int .i64 0), .d (.int .i64 0), .d (.seq true 0 []), .d (.seq true 0 [])]])[A.length]?).join = some (row (R, f)) := by rw [List.getElem?_append_left (by omega)]; exact jq1
  have s2 := stA_new (n := 6) (lim := 1) (A := A1) (H := H) (cs := (pD (getP E.m f.n)).map .d) (c := [AV.d (.str ⟨#[]⟩), .d (.bool false), .d (.int .i64 0), .d (.int .i64 0), .d (.seq true 0 []), .d (.seq true 0 [])]) (by decide) (all_leaf_d _) rfl rfl
  have h2 := h1.push hE [some ((pD (getP E.m f.n)).map AV.d)]
  have k2 : (A1 ++ [some ((pD (getP E.m f.n)).map AV.d)])[A1.length]? = some (some ((pD (getP E.m f.n)).map AV.d)) := by simp
  have l2 : (A1 ++ [some ((pD (getP E.m f.n)).map AV.d)]).length = A.length + 2 := by simp [l1]
  have k12 : (A1 ++ [some ((pD (getP E.m f.n)).map AV.d)])[A.length]? = some (some (row (R, f))) := by rw [List.getElem?_append_left (by omega)]; exact k1
  have v2 : (A1 ++ [some ((pD (getP E.m f.n)).map AV.d)])[b]? = some (some cells) := by rw [List.getElem?_append_left (by omega)]; exact v1
  generalize A1 ++ [some ((pD (getP E.m f.n)).map AV.d)] = A2 at *
  have jq2 := join_of k2
  have jq12 := join_of k12
  have s3 := stA_new (n := 5) (lim := 1) (A := A2) (H := H) (cs := (bD (getB' (getP E.m f.n) f.b)).map .d) (c := [AV.d (.seq true 0 []), .d (.int .i64 0), .d (.int .i64 0), .d (.int .i64 0), .d (.int .i64 0)]) (by decide) (all_leaf_d _) rfl rfl
  have h3 := h2.push hE [some ((bD (getB' (getP E.m f.n) f.b)).map AV.d)]
  have k3 : (A2 ++ [some ((bD (getB' (getP E.m f.n) f.b)).map AV.d)])[A2.length]? = some (some ((bD (getB' (getP E.m f.n) f.b)).map AV.d)) := by simp
  have l3 : (A2 ++ [some ((bD (getB' (getP E.m f.n) f.b)).map AV.d)]).length = A.length + 3 := by simp [l2]
  have k13 : (A2 ++ [some ((bD (getB' (getP E.m f.n) f.b)).map AV.d)])[A.length]? = some (some (row (R, f))) := by rw [List.getElem?_append_left (by omega)]; exact k12
  have k23 : (A2 ++ [some ((bD (getB' (getP E.m f.n) f.b)).map AV.d)])[A1.length]? = some (some ((pD (getP E.m f.n)).map AV.d)) := by rw [List.getElem?_append_left (by omega)]; exact k2
  have v3 : (A2 ++ [some ((bD (getB' (getP E.m f.n) f.b)).map AV.d)])[b]? = some (some cells) := by rw [List.getElem?_append_left (by omega)]; exact v2
  generalize A2 ++ [some ((bD (getB' (getP E.m f.n) f.b)).map AV.d)] = A3 at *
  have jq3 := join_of k3
  have jq13 := join_of k13
  have hfi := hf.i
  have hlt : f.i < (getB' (getP E.m f.n) f.b).ins.length := by omega
  have hne : ¬ ((f.i : Int) = (getB' (getP E.m f.n) f.b).ins.length) := by omega
  have h60 := hM.insLen hf.n hf.b
  obtain ⟨p3, q3, u3⟩ := seq_row (nl := (getB' (getP E.m f.n) f.b).inl) (f := iD) (s := 11) (fun _ => rfl) (getI_of hlt)
  have x3 := u3.ix
  have y3 := u3.all
  have s4 := stA_new (n := 11) (lim := 1) (A := A3) (H := H) (cs := (iD (getI (getB' (getP E.m f.n) f.b) f.i)).map .d) (c := [AV.d (.int .i64 0), .d (.int .i64 0), .d (.int .i64 0), .d (.int .i64 0), .d (.int .i64 0), .d (.int .i64 0), .d (.int .i64 0), .d (.int .i64 0), .d (.int .u32 0), .d (.seq true 0 []), .d (.bool false)]) (by decide) (all_leaf_d _) rfl rfl
  have h4 := h3.push hE [some ((iD (getI (getB' (getP E.m f.n) f.b) f.i)).map AV.d)]
  have k4 : (A3 ++ [some ((iD (getI (getB' (getP E.m f.n) f.b) f.i)).map AV.d)])[A3.length]? = some (some ((iD (getI (getB' (getP E.m f.n) f.b) f.i)).map AV.d)) := by simp
  have l4 : (A3 ++ [some ((iD (getI (getB' (getP E.m f.n) f.b) f.i)).map AV.d)]).length = A.length + 4 := by simp [l3]
  have k14 : (A3 ++ [some ((iD (getI (getB' (getP E.m f.n) f.b) f.i)).map AV.d)])[A.length]? = some (some (row (R, f))) := by rw [List.getElem?_append_left (by omega)]; exact k13
  have k24 : (A3 ++ [some ((iD (getI (getB' (getP E.m f.n) f.b) f.i)).map AV.d)])[A1.length]? = some (some ((pD (getP E.m f.n)).map AV.d)) := by rw [List.getElem?_append_left (by omega)]; exact k23
  have v4 : (A3 ++ [some ((iD (getI (getB' (getP E.m f.n) f.b) f.i)).map AV.d)])[b]? = some (some cells) := by rw [List.getElem?_append_left (by omega)]; exact v3
  generalize A3 ++ [some ((iD (getI (getB' (getP E.m f.n) f.b) f.i)).map AV.d)] = A4 at *
  have jr4 := join_of h4.run
  have jq14 := join_of k14
  have w2 : IntKind.i64.wrap ((f.i : Int) + 1) = ((f.i + 1 : Nat) : Int) := wrap_ok _ (by omega) (by omega)
  have s5 := stA_leaf (lim := 1) (A := A4) (H := H) (i := b) (o := S.length * 5 + 4) (v := vi ((f.i + 1 : Nat) : Int)) (c := cells) (by decide) rfl (join_of v4) (by omega)
  have hc' := set_top (j := 4) (v := vi ((f.i + 1 : Nat) : Int)) t5
  have h5 := h4.setTop hE (f' := ⟨f.n, f.regs, f.low, f.b, f.i + 1⟩) rfl t1 v4 (by simp; omega) hc'
  have k5 : (A4.set b (some (cells.set (S.length * 5 + 4) (vi ((f.i + 1 : Nat) : Int)))))[A3.length]? = some (some ((iD (getI (getB' (getP E.m f.n) f.b) f.i)).map AV.d)) := by rw [List.getElem?_set_ne (by omega)]; exact k4
  have k15 : (A4.set b (some (cells.set (S.length * 5 + 4) (vi ((f.i + 1 : Nat) : Int)))))[A.length]? = some (some (row (R, f))) := by rw [List.getElem?_set_ne (by omega)]; exact k14
  have k25 : (A4.set b (some (cells.set (S.length * 5 + 4) (vi ((f.i + 1 : Nat) : Int)))))[A1.length]? = some (some ((pD (getP E.m f.n)).map AV.d)) := by rw [List.getElem?_set_ne (by omega)]; exact k24
  have l5 : (A4.set b (some (cells.set (S.length * 5 + 4) (vi ((f.i + 1 : Nat) : Int))))).length = A.length + 4 := by simp [l4]
  generalize ((f.i + 1 : Nat) : Int) = fi1 at *
  generalize A4.set b (some (cells.set (S.length * 5 + 4) (vi fi1))) = A5 at *
  have jr5 := join_of h5.run
  have jq5 := join_of k5
  have jq15 := join_of k15
  have jq25 := join_of k25
  have hrl := hf.regs.len
  have hrw := hf.regs.w
  have hR5 := h5.regs (R, ⟨f.n, f.regs, f.low, f.b, f.i + 1⟩) (by simp)
  have hRA := h.regs (R, f) (by simp)
  simp only at hR5 hRA
  have hRlt := lt_of_get hRA.2
  have jR5 := join_of hR5.2
  have rd : ∀ k : Int, 0 ≤ k → k < (getP E.m f.n).regs → ixS 1 (.sl 0 R 0 f.regs.length 1) (vi k) = some (.ptr 0 R k.toNat) ∧ (f.regs.map vw)[k.toNat]? = some (vw (rg f.regs k)) := fun k a0 a1 => by
    have := ixS_nat (s := 1) (l := 0) (b := R) (o := 0) (n := f.regs.length) (z := 1) a0 (by omega)
    simp only [Nat.zero_add, Nat.mul_one] at this
    exact ⟨this, rg_map vw a0 (by omega)⟩
  have hio := hM.ins hf.n hf.b hlt
  have hnw := hM.numW hf.n hf.b hlt
  have ki0 := h.k0
  have kr := hE.r
  have km := hE.m
  have hst : stepR E.m E.inputs f (S.map (·.2)) s = .go (⟨f.n, wr f.regs (getI (getB' (getP E.m f.n) f.b) f.i).d (fnW (getI (getB' (getP E.m f.n) f.b) f.i).fn (rg f.regs (getI (getB' (getP E.m f.n) f.b) f.i).a) (rg f.regs (getI (getB' (getP E.m f.n) f.b) f.i).b)), f.low, f.b, f.i + 1⟩ :: S.map (·.2)) s := by
    unfold stepR
    rw [if_neg he, if_neg (by omega)]
    simp [insP, hop]
  rw [hst]
  generalize hii : (getI (getB' (getP E.m f.n) f.b) f.i) = ii at *
  have hrg := ins_regs hio (by omega)
  have hd := regOk_t (show regOk (getP E.m f.n) ii.d true = true by have := hrg.1; rwa [hop] at this)
  obtain ⟨gd, _⟩ := rd ii.d hd.1 hd.2
  have ha := regOk_t (show regOk (getP E.m f.n) ii.a true = true by have := hrg.2.1; rwa [hop] at this)
  obtain ⟨ga, ga2⟩ := rd ii.a ha.1 ha.2
  have hb := regOk_t (show regOk (getP E.m f.n) ii.b true = true by have := hrg.2.2.1; rwa [hop] at this)
  obtain ⟨gb, gb2⟩ := rd ii.b hb.1 hb.2
  have i0 : (iD ii)[0]? = some (.int .i64 ii.op) := rfl
  have i1 : (iD ii)[1]? = some (.int .i64 ii.d) := rfl
  have i2 : (iD ii)[2]? = some (.int .i64 ii.a) := rfl
  have i3 : (iD ii)[3]? = some (.int .i64 ii.b) := rfl
  have i4 : (iD ii)[4]? = some (.int .i64 ii.fn) := rfl
  have wa : ∀ k, W (rg f.regs k) := rg_w hrw
  have hfn := fun H => fn13 (d := d + 1) (lim := 1) (H := H) (fn := ii.fn) (wa ii.a) (wa ii.b)
  have s6 := stA_leaf (lim := 1) (A := A5) (H := H) (i := R) (o := ii.d.toNat) (v := vw (fnW ii.fn (rg f.regs ii.a) (rg f.regs ii.b))) (c := f.regs.map vw) (by decide) rfl jR5 (by simp; omega)
  have hfin := h5.setRegs hE (r := wr f.regs ii.d (fnW ii.fn (rg f.regs ii.a) (rg f.regs ii.b))) (wr_len _ _ _)
  rw [show (wr f.regs ii.d (fnW ii.fn (rg f.regs ii.a) (rg f.regs ii.b))).map vw = (f.regs.map vw).set ii.d.toNat (vw (fnW ii.fn (rg f.regs ii.a) (rg f.regs ii.b))) by simp [wr, List.map_set]] at hfin
  have k6 : (A5.set R (some ((f.regs.map vw).set ii.d.toNat (vw (fnW ii.fn (rg f.regs ii.a) (rg f.regs ii.b))))))[A3.length]? = some (some ((iD ii).map AV.d)) := by rw [List.getElem?_set_ne (by omega)]; exact k5
  refine ⟨A5.set R (some ((f.regs.map vw).set ii.d.toNat (vw (fnW ii.fn (rg f.regs ii.a) (rg f.regs ii.b))))), ?_, (R, ⟨f.n, wr f.regs ii.d (fnW ii.fn (rg f.regs ii.a) (rg f.regs ii.b)), f.low, f.b, f.i + 1⟩) :: S, o, tv, rfl, hfin⟩
  generalize A5.set R (some ((f.regs.map vw).set ii.d.toNat (vw (fnW ii.fn (rg f.regs ii.a) (rg f.regs ii.b))))) = A6 at *
  have jq6 := join_of k6
  generalize row (R, f) = RW at *
  generalize bD (getB' (getP E.m f.n) f.b) = BD at *
  generalize pD (getP E.m f.n) = PD at *
  generalize iD ii = ID at *
  simp -implicitDefEqProofs [jr, c5, hln, abin_sub, w1, t6, jb, t7, s1, jr1, c2, jq1, r0, x1, y1, jrz, jqz, s2, jq2, pp5, jq12, r3, x2, y2, s3, jq3, bb0, hlb, jq13, r4, abin_eql, hne, x3, y3, s4, jr4, jq14, abin_add, w2, s5, jq5, i0, hop, jq15, r1, jR5, gd, s6, jq6, i1, i2, i3, i4, ga, ga2, gb, gb2, hfn]
theorem step22_4 (hE : RfOk E) (hM : MdOk E.m) (hI : InOk E.inputs) (h : RefAt E A ((R, f) :: S) s o tv 0 0 false) (hf : FrOk E.m f) (hg : ∀ y ∈ S, WtOk E.m y.2) (hS : S.length < 5000) (hin : s.ins < 1000000) (hol : s.out.length < 1000000) (he : f.i ≠ (getB' (getP E.m f.n) f.b).ins.length) (hop : (getI (getB' (getP E.m f.n) f.b) f.i).op = 4) : ∃ A', evCall Try.prog C (d + 6) 1 22 [.ptr 0 E.ri 0] (A :: H) = some (.tup [], A' :: H) ∧ RefR E A' (stepR E.m E.inputs f (S.map (·.2)) s) := by
  rw [evCall_inEq (fi := fi22) rfl rfl (b22 _ _ _ _)]
  unfold s22
  obtain ⟨b, cells, t1, t2, t3, t4, t5, t6, t7⟩ := h.topRead
  have hln : lnS tv = some (vi ((S.length : Int) + 1)) := h.top.len
  have w1 := wrap_ok (S.length : Int) (by omega) (by omega)
  have jr := join_of h.run
  have jb := join_of t3
  have c5 : (E.cells s o tv 0 0 false)[5]? = some tv := rfl
  have c2 : (E.cells s o tv 0 0 false)[2]? = some (.d (seqD E.m.pnl E.m.procs pD)) := rfl
  have hlA := lt_of_get t3
  obtain ⟨p1, q1, u1⟩ := seq_row (nl := E.m.pnl) (f := pD) (s := 6) (fun _ => rfl) (getP_of hf.n)
  have x1 := u1.ix
  have y1 := u1.all
  obtain ⟨p2, q2, u2⟩ := seq_row (nl := (getP E.m f.n).bnl) (f := bD) (s := 5) (fun _ => rfl) (getB_of hf.b)
  have x2 := u2.ix
  have y2 := u2.all
  have r0 : (row (R, f))[0]? = some (vi f.n) := rfl
  have r1 : (row (R, f))[1]? = some (.sl 0 R 0 f.regs.length 1) := rfl
  have r2 : (row (R, f))[2]? = some (vi f.low) := rfl
  have r3 : (row (R, f))[3]? = some (vi f.b) := rfl
  have r4 : (row (R, f))[4]? = some (vi f.i) := rfl
  have pp4 : (pD (getP E.m f.n))[4]? = some (seqD (getP E.m f.n).onl (getP E.m f.n).objs sD) := rfl
  have pp5 : (pD (getP E.m f.n))[5]? = some (seqD (getP E.m f.n).bnl (getP E.m f.n).blks bD) := rfl
  have bb0 : (bD (getB' (getP E.m f.n) f.b))[0]? = some (seqD (getB' (getP E.m f.n) f.b).inl (getB' (getP E.m f.n) f.b).ins iD) := rfl
  have hlb := seq_len (getB' (getP E.m f.n) f.b).inl (getB' (getP E.m f.n) f.b).ins iD
  have s1 := stA_new (n := 5) (lim := 1) (A := A) (H := H) (cs := row (R, f)) (c := [AV.d (.int .i64 0), .d (.seq true 0 []), .d (.int .i64 0), .d (.int .i64 0), .d (.int .i64 0)]) (by decide) rfl rfl rfl
  have h1 := h.push hE [some (row (R, f))]
  have k1 : (A ++ [some (row (R, f))])[A.length]? = some (some (row (R, f))) := by simp
  have l1 : (A ++ [some (row (R, f))]).length = A.length + 1 := by simp
  have v1 : (A ++ [some (row (R, f))])[b]? = some (some cells) := by rw [List.getElem?_append_left hlA]; exact t3
  generalize A ++ [some (row (R, f))] = A1 at *
  have jr1 := join_of h1.run
  have jq1 := join_of k1
  have jrz : ((A1 ++ [some [AV.d (.str ⟨#[]⟩), .d (.bool false), .d (.int .i64 0), .d (.int .i64 0), .d (.seq true 0 []), .d (.seq true 0 [])]])[E.ri]?).join = some (E.cells s o tv 0 0 false) := by rw [List.getElem?_append_left (lt_of_get h1.run)]; exact jr1
  have jqz : ((A1 ++ [some [AV.d (.str ⟨#[]⟩), .d (.bool false), .d (.int .i64 0), .d (.int .i64 0), .d (.seq true 0 []), .d (.seq true 0 [])]])[A.length]?).join = some (row (R, f)) := by rw [List.getElem?_append_left (by omega)]; exact jq1
  have s2 := stA_new (n := 6) (lim := 1) (A := A1) (H := H) (cs := (pD (getP E.m f.n)).map .d) (c := [AV.d (.str ⟨#[]⟩), .d (.bool false), .d (.int .i64 0), .d (.int .i64 0), .d (.seq true 0 []), .d (.seq true 0 [])]) (by decide) (all_leaf_d _) rfl rfl
  have h2 := h1.push hE [some ((pD (getP E.m f.n)).map AV.d)]
  have k2 : (A1 ++ [some ((pD (getP E.m f.n)).map AV.d)])[A1.length]? = some (some ((pD (getP E.m f.n)).map AV.d)) := by simp
  have l2 : (A1 ++ [some ((pD (getP E.m f.n)).map AV.d)]).length = A.length + 2 := by simp [l1]
  have k12 : (A1 ++ [some ((pD (getP E.m f.n)).map AV.d)])[A.length]? = some (some (row (R, f))) := by rw [List.getElem?_append_left (by omega)]; exact k1
  have v2 : (A1 ++ [some ((pD (getP E.m f.n)).map AV.d)])[b]? = some (some cells) := by rw [List.getElem?_append_left (by omega)]; exact v1
  generalize A1 ++ [some ((pD (getP E.m f.n)).map AV.d)] = A2 at *
  have jq2 := join_of k2
  have jq12 := join_of k12
  have s3 := stA_new (n := 5) (lim := 1) (A := A2) (H := H) (cs := (bD (getB' (getP E.m f.n) f.b)).map .d) (c := [AV.d (.seq true 0 []), .d (.int .i64 0), .d (.int .i64 0), .d (.int .i64 0), .d (.int .i64 0)]) (by decide) (all_leaf_d _) rfl rfl
  have h3 := h2.push hE [some ((bD (getB' (getP E.m f.n) f.b)).map AV.d)]
  have k3 : (A2 ++ [some ((bD (getB' (getP E.m f.n) f.b)).map AV.d)])[A2.length]? = some (some ((bD (getB' (getP E.m f.n) f.b)).map AV.d)) := by simp
  have l3 : (A2 ++ [some ((bD (getB' (getP E.m f.n) f.b)).map AV.d)]).length = A.length + 3 := by simp [l2]
  have k13 : (A2 ++ [some ((bD (getB' (getP E.m f.n) f.b)).map AV.d)])[A.length]? = some (some (row (R, f))) := by rw [List.getElem?_append_left (by omega)]; exact k12
  have k23 : (A2 ++ [some ((bD (getB' (getP E.m f.n) f.b)).map AV.d)])[A1.length]? = some (some ((pD (getP E.m f.n)).map AV.d)) := by rw [List.getElem?_append_left (by omega)]; exact k2
  have v3 : (A2 ++ [some ((bD (getB' (getP E.m f.n) f.b)).map AV.d)])[b]? = some (some cells) := by rw [List.getElem?_append_left (by omega)]; exact v2
  generalize A2 ++ [some ((bD (getB' (getP E.m f.n) f.b)).map AV.d)] = A3 at *
  have jq3 := join_of k3
  have jq13 := join_of k13
  have hfi := hf.i
  have hlt : f.i < (getB' (getP E.m f.n) f.b).ins.length := by omega
  have hne : ¬ ((f.i : Int) = (getB' (getP E.m f.n) f.b).ins.length) := by omega
  have h60 := hM.insLen hf.n hf.b
  obtain ⟨p3, q3, u3⟩ := seq_row (nl := (getB' (getP E.m f.n) f.b).inl) (f := iD) (s := 11) (fun _ => rfl) (getI_of hlt)
  have x3 := u3.ix
  have y3 := u3.all
  have s4 := stA_new (n := 11) (lim := 1) (A := A3) (H := H) (cs := (iD (getI (getB' (getP E.m f.n) f.b) f.i)).map .d) (c := [AV.d (.int .i64 0), .d (.int .i64 0), .d (.int .i64 0), .d (.int .i64 0), .d (.int .i64 0), .d (.int .i64 0), .d (.int .i64 0), .d (.int .i64 0), .d (.int .u32 0), .d (.seq true 0 []), .d (.bool false)]) (by decide) (all_leaf_d _) rfl rfl
  have h4 := h3.push hE [some ((iD (getI (getB' (getP E.m f.n) f.b) f.i)).map AV.d)]
  have k4 : (A3 ++ [some ((iD (getI (getB' (getP E.m f.n) f.b) f.i)).map AV.d)])[A3.length]? = some (some ((iD (getI (getB' (getP E.m f.n) f.b) f.i)).map AV.d)) := by simp
  have l4 : (A3 ++ [some ((iD (getI (getB' (getP E.m f.n) f.b) f.i)).map AV.d)]).length = A.length + 4 := by simp [l3]
  have k14 : (A3 ++ [some ((iD (getI (getB' (getP E.m f.n) f.b) f.i)).map AV.d)])[A.length]? = some (some (row (R, f))) := by rw [List.getElem?_append_left (by omega)]; exact k13
  have k24 : (A3 ++ [some ((iD (getI (getB' (getP E.m f.n) f.b) f.i)).map AV.d)])[A1.length]? = some (some ((pD (getP E.m f.n)).map AV.d)) := by rw [List.getElem?_append_left (by omega)]; exact k23
  have v4 : (A3 ++ [some ((iD (getI (getB' (getP E.m f.n) f.b) f.i)).map AV.d)])[b]? = some (some cells) := by rw [List.getElem?_append_left (by omega)]; exact v3
  generalize A3 ++ [some ((iD (getI (getB' (getP E.m f.n) f.b) f.i)).map AV.d)] = A4 at *
  have jr4 := join_of h4.run
  have jq14 := join_of k14
  have w2 : IntKind.i64.wrap ((f.i : Int) + 1) = ((f.i + 1 : Nat) : Int) := wrap_ok _ (by omega) (by omega)
  have s5 := stA_leaf (lim := 1) (A := A4) (H := H) (i := b) (o := S.length * 5 + 4) (v := vi ((f.i + 1 : Nat) : Int)) (c := cells) (by decide) rfl (join_of v4) (by omega)
  have hc' := set_top (j := 4) (v := vi ((f.i + 1 : Nat) : Int)) t5
  have h5 := h4.setTop hE (f' := ⟨f.n, f.regs, f.low, f.b, f.i + 1⟩) rfl t1 v4 (by simp; omega) hc'
  have k5 : (A4.set b (some (cells.set (S.length * 5 + 4) (vi ((f.i + 1 : Nat) : Int)))))[A3.length]? = some (some ((iD (getI (getB' (getP E.m f.n) f.b) f.i)).map AV.d)) := by rw [List.getElem?_set_ne (by omega)]; exact k4
  have k15 : (A4.set b (some (cells.set (S.length * 5 + 4) (vi ((f.i + 1 : Nat) : Int)))))[A.length]? = some (some (row (R, f))) := by rw [List.getElem?_set_ne (by omega)]; exact k14
  have k25 : (A4.set b (some (cells.set (S.length * 5 + 4) (vi ((f.i + 1 : Nat) : Int)))))[A1.length]? = some (some ((pD (getP E.m f.n)).map AV.d)) := by rw [List.getElem?_set_ne (by omega)]; exact k24
  have l5 : (A4.set b (some (cells.set (S.length * 5 + 4) (vi ((f.i + 1 : Nat) : Int))))).length = A.length + 4 := by simp [l4]
  generalize ((f.i + 1 : Nat) : Int) = fi1 at *
  generalize A4.set b (some (cells.set (S.length * 5 + 4) (vi fi1))) = A5 at *
  have jr5 := join_of h5.run
  have jq5 := join_of k5
  have jq15 := join_of k15
  have jq25 := join_of k25
  have hrl := hf.regs.len
  have hrw := hf.regs.w
  have hR5 := h5.regs (R, ⟨f.n, f.regs, f.low, f.b, f.i + 1⟩) (by simp)
  have hRA := h.regs (R, f) (by simp)
  simp only at hR5 hRA
  have hRlt := lt_of_get hRA.2
  have jR5 := join_of hR5.2
  have rd : ∀ k : Int, 0 ≤ k → k < (getP E.m f.n).regs → ixS 1 (.sl 0 R 0 f.regs.length 1) (vi k) = some (.ptr 0 R k.toNat) ∧ (f.regs.map vw)[k.toNat]? = some (vw (rg f.regs k)) := fun k a0 a1 => by
    have := ixS_nat (s := 1) (l := 0) (b := R) (o := 0) (n := f.regs.length) (z := 1) a0 (by omega)
    simp only [Nat.zero_add, Nat.mul_one] at this
    exact ⟨this, rg_map vw a0 (by omega)⟩
  have hio := hM.ins hf.n hf.b hlt
  have hnw := hM.numW hf.n hf.b hlt
  have ki0 := h.k0
  have kr := hE.r
  have km := hE.m
  have hst : stepR E.m E.inputs f (S.map (·.2)) s = .go (⟨f.n, wr f.regs (getI (getB' (getP E.m f.n) f.b) f.i).d (fnW (getI (getB' (getP E.m f.n) f.b) f.i).fn (rg f.regs (getI (getB' (getP E.m f.n) f.b) f.i).a) 0), f.low, f.b, f.i + 1⟩ :: S.map (·.2)) s := by
    unfold stepR
    rw [if_neg he, if_neg (by omega)]
    simp [insP, hop]
  rw [hst]
  generalize hii : (getI (getB' (getP E.m f.n) f.b) f.i) = ii at *
  have hrg := ins_regs hio (by omega)
  have hd := regOk_t (show regOk (getP E.m f.n) ii.d true = true by have := hrg.1; rwa [hop] at this)
  obtain ⟨gd, _⟩ := rd ii.d hd.1 hd.2
  have ha := regOk_t (show regOk (getP E.m f.n) ii.a true = true by have := hrg.2.1; rwa [hop] at this)
  obtain ⟨ga, ga2⟩ := rd ii.a ha.1 ha.2
  have i0 : (iD ii)[0]? = some (.int .i64 ii.op) := rfl
  have i1 : (iD ii)[1]? = some (.int .i64 ii.d) := rfl
  have i2 : (iD ii)[2]? = some (.int .i64 ii.a) := rfl
  have i4 : (iD ii)[4]? = some (.int .i64 ii.fn) := rfl
  have wa : ∀ k, W (rg f.regs k) := rg_w hrw
  have hfn := fun H => fn13 (d := d + 1) (lim := 1) (H := H) (fn := ii.fn) (wa ii.a) (show W 0 from ⟨by decide, by decide⟩)
  have s6 := stA_leaf (lim := 1) (A := A5) (H := H) (i := R) (o := ii.d.toNat) (v := vw (fnW ii.fn (rg f.regs ii.a) 0)) (c := f.regs.map vw) (by decide) rfl jR5 (by simp; omega)
  have hfin := h5.setRegs hE (r := wr f.regs ii.d (fnW ii.fn (rg f.regs ii.a) 0)) (wr_len _ _ _)
  rw [show (wr f.regs ii.d (fnW ii.fn (rg f.regs ii.a) 0)).map vw = (f.regs.map vw).set ii.d.toNat (vw (fnW ii.fn (rg f.regs ii.a) 0)) by simp [wr, List.map_set]] at hfin
  have k6 : (A5.set R (some ((f.regs.map vw).set ii.d.toNat (vw (fnW ii.fn (rg f.regs ii.a) 0)))))[A3.length]? = some (some ((iD ii).map AV.d)) := by rw [List.getElem?_set_ne (by omega)]; exact k5
  refine ⟨A5.set R (some ((f.regs.map vw).set ii.d.toNat (vw (fnW ii.fn (rg f.regs ii.a) 0)))), ?_, (R, ⟨f.n, wr f.regs ii.d (fnW ii.fn (rg f.regs ii.a) 0), f.low, f.b, f.i + 1⟩) :: S, o, tv, rfl, hfin⟩
  generalize A5.set R (some ((f.regs.map vw).set ii.d.toNat (vw (fnW ii.fn (rg f.regs ii.a) 0)))) = A6 at *
  have jq6 := join_of k6
  generalize row (R, f) = RW at *
  generalize bD (getB' (getP E.m f.n) f.b) = BD at *
  generalize pD (getP E.m f.n) = PD at *
  generalize iD ii = ID at *
  simp -implicitDefEqProofs [jr, c5, hln, abin_sub, w1, t6, jb, t7, s1, jr1, c2, jq1, r0, x1, y1, jrz, jqz, s2, jq2, pp5, jq12, r3, x2, y2, s3, jq3, bb0, hlb, jq13, r4, abin_eql, hne, x3, y3, s4, jr4, jq14, abin_add, w2, s5, jq5, i0, hop, jq15, r1, jR5, gd, s6, jq6, i1, i2, i4, ga, ga2, hfn]
theorem step22_7 (hE : RfOk E) (hM : MdOk E.m) (hI : InOk E.inputs) (h : RefAt E A ((R, f) :: S) s o tv 0 0 false) (hf : FrOk E.m f) (hg : ∀ y ∈ S, WtOk E.m y.2) (hS : S.length < 5000) (hin : s.ins < 1000000) (hol : s.out.length < 1000000) (he : f.i ≠ (getB' (getP E.m f.n) f.b).ins.length) (hop : (getI (getB' (getP E.m f.n) f.b) f.i).op = 7) : ∃ A', evCall Try.prog C (d + 6) 1 22 [.ptr 0 E.ri 0] (A :: H) = some (.tup [], A' :: H) ∧ RefR E A' (stepR E.m E.inputs f (S.map (·.2)) s) := by
  rw [evCall_inEq (fi := fi22) rfl rfl (b22 _ _ _ _)]
  unfold s22
  obtain ⟨b, cells, t1, t2, t3, t4, t5, t6, t7⟩ := h.topRead
  have hln : lnS tv = some (vi ((S.length : Int) + 1)) := h.top.len
  have w1 := wrap_ok (S.length : Int) (by omega) (by omega)
  have jr := join_of h.run
  have jb := join_of t3
  have c5 : (E.cells s o tv 0 0 false)[5]? = some tv := rfl
  have c2 : (E.cells s o tv 0 0 false)[2]? = some (.d (seqD E.m.pnl E.m.procs pD)) := rfl
  have hlA := lt_of_get t3
  obtain ⟨p1, q1, u1⟩ := seq_row (nl := E.m.pnl) (f := pD) (s := 6) (fun _ => rfl) (getP_of hf.n)
  have x1 := u1.ix
  have y1 := u1.all
  obtain ⟨p2, q2, u2⟩ := seq_row (nl := (getP E.m f.n).bnl) (f := bD) (s := 5) (fun _ => rfl) (getB_of hf.b)
  have x2 := u2.ix
  have y2 := u2.all
  have r0 : (row (R, f))[0]? = some (vi f.n) := rfl
  have r1 : (row (R, f))[1]? = some (.sl 0 R 0 f.regs.length 1) := rfl
  have r2 : (row (R, f))[2]? = some (vi f.low) := rfl
  have r3 : (row (R, f))[3]? = some (vi f.b) := rfl
  have r4 : (row (R, f))[4]? = some (vi f.i) := rfl
  have pp4 : (pD (getP E.m f.n))[4]? = some (seqD (getP E.m f.n).onl (getP E.m f.n).objs sD) := rfl
  have pp5 : (pD (getP E.m f.n))[5]? = some (seqD (getP E.m f.n).bnl (getP E.m f.n).blks bD) := rfl
  have bb0 : (bD (getB' (getP E.m f.n) f.b))[0]? = some (seqD (getB' (getP E.m f.n) f.b).inl (getB' (getP E.m f.n) f.b).ins iD) := rfl
  have hlb := seq_len (getB' (getP E.m f.n) f.b).inl (getB' (getP E.m f.n) f.b).ins iD
  have s1 := stA_new (n := 5) (lim := 1) (A := A) (H := H) (cs := row (R, f)) (c := [AV.d (.int .i64 0), .d (.seq true 0 []), .d (.int .i64 0), .d (.int .i64 0), .d (.int .i64 0)]) (by decide) rfl rfl rfl
  have h1 := h.push hE [some (row (R, f))]
  have k1 : (A ++ [some (row (R, f))])[A.length]? = some (some (row (R, f))) := by simp
  have l1 : (A ++ [some (row (R, f))]).length = A.length + 1 := by simp
  have v1 : (A ++ [some (row (R, f))])[b]? = some (some cells) := by rw [List.getElem?_append_left hlA]; exact t3
  generalize A ++ [some (row (R, f))] = A1 at *
  have jr1 := join_of h1.run
  have jq1 := join_of k1
  have jrz : ((A1 ++ [some [AV.d (.str ⟨#[]⟩), .d (.bool false), .d (.int .i64 0), .d (.int .i64 0), .d (.seq true 0 []), .d (.seq true 0 [])]])[E.ri]?).join = some (E.cells s o tv 0 0 false) := by rw [List.getElem?_append_left (lt_of_get h1.run)]; exact jr1
  have jqz : ((A1 ++ [some [AV.d (.str ⟨#[]⟩), .d (.bool false), .d (.int .i64 0), .d (.int .i64 0), .d (.seq true 0 []), .d (.seq true 0 [])]])[A.length]?).join = some (row (R, f)) := by rw [List.getElem?_append_left (by omega)]; exact jq1
  have s2 := stA_new (n := 6) (lim := 1) (A := A1) (H := H) (cs := (pD (getP E.m f.n)).map .d) (c := [AV.d (.str ⟨#[]⟩), .d (.bool false), .d (.int .i64 0), .d (.int .i64 0), .d (.seq true 0 []), .d (.seq true 0 [])]) (by decide) (all_leaf_d _) rfl rfl
  have h2 := h1.push hE [some ((pD (getP E.m f.n)).map AV.d)]
  have k2 : (A1 ++ [some ((pD (getP E.m f.n)).map AV.d)])[A1.length]? = some (some ((pD (getP E.m f.n)).map AV.d)) := by simp
  have l2 : (A1 ++ [some ((pD (getP E.m f.n)).map AV.d)]).length = A.length + 2 := by simp [l1]
  have k12 : (A1 ++ [some ((pD (getP E.m f.n)).map AV.d)])[A.length]? = some (some (row (R, f))) := by rw [List.getElem?_append_left (by omega)]; exact k1
  have v2 : (A1 ++ [some ((pD (getP E.m f.n)).map AV.d)])[b]? = some (some cells) := by rw [List.getElem?_append_left (by omega)]; exact v1
  generalize A1 ++ [some ((pD (getP E.m f.n)).map AV.d)] = A2 at *
  have jq2 := join_of k2
  have jq12 := join_of k12
  have s3 := stA_new (n := 5) (lim := 1) (A := A2) (H := H) (cs := (bD (getB' (getP E.m f.n) f.b)).map .d) (c := [AV.d (.seq true 0 []), .d (.int .i64 0), .d (.int .i64 0), .d (.int .i64 0), .d (.int .i64 0)]) (by decide) (all_leaf_d _) rfl rfl
  have h3 := h2.push hE [some ((bD (getB' (getP E.m f.n) f.b)).map AV.d)]
  have k3 : (A2 ++ [some ((bD (getB' (getP E.m f.n) f.b)).map AV.d)])[A2.length]? = some (some ((bD (getB' (getP E.m f.n) f.b)).map AV.d)) := by simp
  have l3 : (A2 ++ [some ((bD (getB' (getP E.m f.n) f.b)).map AV.d)]).length = A.length + 3 := by simp [l2]
  have k13 : (A2 ++ [some ((bD (getB' (getP E.m f.n) f.b)).map AV.d)])[A.length]? = some (some (row (R, f))) := by rw [List.getElem?_append_left (by omega)]; exact k12
  have k23 : (A2 ++ [some ((bD (getB' (getP E.m f.n) f.b)).map AV.d)])[A1.length]? = some (some ((pD (getP E.m f.n)).map AV.d)) := by rw [List.getElem?_append_left (by omega)]; exact k2
  have v3 : (A2 ++ [some ((bD (getB' (getP E.m f.n) f.b)).map AV.d)])[b]? = some (some cells) := by rw [List.getElem?_append_left (by omega)]; exact v2
  generalize A2 ++ [some ((bD (getB' (getP E.m f.n) f.b)).map AV.d)] = A3 at *
  have jq3 := join_of k3
  have jq13 := join_of k13
  have hfi := hf.i
  have hlt : f.i < (getB' (getP E.m f.n) f.b).ins.length := by omega
  have hne : ¬ ((f.i : Int) = (getB' (getP E.m f.n) f.b).ins.length) := by omega
  have h60 := hM.insLen hf.n hf.b
  obtain ⟨p3, q3, u3⟩ := seq_row (nl := (getB' (getP E.m f.n) f.b).inl) (f := iD) (s := 11) (fun _ => rfl) (getI_of hlt)
  have x3 := u3.ix
  have y3 := u3.all
  have s4 := stA_new (n := 11) (lim := 1) (A := A3) (H := H) (cs := (iD (getI (getB' (getP E.m f.n) f.b) f.i)).map .d) (c := [AV.d (.int .i64 0), .d (.int .i64 0), .d (.int .i64 0), .d (.int .i64 0), .d (.int .i64 0), .d (.int .i64 0), .d (.int .i64 0), .d (.int .i64 0), .d (.int .u32 0), .d (.seq true 0 []), .d (.bool false)]) (by decide) (all_leaf_d _) rfl rfl
  have h4 := h3.push hE [some ((iD (getI (getB' (getP E.m f.n) f.b) f.i)).map AV.d)]
  have k4 : (A3 ++ [some ((iD (getI (getB' (getP E.m f.n) f.b) f.i)).map AV.d)])[A3.length]? = some (some ((iD (getI (getB' (getP E.m f.n) f.b) f.i)).map AV.d)) := by simp
  have l4 : (A3 ++ [some ((iD (getI (getB' (getP E.m f.n) f.b) f.i)).map AV.d)]).length = A.length + 4 := by simp [l3]
  have k14 : (A3 ++ [some ((iD (getI (getB' (getP E.m f.n) f.b) f.i)).map AV.d)])[A.length]? = some (some (row (R, f))) := by rw [List.getElem?_append_left (by omega)]; exact k13
  have k24 : (A3 ++ [some ((iD (getI (getB' (getP E.m f.n) f.b) f.i)).map AV.d)])[A1.length]? = some (some ((pD (getP E.m f.n)).map AV.d)) := by rw [List.getElem?_append_left (by omega)]; exact k23
  have v4 : (A3 ++ [some ((iD (getI (getB' (getP E.m f.n) f.b) f.i)).map AV.d)])[b]? = some (some cells) := by rw [List.getElem?_append_left (by omega)]; exact v3
  generalize A3 ++ [some ((iD (getI (getB' (getP E.m f.n) f.b) f.i)).map AV.d)] = A4 at *
  have jr4 := join_of h4.run
  have jq14 := join_of k14
  have w2 : IntKind.i64.wrap ((f.i : Int) + 1) = ((f.i + 1 : Nat) : Int) := wrap_ok _ (by omega) (by omega)
  have s5 := stA_leaf (lim := 1) (A := A4) (H := H) (i := b) (o := S.length * 5 + 4) (v := vi ((f.i + 1 : Nat) : Int)) (c := cells) (by decide) rfl (join_of v4) (by omega)
  have hc' := set_top (j := 4) (v := vi ((f.i + 1 : Nat) : Int)) t5
  have h5 := h4.setTop hE (f' := ⟨f.n, f.regs, f.low, f.b, f.i + 1⟩) rfl t1 v4 (by simp; omega) hc'
  have k5 : (A4.set b (some (cells.set (S.length * 5 + 4) (vi ((f.i + 1 : Nat) : Int)))))[A3.length]? = some (some ((iD (getI (getB' (getP E.m f.n) f.b) f.i)).map AV.d)) := by rw [List.getElem?_set_ne (by omega)]; exact k4
  have k15 : (A4.set b (some (cells.set (S.length * 5 + 4) (vi ((f.i + 1 : Nat) : Int)))))[A.length]? = some (some (row (R, f))) := by rw [List.getElem?_set_ne (by omega)]; exact k14
  have k25 : (A4.set b (some (cells.set (S.length * 5 + 4) (vi ((f.i + 1 : Nat) : Int)))))[A1.length]? = some (some ((pD (getP E.m f.n)).map AV.d)) := by rw [List.getElem?_set_ne (by omega)]; exact k24
  have l5 : (A4.set b (some (cells.set (S.length * 5 + 4) (vi ((f.i + 1 : Nat) : Int))))).length = A.length + 4 := by simp [l4]
  generalize ((f.i + 1 : Nat) : Int) = fi1 at *
  generalize A4.set b (some (cells.set (S.length * 5 + 4) (vi fi1))) = A5 at *
  have jr5 := join_of h5.run
  have jq5 := join_of k5
  have jq15 := join_of k15
  have jq25 := join_of k25
  have hrl := hf.regs.len
  have hrw := hf.regs.w
  have hR5 := h5.regs (R, ⟨f.n, f.regs, f.low, f.b, f.i + 1⟩) (by simp)
  have hRA := h.regs (R, f) (by simp)
  simp only at hR5 hRA
  have hRlt := lt_of_get hRA.2
  have jR5 := join_of hR5.2
  have rd : ∀ k : Int, 0 ≤ k → k < (getP E.m f.n).regs → ixS 1 (.sl 0 R 0 f.regs.length 1) (vi k) = some (.ptr 0 R k.toNat) ∧ (f.regs.map vw)[k.toNat]? = some (vw (rg f.regs k)) := fun k a0 a1 => by
    have := ixS_nat (s := 1) (l := 0) (b := R) (o := 0) (n := f.regs.length) (z := 1) a0 (by omega)
    simp only [Nat.zero_add, Nat.mul_one] at this
    exact ⟨this, rg_map vw a0 (by omega)⟩
  have hio := hM.ins hf.n hf.b hlt
  have hnw := hM.numW hf.n hf.b hlt
  have ki0 := h.k0
  have kr := hE.r
  have km := hE.m
  have hst : stepR E.m E.inputs f (S.map (·.2)) s = .go (⟨f.n, wr f.regs (getI (getB' (getP E.m f.n) f.b) f.i).d ((268435456 + f.low + plAt (getP E.m f.n).objs (getI (getB' (getP E.m f.n) f.b) f.i).obj.toNat + (getI (getB' (getP E.m f.n) f.b) f.i).off) % 4294967296), f.low, f.b, f.i + 1⟩ :: S.map (·.2)) s := by
    unfold stepR
    rw [if_neg he, if_neg (by omega)]
    simp [insP, hop]
  rw [hst]
  generalize hii : (getI (getB' (getP E.m f.n) f.b) f.i) = ii at *
  have hrg := ins_regs hio (by omega)
  have hd := regOk_t (show regOk (getP E.m f.n) ii.d true = true by have := hrg.1; rwa [hop] at this)
  obtain ⟨gd, _⟩ := rd ii.d hd.1 hd.2
  have i0 : (iD ii)[0]? = some (.int .i64 ii.op) := rfl
  have i1 : (iD ii)[1]? = some (.int .i64 ii.d) := rfl
  have i5 : (iD ii)[5]? = some (.int .i64 ii.obj) := rfl
  have i6 : (iD ii)[6]? = some (.int .i64 ii.off) := rfl
  have hrs := hrg.2.2.2
  simp only [restOk, hop, offOk] at hrs
  simp at hrs
  obtain ⟨n, hn2⟩ : ∃ n : Nat, ii.obj = n := ⟨ii.obj.toNat, by omega⟩
  rw [hn2] at hrs i5
  have hln2 : n < (getP E.m f.n).objs.length := by omega
  rw [hn2, Int.toNat_natCast]
  obtain ⟨qa, hqa, hqb⟩ := plV_read hln2
  have hlow : endG E.m ≤ f.low := hf.lo
  have heg := (endG_ok hM).1
  have hhi := hf.hi
  have hpo := plAt_ok (hM.small hf.n).2 n
  have hol2 := (hM.small hf.n).1
  have hpl : ∀ H, evCall Try.prog C (d + 5) 1 15 [.d (seqD (getP E.m f.n).onl (getP E.m f.n).objs sD)] H = some (.tup [plV (getP E.m f.n).objs, vi (longP (getP E.m f.n))], H) := fun H => place15 (d := d + 3) (hM.small hf.n)
  have e1 := wrap_ok (268435456 + f.low) (by omega) (by omega)
  have e2 := wrap_ok (268435456 + f.low + plAt (getP E.m f.n).objs n) (by omega) (by omega)
  have e3 := wrap_ok (268435456 + f.low + plAt (getP E.m f.n).objs n + ii.off) (by omega) (by omega)
  have hcu := fun H => cut_ok (d := d + 4) (lim := 1) (H := H) (n := 268435456 + f.low + plAt (getP E.m f.n).objs n + ii.off)
  have s6 := stA_leaf (lim := 1) (A := A5) (H := H) (i := R) (o := ii.d.toNat) (v := vw ((268435456 + f.low + plAt (getP E.m f.n).objs n + ii.off) % 4294967296)) (c := f.regs.map vw) (by decide) rfl jR5 (by simp; omega)
  have hfin := h5.setRegs hE (r := wr f.regs ii.d ((268435456 + f.low + plAt (getP E.m f.n).objs n + ii.off) % 4294967296)) (wr_len _ _ _)
  rw [show (wr f.regs ii.d ((268435456 + f.low + plAt (getP E.m f.n).objs n + ii.off) % 4294967296)).map vw = (f.regs.map vw).set ii.d.toNat (vw ((268435456 + f.low + plAt (getP E.m f.n).objs n + ii.off) % 4294967296)) by simp [wr, List.map_set]] at hfin
  have k6 : (A5.set R (some ((f.regs.map vw).set ii.d.toNat (vw ((268435456 + f.low + plAt (getP E.m f.n).objs n + ii.off) % 4294967296)))))[A3.length]? = some (some ((iD ii).map AV.d)) := by rw [List.getElem?_set_ne (by omega)]; exact k5
  refine ⟨A5.set R (some ((f.regs.map vw).set ii.d.toNat (vw ((268435456 + f.low + plAt (getP E.m f.n).objs n + ii.off) % 4294967296)))), ?_, (R, ⟨f.n, wr f.regs ii.d ((268435456 + f.low + plAt (getP E.m f.n).objs n + ii.off) % 4294967296), f.low, f.b, f.i + 1⟩) :: S, o, tv, rfl, hfin⟩
  generalize A5.set R (some ((f.regs.map vw).set ii.d.toNat (vw ((268435456 + f.low + plAt (getP E.m f.n).objs n + ii.off) % 4294967296)))) = A6 at *
  have jq6 := join_of k6
  generalize row (R, f) = RW at *
  generalize bD (getB' (getP E.m f.n) f.b) = BD at *
  generalize pD (getP E.m f.n) = PD at *
  generalize iD ii = ID at *
  simp -implicitDefEqProofs [jr, c5, hln, abin_sub, w1, t6, jb, t7, s1, jr1, c2, jq1, r0, x1, y1, jrz, jqz, s2, jq2, pp5, jq12, r3, x2, y2, s3, jq3, bb0, hlb, jq13, r4, abin_eql, hne, x3, y3, s4, jr4, jq14, abin_add, w2, s5, jq5, i0, hop, jq15, r1, jR5, gd, s6, jq6, i1, i5, i6, jq25, pp4, hpl, r2, hqa, hqb, e1, e2, e3, hcu]
theorem step22_8 (hE : RfOk E) (hM : MdOk E.m) (hI : InOk E.inputs) (h : RefAt E A ((R, f) :: S) s o tv 0 0 false) (hf : FrOk E.m f) (hg : ∀ y ∈ S, WtOk E.m y.2) (hS : S.length < 5000) (hin : s.ins < 1000000) (hol : s.out.length < 1000000) (he : f.i ≠ (getB' (getP E.m f.n) f.b).ins.length) (hop : (getI (getB' (getP E.m f.n) f.b) f.i).op = 8) : ∃ A', evCall Try.prog C (d + 6) 1 22 [.ptr 0 E.ri 0] (A :: H) = some (.tup [], A' :: H) ∧ RefR E A' (stepR E.m E.inputs f (S.map (·.2)) s) := by
  rw [evCall_inEq (fi := fi22) rfl rfl (b22 _ _ _ _)]
  unfold s22
  obtain ⟨b, cells, t1, t2, t3, t4, t5, t6, t7⟩ := h.topRead
  have hln : lnS tv = some (vi ((S.length : Int) + 1)) := h.top.len
  have w1 := wrap_ok (S.length : Int) (by omega) (by omega)
  have jr := join_of h.run
  have jb := join_of t3
  have c5 : (E.cells s o tv 0 0 false)[5]? = some tv := rfl
  have c2 : (E.cells s o tv 0 0 false)[2]? = some (.d (seqD E.m.pnl E.m.procs pD)) := rfl
  have hlA := lt_of_get t3
  obtain ⟨p1, q1, u1⟩ := seq_row (nl := E.m.pnl) (f := pD) (s := 6) (fun _ => rfl) (getP_of hf.n)
  have x1 := u1.ix
  have y1 := u1.all
  obtain ⟨p2, q2, u2⟩ := seq_row (nl := (getP E.m f.n).bnl) (f := bD) (s := 5) (fun _ => rfl) (getB_of hf.b)
  have x2 := u2.ix
  have y2 := u2.all
  have r0 : (row (R, f))[0]? = some (vi f.n) := rfl
  have r1 : (row (R, f))[1]? = some (.sl 0 R 0 f.regs.length 1) := rfl
  have r2 : (row (R, f))[2]? = some (vi f.low) := rfl
  have r3 : (row (R, f))[3]? = some (vi f.b) := rfl
  have r4 : (row (R, f))[4]? = some (vi f.i) := rfl
  have pp4 : (pD (getP E.m f.n))[4]? = some (seqD (getP E.m f.n).onl (getP E.m f.n).objs sD) := rfl
  have pp5 : (pD (getP E.m f.n))[5]? = some (seqD (getP E.m f.n).bnl (getP E.m f.n).blks bD) := rfl
  have bb0 : (bD (getB' (getP E.m f.n) f.b))[0]? = some (seqD (getB' (getP E.m f.n) f.b).inl (getB' (getP E.m f.n) f.b).ins iD) := rfl
  have hlb := seq_len (getB' (getP E.m f.n) f.b).inl (getB' (getP E.m f.n) f.b).ins iD
  have s1 := stA_new (n := 5) (lim := 1) (A := A) (H := H) (cs := row (R, f)) (c := [AV.d (.int .i64 0), .d (.seq true 0 []), .d (.int .i64 0), .d (.int .i64 0), .d (.int .i64 0)]) (by decide) rfl rfl rfl
  have h1 := h.push hE [some (row (R, f))]
  have k1 : (A ++ [some (row (R, f))])[A.length]? = some (some (row (R, f))) := by simp
  have l1 : (A ++ [some (row (R, f))]).length = A.length + 1 := by simp
  have v1 : (A ++ [some (row (R, f))])[b]? = some (some cells) := by rw [List.getElem?_append_left hlA]; exact t3
  generalize A ++ [some (row (R, f))] = A1 at *
  have jr1 := join_of h1.run
  have jq1 := join_of k1
  have jrz : ((A1 ++ [some [AV.d (.str ⟨#[]⟩), .d (.bool false), .d (.int .i64 0), .d (.int .i64 0), .d (.seq true 0 []), .d (.seq true 0 [])]])[E.ri]?).join = some (E.cells s o tv 0 0 false) := by rw [List.getElem?_append_left (lt_of_get h1.run)]; exact jr1
  have jqz : ((A1 ++ [some [AV.d (.str ⟨#[]⟩), .d (.bool false), .d (.int .i64 0), .d (.int .i64 0), .d (.seq true 0 []), .d (.seq true 0 [])]])[A.length]?).join = some (row (R, f)) := by rw [List.getElem?_append_left (by omega)]; exact jq1
  have s2 := stA_new (n := 6) (lim := 1) (A := A1) (H := H) (cs := (pD (getP E.m f.n)).map .d) (c := [AV.d (.str ⟨#[]⟩), .d (.bool false), .d (.int .i64 0), .d (.int .i64 0), .d (.seq true 0 []), .d (.seq true 0 [])]) (by decide) (all_leaf_d _) rfl rfl
  have h2 := h1.push hE [some ((pD (getP E.m f.n)).map AV.d)]
  have k2 : (A1 ++ [some ((pD (getP E.m f.n)).map AV.d)])[A1.length]? = some (some ((pD (getP E.m f.n)).map AV.d)) := by simp
  have l2 : (A1 ++ [some ((pD (getP E.m f.n)).map AV.d)]).length = A.length + 2 := by simp [l1]
  have k12 : (A1 ++ [some ((pD (getP E.m f.n)).map AV.d)])[A.length]? = some (some (row (R, f))) := by rw [List.getElem?_append_left (by omega)]; exact k1
  have v2 : (A1 ++ [some ((pD (getP E.m f.n)).map AV.d)])[b]? = some (some cells) := by rw [List.getElem?_append_left (by omega)]; exact v1
  generalize A1 ++ [some ((pD (getP E.m f.n)).map AV.d)] = A2 at *
  have jq2 := join_of k2
  have jq12 := join_of k12
  have s3 := stA_new (n := 5) (lim := 1) (A := A2) (H := H) (cs := (bD (getB' (getP E.m f.n) f.b)).map .d) (c := [AV.d (.seq true 0 []), .d (.int .i64 0), .d (.int .i64 0), .d (.int .i64 0), .d (.int .i64 0)]) (by decide) (all_leaf_d _) rfl rfl
  have h3 := h2.push hE [some ((bD (getB' (getP E.m f.n) f.b)).map AV.d)]
  have k3 : (A2 ++ [some ((bD (getB' (getP E.m f.n) f.b)).map AV.d)])[A2.length]? = some (some ((bD (getB' (getP E.m f.n) f.b)).map AV.d)) := by simp
  have l3 : (A2 ++ [some ((bD (getB' (getP E.m f.n) f.b)).map AV.d)]).length = A.length + 3 := by simp [l2]
  have k13 : (A2 ++ [some ((bD (getB' (getP E.m f.n) f.b)).map AV.d)])[A.length]? = some (some (row (R, f))) := by rw [List.getElem?_append_left (by omega)]; exact k12
  have k23 : (A2 ++ [some ((bD (getB' (getP E.m f.n) f.b)).map AV.d)])[A1.length]? = some (some ((pD (getP E.m f.n)).map AV.d)) := by rw [List.getElem?_append_left (by omega)]; exact k2
  have v3 : (A2 ++ [some ((bD (getB' (getP E.m f.n) f.b)).map AV.d)])[b]? = some (some cells) := by rw [List.getElem?_append_left (by omega)]; exact v2
  generalize A2 ++ [some ((bD (getB' (getP E.m f.n) f.b)).map AV.d)] = A3 at *
  have jq3 := join_of k3
  have jq13 := join_of k13
  have hfi := hf.i
  have hlt : f.i < (getB' (getP E.m f.n) f.b).ins.length := by omega
  have hne : ¬ ((f.i : Int) = (getB' (getP E.m f.n) f.b).ins.length) := by omega
  have h60 := hM.insLen hf.n hf.b
  obtain ⟨p3, q3, u3⟩ := seq_row (nl := (getB' (getP E.m f.n) f.b).inl) (f := iD) (s := 11) (fun _ => rfl) (getI_of hlt)
  have x3 := u3.ix
  have y3 := u3.all
  have s4 := stA_new (n := 11) (lim := 1) (A := A3) (H := H) (cs := (iD (getI (getB' (getP E.m f.n) f.b) f.i)).map .d) (c := [AV.d (.int .i64 0), .d (.int .i64 0), .d (.int .i64 0), .d (.int .i64 0), .d (.int .i64 0), .d (.int .i64 0), .d (.int .i64 0), .d (.int .i64 0), .d (.int .u32 0), .d (.seq true 0 []), .d (.bool false)]) (by decide) (all_leaf_d _) rfl rfl
  have h4 := h3.push hE [some ((iD (getI (getB' (getP E.m f.n) f.b) f.i)).map AV.d)]
  have k4 : (A3 ++ [some ((iD (getI (getB' (getP E.m f.n) f.b) f.i)).map AV.d)])[A3.length]? = some (some ((iD (getI (getB' (getP E.m f.n) f.b) f.i)).map AV.d)) := by simp
  have l4 : (A3 ++ [some ((iD (getI (getB' (getP E.m f.n) f.b) f.i)).map AV.d)]).length = A.length + 4 := by simp [l3]
  have k14 : (A3 ++ [some ((iD (getI (getB' (getP E.m f.n) f.b) f.i)).map AV.d)])[A.length]? = some (some (row (R, f))) := by rw [List.getElem?_append_left (by omega)]; exact k13
  have k24 : (A3 ++ [some ((iD (getI (getB' (getP E.m f.n) f.b) f.i)).map AV.d)])[A1.length]? = some (some ((pD (getP E.m f.n)).map AV.d)) := by rw [List.getElem?_append_left (by omega)]; exact k23
  have v4 : (A3 ++ [some ((iD (getI (getB' (getP E.m f.n) f.b) f.i)).map AV.d)])[b]? = some (some cells) := by rw [List.getElem?_append_left (by omega)]; exact v3
  generalize A3 ++ [some ((iD (getI (getB' (getP E.m f.n) f.b) f.i)).map AV.d)] = A4 at *
  have jr4 := join_of h4.run
  have jq14 := join_of k14
  have w2 : IntKind.i64.wrap ((f.i : Int) + 1) = ((f.i + 1 : Nat) : Int) := wrap_ok _ (by omega) (by omega)
  have s5 := stA_leaf (lim := 1) (A := A4) (H := H) (i := b) (o := S.length * 5 + 4) (v := vi ((f.i + 1 : Nat) : Int)) (c := cells) (by decide) rfl (join_of v4) (by omega)
  have hc' := set_top (j := 4) (v := vi ((f.i + 1 : Nat) : Int)) t5
  have h5 := h4.setTop hE (f' := ⟨f.n, f.regs, f.low, f.b, f.i + 1⟩) rfl t1 v4 (by simp; omega) hc'
  have k5 : (A4.set b (some (cells.set (S.length * 5 + 4) (vi ((f.i + 1 : Nat) : Int)))))[A3.length]? = some (some ((iD (getI (getB' (getP E.m f.n) f.b) f.i)).map AV.d)) := by rw [List.getElem?_set_ne (by omega)]; exact k4
  have k15 : (A4.set b (some (cells.set (S.length * 5 + 4) (vi ((f.i + 1 : Nat) : Int)))))[A.length]? = some (some (row (R, f))) := by rw [List.getElem?_set_ne (by omega)]; exact k14
  have k25 : (A4.set b (some (cells.set (S.length * 5 + 4) (vi ((f.i + 1 : Nat) : Int)))))[A1.length]? = some (some ((pD (getP E.m f.n)).map AV.d)) := by rw [List.getElem?_set_ne (by omega)]; exact k24
  have l5 : (A4.set b (some (cells.set (S.length * 5 + 4) (vi ((f.i + 1 : Nat) : Int))))).length = A.length + 4 := by simp [l4]
  generalize ((f.i + 1 : Nat) : Int) = fi1 at *
  generalize A4.set b (some (cells.set (S.length * 5 + 4) (vi fi1))) = A5 at *
  have jr5 := join_of h5.run
  have jq5 := join_of k5
  have jq15 := join_of k15
  have jq25 := join_of k25
  have hrl := hf.regs.len
  have hrw := hf.regs.w
  have hR5 := h5.regs (R, ⟨f.n, f.regs, f.low, f.b, f.i + 1⟩) (by simp)
  have hRA := h.regs (R, f) (by simp)
  simp only at hR5 hRA
  have hRlt := lt_of_get hRA.2
  have jR5 := join_of hR5.2
  have rd : ∀ k : Int, 0 ≤ k → k < (getP E.m f.n).regs → ixS 1 (.sl 0 R 0 f.regs.length 1) (vi k) = some (.ptr 0 R k.toNat) ∧ (f.regs.map vw)[k.toNat]? = some (vw (rg f.regs k)) := fun k a0 a1 => by
    have := ixS_nat (s := 1) (l := 0) (b := R) (o := 0) (n := f.regs.length) (z := 1) a0 (by omega)
    simp only [Nat.zero_add, Nat.mul_one] at this
    exact ⟨this, rg_map vw a0 (by omega)⟩
  have hio := hM.ins hf.n hf.b hlt
  have hnw := hM.numW hf.n hf.b hlt
  have ki0 := h.k0
  have kr := hE.r
  have km := hE.m
  have hst : stepR E.m E.inputs f (S.map (·.2)) s = .go (⟨f.n, wr f.regs (getI (getB' (getP E.m f.n) f.b) f.i).d ((268439552 + plAt E.m.globs (getI (getB' (getP E.m f.n) f.b) f.i).obj.toNat + (getI (getB' (getP E.m f.n) f.b) f.i).off) % 4294967296), f.low, f.b, f.i + 1⟩ :: S.map (·.2)) s := by
    unfold stepR
    rw [if_neg he, if_neg (by omega)]
    simp [insP, hop]
  rw [hst]
  generalize hii : (getI (getB' (getP E.m f.n) f.b) f.i) = ii at *
  have hrg := ins_regs hio (by omega)
  have hd := regOk_t (show regOk (getP E.m f.n) ii.d true = true by have := hrg.1; rwa [hop] at this)
  obtain ⟨gd, _⟩ := rd ii.d hd.1 hd.2
  have i0 : (iD ii)[0]? = some (.int .i64 ii.op) := rfl
  have i1 : (iD ii)[1]? = some (.int .i64 ii.d) := rfl
  have i5 : (iD ii)[5]? = some (.int .i64 ii.obj) := rfl
  have i6 : (iD ii)[6]? = some (.int .i64 ii.off) := rfl
  have hrs := hrg.2.2.2
  simp only [restOk, hop, offOk] at hrs
  simp at hrs
  obtain ⟨n, hn2⟩ : ∃ n : Nat, ii.obj = n := ⟨ii.obj.toNat, by omega⟩
  rw [hn2] at hrs i5
  have hln2 : n < E.m.globs.length := by omega
  rw [hn2, Int.toNat_natCast]
  obtain ⟨qa, hqa, hqb⟩ := plV_read hln2
  have hpo := plAt_ok hM.smallG.2 n
  have hol2 := hM.smallG.1
  have c0 : (E.cells s o tv 0 0 false)[0]? = some (.d (seqD E.m.gnl E.m.globs sD)) := rfl
  have hpl : ∀ H, evCall Try.prog C (d + 5) 1 15 [.d (seqD E.m.gnl E.m.globs sD)] H = some (.tup [plV E.m.globs, vi (plAt E.m.globs E.m.globs.length)], H) := fun H => place15 (d := d + 3) hM.smallG
  have e2 := wrap_ok (268439552 + plAt E.m.globs n) (by omega) (by omega)
  have e3 := wrap_ok (268439552 + plAt E.m.globs n + ii.off) (by omega) (by omega)
  have hcu := fun H => cut_ok (d := d + 4) (lim := 1) (H := H) (n := 268439552 + plAt E.m.globs n + ii.off)
  have s6 := stA_leaf (lim := 1) (A := A5) (H := H) (i := R) (o := ii.d.toNat) (v := vw ((268439552 + plAt E.m.globs n + ii.off) % 4294967296)) (c := f.regs.map vw) (by decide) rfl jR5 (by simp; omega)
  have hfin := h5.setRegs hE (r := wr f.regs ii.d ((268439552 + plAt E.m.globs n + ii.off) % 4294967296)) (wr_len _ _ _)
  rw [show (wr f.regs ii.d ((268439552 + plAt E.m.globs n + ii.off) % 4294967296)).map vw = (f.regs.map vw).set ii.d.toNat (vw ((268439552 + plAt E.m.globs n + ii.off) % 4294967296)) by simp [wr, List.map_set]] at hfin
  have k6 : (A5.set R (some ((f.regs.map vw).set ii.d.toNat (vw ((268439552 + plAt E.m.globs n + ii.off) % 4294967296)))))[A3.length]? = some (some ((iD ii).map AV.d)) := by rw [List.getElem?_set_ne (by omega)]; exact k5
  refine ⟨A5.set R (some ((f.regs.map vw).set ii.d.toNat (vw ((268439552 + plAt E.m.globs n + ii.off) % 4294967296)))), ?_, (R, ⟨f.n, wr f.regs ii.d ((268439552 + plAt E.m.globs n + ii.off) % 4294967296), f.low, f.b, f.i + 1⟩) :: S, o, tv, rfl, hfin⟩
  generalize A5.set R (some ((f.regs.map vw).set ii.d.toNat (vw ((268439552 + plAt E.m.globs n + ii.off) % 4294967296)))) = A6 at *
  have jq6 := join_of k6
  generalize row (R, f) = RW at *
  generalize bD (getB' (getP E.m f.n) f.b) = BD at *
  generalize pD (getP E.m f.n) = PD at *
  generalize iD ii = ID at *
  simp -implicitDefEqProofs [jr, c5, hln, abin_sub, w1, t6, jb, t7, s1, jr1, c2, jq1, r0, x1, y1, jrz, jqz, s2, jq2, pp5, jq12, r3, x2, y2, s3, jq3, bb0, hlb, jq13, r4, abin_eql, hne, x3, y3, s4, jr4, jq14, abin_add, w2, s5, jq5, i0, hop, jq15, r1, jR5, gd, s6, jq6, i1, i5, i6, jr5, c0, hpl, hqa, hqb, e2, e3, hcu]
theorem step22_12 (hE : RfOk E) (hM : MdOk E.m) (hI : InOk E.inputs) (h : RefAt E A ((R, f) :: S) s o tv 0 0 false) (hf : FrOk E.m f) (hg : ∀ y ∈ S, WtOk E.m y.2) (hS : S.length < 5000) (hin : s.ins < 1000000) (hol : s.out.length < 1000000) (he : f.i ≠ (getB' (getP E.m f.n) f.b).ins.length) (hop : (getI (getB' (getP E.m f.n) f.b) f.i).op = 12) : ∃ A', evCall Try.prog C (d + 6) 1 22 [.ptr 0 E.ri 0] (A :: H) = some (.tup [], A' :: H) ∧ RefR E A' (stepR E.m E.inputs f (S.map (·.2)) s) := by
  rw [evCall_inEq (fi := fi22) rfl rfl (b22 _ _ _ _)]
  unfold s22
  obtain ⟨b, cells, t1, t2, t3, t4, t5, t6, t7⟩ := h.topRead
  have hln : lnS tv = some (vi ((S.length : Int) + 1)) := h.top.len
  have w1 := wrap_ok (S.length : Int) (by omega) (by omega)
  have jr := join_of h.run
  have jb := join_of t3
  have c5 : (E.cells s o tv 0 0 false)[5]? = some tv := rfl
  have c2 : (E.cells s o tv 0 0 false)[2]? = some (.d (seqD E.m.pnl E.m.procs pD)) := rfl
  have hlA := lt_of_get t3
  obtain ⟨p1, q1, u1⟩ := seq_row (nl := E.m.pnl) (f := pD) (s := 6) (fun _ => rfl) (getP_of hf.n)
  have x1 := u1.ix
  have y1 := u1.all
  obtain ⟨p2, q2, u2⟩ := seq_row (nl := (getP E.m f.n).bnl) (f := bD) (s := 5) (fun _ => rfl) (getB_of hf.b)
  have x2 := u2.ix
  have y2 := u2.all
  have r0 : (row (R, f))[0]? = some (vi f.n) := rfl
  have r1 : (row (R, f))[1]? = some (.sl 0 R 0 f.regs.length 1) := rfl
  have r2 : (row (R, f))[2]? = some (vi f.low) := rfl
  have r3 : (row (R, f))[3]? = some (vi f.b) := rfl
  have r4 : (row (R, f))[4]? = some (vi f.i) := rfl
  have pp4 : (pD (getP E.m f.n))[4]? = some (seqD (getP E.m f.n).onl (getP E.m f.n).objs sD) := rfl
  have pp5 : (pD (getP E.m f.n))[5]? = some (seqD (getP E.m f.n).bnl (getP E.m f.n).blks bD) := rfl
  have bb0 : (bD (getB' (getP E.m f.n) f.b))[0]? = some (seqD (getB' (getP E.m f.n) f.b).inl (getB' (getP E.m f.n) f.b).ins iD) := rfl
  have hlb := seq_len (getB' (getP E.m f.n) f.b).inl (getB' (getP E.m f.n) f.b).ins iD
  have s1 := stA_new (n := 5) (lim := 1) (A := A) (H := H) (cs := row (R, f)) (c := [AV.d (.int .i64 0), .d (.seq true 0 []), .d (.int .i64 0), .d (.int .i64 0), .d (.int .i64 0)]) (by decide) rfl rfl rfl
  have h1 := h.push hE [some (row (R, f))]
  have k1 : (A ++ [some (row (R, f))])[A.length]? = some (some (row (R, f))) := by simp
  have l1 : (A ++ [some (row (R, f))]).length = A.length + 1 := by simp
  have v1 : (A ++ [some (row (R, f))])[b]? = some (some cells) := by rw [List.getElem?_append_left hlA]; exact t3
  generalize A ++ [some (row (R, f))] = A1 at *
  have jr1 := join_of h1.run
  have jq1 := join_of k1
  have jrz : ((A1 ++ [some [AV.d (.str ⟨#[]⟩), .d (.bool false), .d (.int .i64 0), .d (.int .i64 0), .d (.seq true 0 []), .d (.seq true 0 [])]])[E.ri]?).join = some (E.cells s o tv 0 0 false) := by rw [List.getElem?_append_left (lt_of_get h1.run)]; exact jr1
  have jqz : ((A1 ++ [some [AV.d (.str ⟨#[]⟩), .d (.bool false), .d (.int .i64 0), .d (.int .i64 0), .d (.seq true 0 []), .d (.seq true 0 [])]])[A.length]?).join = some (row (R, f)) := by rw [List.getElem?_append_left (by omega)]; exact jq1
  have s2 := stA_new (n := 6) (lim := 1) (A := A1) (H := H) (cs := (pD (getP E.m f.n)).map .d) (c := [AV.d (.str ⟨#[]⟩), .d (.bool false), .d (.int .i64 0), .d (.int .i64 0), .d (.seq true 0 []), .d (.seq true 0 [])]) (by decide) (all_leaf_d _) rfl rfl
  have h2 := h1.push hE [some ((pD (getP E.m f.n)).map AV.d)]
  have k2 : (A1 ++ [some ((pD (getP E.m f.n)).map AV.d)])[A1.length]? = some (some ((pD (getP E.m f.n)).map AV.d)) := by simp
  have l2 : (A1 ++ [some ((pD (getP E.m f.n)).map AV.d)]).length = A.length + 2 := by simp [l1]
  have k12 : (A1 ++ [some ((pD (getP E.m f.n)).map AV.d)])[A.length]? = some (some (row (R, f))) := by rw [List.getElem?_append_left (by omega)]; exact k1
  have v2 : (A1 ++ [some ((pD (getP E.m f.n)).map AV.d)])[b]? = some (some cells) := by rw [List.getElem?_append_left (by omega)]; exact v1
  generalize A1 ++ [some ((pD (getP E.m f.n)).map AV.d)] = A2 at *
  have jq2 := join_of k2
  have jq12 := join_of k12
  have s3 := stA_new (n := 5) (lim := 1) (A := A2) (H := H) (cs := (bD (getB' (getP E.m f.n) f.b)).map .d) (c := [AV.d (.seq true 0 []), .d (.int .i64 0), .d (.int .i64 0), .d (.int .i64 0), .d (.int .i64 0)]) (by decide) (all_leaf_d _) rfl rfl
  have h3 := h2.push hE [some ((bD (getB' (getP E.m f.n) f.b)).map AV.d)]
  have k3 : (A2 ++ [some ((bD (getB' (getP E.m f.n) f.b)).map AV.d)])[A2.length]? = some (some ((bD (getB' (getP E.m f.n) f.b)).map AV.d)) := by simp
  have l3 : (A2 ++ [some ((bD (getB' (getP E.m f.n) f.b)).map AV.d)]).length = A.length + 3 := by simp [l2]
  have k13 : (A2 ++ [some ((bD (getB' (getP E.m f.n) f.b)).map AV.d)])[A.length]? = some (some (row (R, f))) := by rw [List.getElem?_append_left (by omega)]; exact k12
  have k23 : (A2 ++ [some ((bD (getB' (getP E.m f.n) f.b)).map AV.d)])[A1.length]? = some (some ((pD (getP E.m f.n)).map AV.d)) := by rw [List.getElem?_append_left (by omega)]; exact k2
  have v3 : (A2 ++ [some ((bD (getB' (getP E.m f.n) f.b)).map AV.d)])[b]? = some (some cells) := by rw [List.getElem?_append_left (by omega)]; exact v2
  generalize A2 ++ [some ((bD (getB' (getP E.m f.n) f.b)).map AV.d)] = A3 at *
  have jq3 := join_of k3
  have jq13 := join_of k13
  have hfi := hf.i
  have hlt : f.i < (getB' (getP E.m f.n) f.b).ins.length := by omega
  have hne : ¬ ((f.i : Int) = (getB' (getP E.m f.n) f.b).ins.length) := by omega
  have h60 := hM.insLen hf.n hf.b
  obtain ⟨p3, q3, u3⟩ := seq_row (nl := (getB' (getP E.m f.n) f.b).inl) (f := iD) (s := 11) (fun _ => rfl) (getI_of hlt)
  have x3 := u3.ix
  have y3 := u3.all
  have s4 := stA_new (n := 11) (lim := 1) (A := A3) (H := H) (cs := (iD (getI (getB' (getP E.m f.n) f.b) f.i)).map .d) (c := [AV.d (.int .i64 0), .d (.int .i64 0), .d (.int .i64 0), .d (.int .i64 0), .d (.int .i64 0), .d (.int .i64 0), .d (.int .i64 0), .d (.int .i64 0), .d (.int .u32 0), .d (.seq true 0 []), .d (.bool false)]) (by decide) (all_leaf_d _) rfl rfl
  have h4 := h3.push hE [some ((iD (getI (getB' (getP E.m f.n) f.b) f.i)).map AV.d)]
  have k4 : (A3 ++ [some ((iD (getI (getB' (getP E.m f.n) f.b) f.i)).map AV.d)])[A3.length]? = some (some ((iD (getI (getB' (getP E.m f.n) f.b) f.i)).map AV.d)) := by simp
  have l4 : (A3 ++ [some ((iD (getI (getB' (getP E.m f.n) f.b) f.i)).map AV.d)]).length = A.length + 4 := by simp [l3]
  have k14 : (A3 ++ [some ((iD (getI (getB' (getP E.m f.n) f.b) f.i)).map AV.d)])[A.length]? = some (some (row (R, f))) := by rw [List.getElem?_append_left (by omega)]; exact k13
  have k24 : (A3 ++ [some ((iD (getI (getB' (getP E.m f.n) f.b) f.i)).map AV.d)])[A1.length]? = some (some ((pD (getP E.m f.n)).map AV.d)) := by rw [List.getElem?_append_left (by omega)]; exact k23
  have v4 : (A3 ++ [some ((iD (getI (getB' (getP E.m f.n) f.b) f.i)).map AV.d)])[b]? = some (some cells) := by rw [List.getElem?_append_left (by omega)]; exact v3
  generalize A3 ++ [some ((iD (getI (getB' (getP E.m f.n) f.b) f.i)).map AV.d)] = A4 at *
  have jr4 := join_of h4.run
  have jq14 := join_of k14
  have w2 : IntKind.i64.wrap ((f.i : Int) + 1) = ((f.i + 1 : Nat) : Int) := wrap_ok _ (by omega) (by omega)
  have s5 := stA_leaf (lim := 1) (A := A4) (H := H) (i := b) (o := S.length * 5 + 4) (v := vi ((f.i + 1 : Nat) : Int)) (c := cells) (by decide) rfl (join_of v4) (by omega)
  have hc' := set_top (j := 4) (v := vi ((f.i + 1 : Nat) : Int)) t5
  have h5 := h4.setTop hE (f' := ⟨f.n, f.regs, f.low, f.b, f.i + 1⟩) rfl t1 v4 (by simp; omega) hc'
  have k5 : (A4.set b (some (cells.set (S.length * 5 + 4) (vi ((f.i + 1 : Nat) : Int)))))[A3.length]? = some (some ((iD (getI (getB' (getP E.m f.n) f.b) f.i)).map AV.d)) := by rw [List.getElem?_set_ne (by omega)]; exact k4
  have k15 : (A4.set b (some (cells.set (S.length * 5 + 4) (vi ((f.i + 1 : Nat) : Int)))))[A.length]? = some (some (row (R, f))) := by rw [List.getElem?_set_ne (by omega)]; exact k14
  have k25 : (A4.set b (some (cells.set (S.length * 5 + 4) (vi ((f.i + 1 : Nat) : Int)))))[A1.length]? = some (some ((pD (getP E.m f.n)).map AV.d)) := by rw [List.getElem?_set_ne (by omega)]; exact k24
  have l5 : (A4.set b (some (cells.set (S.length * 5 + 4) (vi ((f.i + 1 : Nat) : Int))))).length = A.length + 4 := by simp [l4]
  generalize ((f.i + 1 : Nat) : Int) = fi1 at *
  generalize A4.set b (some (cells.set (S.length * 5 + 4) (vi fi1))) = A5 at *
  have jr5 := join_of h5.run
  have jq5 := join_of k5
  have jq15 := join_of k15
  have jq25 := join_of k25
  have hrl := hf.regs.len
  have hrw := hf.regs.w
  have hR5 := h5.regs (R, ⟨f.n, f.regs, f.low, f.b, f.i + 1⟩) (by simp)
  have hRA := h.regs (R, f) (by simp)
  simp only at hR5 hRA
  have hRlt := lt_of_get hRA.2
  have jR5 := join_of hR5.2
  have rd : ∀ k : Int, 0 ≤ k → k < (getP E.m f.n).regs → ixS 1 (.sl 0 R 0 f.regs.length 1) (vi k) = some (.ptr 0 R k.toNat) ∧ (f.regs.map vw)[k.toNat]? = some (vw (rg f.regs k)) := fun k a0 a1 => by
    have := ixS_nat (s := 1) (l := 0) (b := R) (o := 0) (n := f.regs.length) (z := 1) a0 (by omega)
    simp only [Nat.zero_add, Nat.mul_one] at this
    exact ⟨this, rg_map vw a0 (by omega)⟩
  have hio := hM.ins hf.n hf.b hlt
  have hnw := hM.numW hf.n hf.b hlt
  have ki0 := h.k0
  have kr := hE.r
  have km := hE.m
  have hst : stepR E.m E.inputs f (S.map (·.2)) s = .go (⟨f.n, f.regs, f.low, f.b, f.i + 1⟩ :: S.map (·.2)) s := by
    unfold stepR
    rw [if_neg he, if_neg (by omega)]
    simp [insP, hop]
  rw [hst]
  generalize hii : (getI (getB' (getP E.m f.n) f.b) f.i) = ii at *
  have i0 : (iD ii)[0]? = some (.int .i64 ii.op) := rfl
  refine ⟨A5, ?_, _, o, tv, rfl, h5⟩
  generalize row (R, f) = RW at *
  generalize bD (getB' (getP E.m f.n) f.b) = BD at *
  generalize pD (getP E.m f.n) = PD at *
  generalize iD ii = ID at *
  simp -implicitDefEqProofs [jr, c5, hln, abin_sub, w1, t6, jb, t7, s1, jr1, c2, jq1, r0, x1, y1, jrz, jqz, s2, jq2, pp5, jq12, r3, x2, y2, s3, jq3, bb0, hlb, jq13, r4, abin_eql, hne, x3, y3, s4, jr4, jq14, abin_add, w2, s5, jq5, i0, hop]
theorem step22_5 (hE : RfOk E) (hM : MdOk E.m) (hI : InOk E.inputs) (h : RefAt E A ((R, f) :: S) s o tv 0 0 false) (hf : FrOk E.m f) (hg : ∀ y ∈ S, WtOk E.m y.2) (hS : S.length < 5000) (hin : s.ins < 1000000) (hol : s.out.length < 1000000) (he : f.i ≠ (getB' (getP E.m f.n) f.b).ins.length) (hop : (getI (getB' (getP E.m f.n) f.b) f.i).op = 5) : ∃ A', evCall Try.prog C (d + 6) 1 22 [.ptr 0 E.ri 0] (A :: H) = some (.tup [], A' :: H) ∧ RefR E A' (stepR E.m E.inputs f (S.map (·.2)) s) := by
  rw [evCall_inEq (fi := fi22) rfl rfl (b22 _ _ _ _)]
  unfold s22
  obtain ⟨b, cells, t1, t2, t3, t4, t5, t6, t7⟩ := h.topRead
  have hln : lnS tv = some (vi ((S.length : Int) + 1)) := h.top.len
  have w1 := wrap_ok (S.length : Int) (by omega) (by omega)
  have jr := join_of h.run
  have jb := join_of t3
  have c5 : (E.cells s o tv 0 0 false)[5]? = some tv := rfl
  have c2 : (E.cells s o tv 0 0 false)[2]? = some (.d (seqD E.m.pnl E.m.procs pD)) := rfl
  have hlA := lt_of_get t3
  obtain ⟨p1, q1, u1⟩ := seq_row (nl := E.m.pnl) (f := pD) (s := 6) (fun _ => rfl) (getP_of hf.n)
  have x1 := u1.ix
  have y1 := u1.all
  obtain ⟨p2, q2, u2⟩ := seq_row (nl := (getP E.m f.n).bnl) (f := bD) (s := 5) (fun _ => rfl) (getB_of hf.b)
  have x2 := u2.ix
  have y2 := u2.all
  have r0 : (row (R, f))[0]? = some (vi f.n) := rfl
  have r1 : (row (R, f))[1]? = some (.sl 0 R 0 f.regs.length 1) := rfl
  have r2 : (row (R, f))[2]? = some (vi f.low) := rfl
  have r3 : (row (R, f))[3]? = some (vi f.b) := rfl
  have r4 : (row (R, f))[4]? = some (vi f.i) := rfl
  have pp4 : (pD (getP E.m f.n))[4]? = some (seqD (getP E.m f.n).onl (getP E.m f.n).objs sD) := rfl
  have pp5 : (pD (getP E.m f.n))[5]? = some (seqD (getP E.m f.n).bnl (getP E.m f.n).blks bD) := rfl
  have bb0 : (bD (getB' (getP E.m f.n) f.b))[0]? = some (seqD (getB' (getP E.m f.n) f.b).inl (getB' (getP E.m f.n) f.b).ins iD) := rfl
  have hlb := seq_len (getB' (getP E.m f.n) f.b).inl (getB' (getP E.m f.n) f.b).ins iD
  have s1 := stA_new (n := 5) (lim := 1) (A := A) (H := H) (cs := row (R, f)) (c := [AV.d (.int .i64 0), .d (.seq true 0 []), .d (.int .i64 0), .d (.int .i64 0), .d (.int .i64 0)]) (by decide) rfl rfl rfl
  have h1 := h.push hE [some (row (R, f))]
  have k1 : (A ++ [some (row (R, f))])[A.length]? = some (some (row (R, f))) := by simp
  have l1 : (A ++ [some (row (R, f))]).length = A.length + 1 := by simp
  have v1 : (A ++ [some (row (R, f))])[b]? = some (some cells) := by rw [List.getElem?_append_left hlA]; exact t3
  generalize A ++ [some (row (R, f))] = A1 at *
  have jr1 := join_of h1.run
  have jq1 := join_of k1
  have jrz : ((A1 ++ [some [AV.d (.str ⟨#[]⟩), .d (.bool false), .d (.int .i64 0), .d (.int .i64 0), .d (.seq true 0 []), .d (.seq true 0 [])]])[E.ri]?).join = some (E.cells s o tv 0 0 false) := by rw [List.getElem?_append_left (lt_of_get h1.run)]; exact jr1
  have jqz : ((A1 ++ [some [AV.d (.str ⟨#[]⟩), .d (.bool false), .d (.int .i64 0), .d (.int .i64 0), .d (.seq true 0 []), .d (.seq true 0 [])]])[A.length]?).join = some (row (R, f)) := by rw [List.getElem?_append_left (by omega)]; exact jq1
  have s2 := stA_new (n := 6) (lim := 1) (A := A1) (H := H) (cs := (pD (getP E.m f.n)).map .d) (c := [AV.d (.str ⟨#[]⟩), .d (.bool false), .d (.int .i64 0), .d (.int .i64 0), .d (.seq true 0 []), .d (.seq true 0 [])]) (by decide) (all_leaf_d _) rfl rfl
  have h2 := h1.push hE [some ((pD (getP E.m f.n)).map AV.d)]
  have k2 : (A1 ++ [some ((pD (getP E.m f.n)).map AV.d)])[A1.length]? = some (some ((pD (getP E.m f.n)).map AV.d)) := by simp
  have l2 : (A1 ++ [some ((pD (getP E.m f.n)).map AV.d)]).length = A.length + 2 := by simp [l1]
  have k12 : (A1 ++ [some ((pD (getP E.m f.n)).map AV.d)])[A.length]? = some (some (row (R, f))) := by rw [List.getElem?_append_left (by omega)]; exact k1
  have v2 : (A1 ++ [some ((pD (getP E.m f.n)).map AV.d)])[b]? = some (some cells) := by rw [List.getElem?_append_left (by omega)]; exact v1
  generalize A1 ++ [some ((pD (getP E.m f.n)).map AV.d)] = A2 at *
  have jq2 := join_of k2
  have jq12 := join_of k12
  have s3 := stA_new (n := 5) (lim := 1) (A := A2) (H := H) (cs := (bD (getB' (getP E.m f.n) f.b)).map .d) (c := [AV.d (.seq true 0 []), .d (.int .i64 0), .d (.int .i64 0), .d (.int .i64 0), .d (.int .i64 0)]) (by decide) (all_leaf_d _) rfl rfl
  have h3 := h2.push hE [some ((bD (getB' (getP E.m f.n) f.b)).map AV.d)]
  have k3 : (A2 ++ [some ((bD (getB' (getP E.m f.n) f.b)).map AV.d)])[A2.length]? = some (some ((bD (getB' (getP E.m f.n) f.b)).map AV.d)) := by simp
  have l3 : (A2 ++ [some ((bD (getB' (getP E.m f.n) f.b)).map AV.d)]).length = A.length + 3 := by simp [l2]
  have k13 : (A2 ++ [some ((bD (getB' (getP E.m f.n) f.b)).map AV.d)])[A.length]? = some (some (row (R, f))) := by rw [List.getElem?_append_left (by omega)]; exact k12
  have k23 : (A2 ++ [some ((bD (getB' (getP E.m f.n) f.b)).map AV.d)])[A1.length]? = some (some ((pD (getP E.m f.n)).map AV.d)) := by rw [List.getElem?_append_left (by omega)]; exact k2
  have v3 : (A2 ++ [some ((bD (getB' (getP E.m f.n) f.b)).map AV.d)])[b]? = some (some cells) := by rw [List.getElem?_append_left (by omega)]; exact v2
  generalize A2 ++ [some ((bD (getB' (getP E.m f.n) f.b)).map AV.d)] = A3 at *
  have jq3 := join_of k3
  have jq13 := join_of k13
  have hfi := hf.i
  have hlt : f.i < (getB' (getP E.m f.n) f.b).ins.length := by omega
  have hne : ¬ ((f.i : Int) = (getB' (getP E.m f.n) f.b).ins.length) := by omega
  have h60 := hM.insLen hf.n hf.b
  obtain ⟨p3, q3, u3⟩ := seq_row (nl := (getB' (getP E.m f.n) f.b).inl) (f := iD) (s := 11) (fun _ => rfl) (getI_of hlt)
  have x3 := u3.ix
  have y3 := u3.all
  have s4 := stA_new (n := 11) (lim := 1) (A := A3) (H := H) (cs := (iD (getI (getB' (getP E.m f.n) f.b) f.i)).map .d) (c := [AV.d (.int .i64 0), .d (.int .i64 0), .d (.int .i64 0), .d (.int .i64 0), .d (.int .i64 0), .d (.int .i64 0), .d (.int .i64 0), .d (.int .i64 0), .d (.int .u32 0), .d (.seq true 0 []), .d (.bool false)]) (by decide) (all_leaf_d _) rfl rfl
  have h4 := h3.push hE [some ((iD (getI (getB' (getP E.m f.n) f.b) f.i)).map AV.d)]
  have k4 : (A3 ++ [some ((iD (getI (getB' (getP E.m f.n) f.b) f.i)).map AV.d)])[A3.length]? = some (some ((iD (getI (getB' (getP E.m f.n) f.b) f.i)).map AV.d)) := by simp
  have l4 : (A3 ++ [some ((iD (getI (getB' (getP E.m f.n) f.b) f.i)).map AV.d)]).length = A.length + 4 := by simp [l3]
  have k14 : (A3 ++ [some ((iD (getI (getB' (getP E.m f.n) f.b) f.i)).map AV.d)])[A.length]? = some (some (row (R, f))) := by rw [List.getElem?_append_left (by omega)]; exact k13
  have k24 : (A3 ++ [some ((iD (getI (getB' (getP E.m f.n) f.b) f.i)).map AV.d)])[A1.length]? = some (some ((pD (getP E.m f.n)).map AV.d)) := by rw [List.getElem?_append_left (by omega)]; exact k23
  have v4 : (A3 ++ [some ((iD (getI (getB' (getP E.m f.n) f.b) f.i)).map AV.d)])[b]? = some (some cells) := by rw [List.getElem?_append_left (by omega)]; exact v3
  generalize A3 ++ [some ((iD (getI (getB' (getP E.m f.n) f.b) f.i)).map AV.d)] = A4 at *
  have jr4 := join_of h4.run
  have jq14 := join_of k14
  have w2 : IntKind.i64.wrap ((f.i : Int) + 1) = ((f.i + 1 : Nat) : Int) := wrap_ok _ (by omega) (by omega)
  have s5 := stA_leaf (lim := 1) (A := A4) (H := H) (i := b) (o := S.length * 5 + 4) (v := vi ((f.i + 1 : Nat) : Int)) (c := cells) (by decide) rfl (join_of v4) (by omega)
  have hc' := set_top (j := 4) (v := vi ((f.i + 1 : Nat) : Int)) t5
  have h5 := h4.setTop hE (f' := ⟨f.n, f.regs, f.low, f.b, f.i + 1⟩) rfl t1 v4 (by simp; omega) hc'
  have k5 : (A4.set b (some (cells.set (S.length * 5 + 4) (vi ((f.i + 1 : Nat) : Int)))))[A3.length]? = some (some ((iD (getI (getB' (getP E.m f.n) f.b) f.i)).map AV.d)) := by rw [List.getElem?_set_ne (by omega)]; exact k4
  have k15 : (A4.set b (some (cells.set (S.length * 5 + 4) (vi ((f.i + 1 : Nat) : Int)))))[A.length]? = some (some (row (R, f))) := by rw [List.getElem?_set_ne (by omega)]; exact k14
  have k25 : (A4.set b (some (cells.set (S.length * 5 + 4) (vi ((f.i + 1 : Nat) : Int)))))[A1.length]? = some (some ((pD (getP E.m f.n)).map AV.d)) := by rw [List.getElem?_set_ne (by omega)]; exact k24
  have l5 : (A4.set b (some (cells.set (S.length * 5 + 4) (vi ((f.i + 1 : Nat) : Int))))).length = A.length + 4 := by simp [l4]
  generalize ((f.i + 1 : Nat) : Int) = fi1 at *
  generalize A4.set b (some (cells.set (S.length * 5 + 4) (vi fi1))) = A5 at *
  have jr5 := join_of h5.run
  have jq5 := join_of k5
  have jq15 := join_of k15
  have jq25 := join_of k25
  have hrl := hf.regs.len
  have hrw := hf.regs.w
  have hR5 := h5.regs (R, ⟨f.n, f.regs, f.low, f.b, f.i + 1⟩) (by simp)
  have hRA := h.regs (R, f) (by simp)
  simp only at hR5 hRA
  have hRlt := lt_of_get hRA.2
  have jR5 := join_of hR5.2
  have rd : ∀ k : Int, 0 ≤ k → k < (getP E.m f.n).regs → ixS 1 (.sl 0 R 0 f.regs.length 1) (vi k) = some (.ptr 0 R k.toNat) ∧ (f.regs.map vw)[k.toNat]? = some (vw (rg f.regs k)) := fun k a0 a1 => by
    have := ixS_nat (s := 1) (l := 0) (b := R) (o := 0) (n := f.regs.length) (z := 1) a0 (by omega)
    simp only [Nat.zero_add, Nat.mul_one] at this
    exact ⟨this, rg_map vw a0 (by omega)⟩
  have hio := hM.ins hf.n hf.b hlt
  have hnw := hM.numW hf.n hf.b hlt
  have ki0 := h.k0
  have kr := hE.r
  have km := hE.m
  have i0 : (iD (getI (getB' (getP E.m f.n) f.b) f.i))[0]? = some (.int .i64 (getI (getB' (getP E.m f.n) f.b) f.i).op) := rfl
  have hcr : cut (row (R, f)) 0 5 = some (row (R, f)) := rfl
  have hci := cut_data (r := iD (getI (getB' (getP E.m f.n) f.b) f.i)) (n := 11) rfl
  obtain ⟨A6, hme, hsame, hle, hres⟩ := memory46 (d := d + 2) (H := H) hE h5 (f0 := f) hf.regs rfl hio (by omega)
  have k6 : A6[A3.length]? = some (some ((iD (getI (getB' (getP E.m f.n) f.b) f.i)).map AV.d)) := by
    rcases hsame A3.length (by omega) with e | e | e
    · omega
    · have := (h.lt (j := A3.length) e).2; omega
    · rw [e]; exact k5
  have jq6 := join_of k6
  refine ⟨A6, ?_, ?_⟩
  · clear hres hsame
    generalize (getI (getB' (getP E.m f.n) f.b) f.i) = ii at *
    generalize row (R, f) = RW at *
    generalize bD (getB' (getP E.m f.n) f.b) = BD at *
    generalize pD (getP E.m f.n) = PD at *
    generalize iD ii = ID at *
    simp -implicitDefEqProofs [jr, c5, hln, abin_sub, w1, t6, jb, t7, s1, jr1, c2, jq1, r0, x1, y1, jrz, jqz, s2, jq2, pp5, jq12, r3, x2, y2, s3, jq3, bb0, hlb, jq13, r4, abin_eql, hne, x3, y3, s4, jr4, jq14, abin_add, w2, s5, jq5, i0, hop, jq15, hcr, hci, hme, jq6]
  · unfold stepR
    rw [if_neg he, if_neg (by omega)]
    simp only at hres
    cases hx : insP E.m E.inputs (getP E.m f.n) f.low (getI (getB' (getP E.m f.n) f.b) f.i) f.regs s with
    | none => rw [hx] at hres; exact ⟨_, o, tv, hres⟩
    | some x => rw [hx] at hres; exact ⟨_, o, tv, rfl, hres⟩
theorem step22_6 (hE : RfOk E) (hM : MdOk E.m) (hI : InOk E.inputs) (h : RefAt E A ((R, f) :: S) s o tv 0 0 false) (hf : FrOk E.m f) (hg : ∀ y ∈ S, WtOk E.m y.2) (hS : S.length < 5000) (hin : s.ins < 1000000) (hol : s.out.length < 1000000) (he : f.i ≠ (getB' (getP E.m f.n) f.b).ins.length) (hop : (getI (getB' (getP E.m f.n) f.b) f.i).op = 6) : ∃ A', evCall Try.prog C (d + 6) 1 22 [.ptr 0 E.ri 0] (A :: H) = some (.tup [], A' :: H) ∧ RefR E A' (stepR E.m E.inputs f (S.map (·.2)) s) := by
  rw [evCall_inEq (fi := fi22) rfl rfl (b22 _ _ _ _)]
  unfold s22
  obtain ⟨b, cells, t1, t2, t3, t4, t5, t6, t7⟩ := h.topRead
  have hln : lnS tv = some (vi ((S.length : Int) + 1)) := h.top.len
  have w1 := wrap_ok (S.length : Int) (by omega) (by omega)
  have jr := join_of h.run
  have jb := join_of t3
  have c5 : (E.cells s o tv 0 0 false)[5]? = some tv := rfl
  have c2 : (E.cells s o tv 0 0 false)[2]? = some (.d (seqD E.m.pnl E.m.procs pD)) := rfl
  have hlA := lt_of_get t3
  obtain ⟨p1, q1, u1⟩ := seq_row (nl := E.m.pnl) (f := pD) (s := 6) (fun _ => rfl) (getP_of hf.n)
  have x1 := u1.ix
  have y1 := u1.all
  obtain ⟨p2, q2, u2⟩ := seq_row (nl := (getP E.m f.n).bnl) (f := bD) (s := 5) (fun _ => rfl) (getB_of hf.b)
  have x2 := u2.ix
  have y2 := u2.all
  have r0 : (row (R, f))[0]? = some (vi f.n) := rfl
  have r1 : (row (R, f))[1]? = some (.sl 0 R 0 f.regs.length 1) := rfl
  have r2 : (row (R, f))[2]? = some (vi f.low) := rfl
  have r3 : (row (R, f))[3]? = some (vi f.b) := rfl
  have r4 : (row (R, f))[4]? = some (vi f.i) := rfl
  have pp4 : (pD (getP E.m f.n))[4]? = some (seqD (getP E.m f.n).onl (getP E.m f.n).objs sD) := rfl
  have pp5 : (pD (getP E.m f.n))[5]? = some (seqD (getP E.m f.n).bnl (getP E.m f.n).blks bD) := rfl
  have bb0 : (bD (getB' (getP E.m f.n) f.b))[0]? = some (seqD (getB' (getP E.m f.n) f.b).inl (getB' (getP E.m f.n) f.b).ins iD) := rfl
  have hlb := seq_len (getB' (getP E.m f.n) f.b).inl (getB' (getP E.m f.n) f.b).ins iD
  have s1 := stA_new (n := 5) (lim := 1) (A := A) (H := H) (cs := row (R, f)) (c := [AV.d (.int .i64 0), .d (.seq true 0 []), .d (.int .i64 0), .d (.int .i64 0), .d (.int .i64 0)]) (by decide) rfl rfl rfl
  have h1 := h.push hE [some (row (R, f))]
  have k1 : (A ++ [some (row (R, f))])[A.length]? = some (some (row (R, f))) := by simp
  have l1 : (A ++ [some (row (R, f))]).length = A.length + 1 := by simp
  have v1 : (A ++ [some (row (R, f))])[b]? = some (some cells) := by rw [List.getElem?_append_left hlA]; exact t3
  generalize A ++ [some (row (R, f))] = A1 at *
  have jr1 := join_of h1.run
  have jq1 := join_of k1
  have jrz : ((A1 ++ [some [AV.d (.str ⟨#[]⟩), .d (.bool false), .d (.int .i64 0), .d (.int .i64 0), .d (.seq true 0 []), .d (.seq true 0 [])]])[E.ri]?).join = some (E.cells s o tv 0 0 false) := by rw [List.getElem?_append_left (lt_of_get h1.run)]; exact jr1
  have jqz : ((A1 ++ [some [AV.d (.str ⟨#[]⟩), .d (.bool false), .d (.int .i64 0), .d (.int .i64 0), .d (.seq true 0 []), .d (.seq true 0 [])]])[A.length]?).join = some (row (R, f)) := by rw [List.getElem?_append_left (by omega)]; exact jq1
  have s2 := stA_new (n := 6) (lim := 1) (A := A1) (H := H) (cs := (pD (getP E.m f.n)).map .d) (c := [AV.d (.str ⟨#[]⟩), .d (.bool false), .d (.int .i64 0), .d (.int .i64 0), .d (.seq true 0 []), .d (.seq true 0 [])]) (by decide) (all_leaf_d _) rfl rfl
  have h2 := h1.push hE [some ((pD (getP E.m f.n)).map AV.d)]
  have k2 : (A1 ++ [some ((pD (getP E.m f.n)).map AV.d)])[A1.length]? = some (some ((pD (getP E.m f.n)).map AV.d)) := by simp
  have l2 : (A1 ++ [some ((pD (getP E.m f.n)).map AV.d)]).length = A.length + 2 := by simp [l1]
  have k12 : (A1 ++ [some ((pD (getP E.m f.n)).map AV.d)])[A.length]? = some (some (row (R, f))) := by rw [List.getElem?_append_left (by omega)]; exact k1
  have v2 : (A1 ++ [some ((pD (getP E.m f.n)).map AV.d)])[b]? = some (some cells) := by rw [List.getElem?_append_left (by omega)]; exact v1
  generalize A1 ++ [some ((pD (getP E.m f.n)).map AV.d)] = A2 at *
  have jq2 := join_of k2
  have jq12 := join_of k12
  have s3 := stA_new (n := 5) (lim := 1) (A := A2) (H := H) (cs := (bD (getB' (getP E.m f.n) f.b)).map .d) (c := [AV.d (.seq true 0 []), .d (.int .i64 0), .d (.int .i64 0), .d (.int .i64 0), .d (.int .i64 0)]) (by decide) (all_leaf_d _) rfl rfl
  have h3 := h2.push hE [some ((bD (getB' (getP E.m f.n) f.b)).map AV.d)]
  have k3 : (A2 ++ [some ((bD (getB' (getP E.m f.n) f.b)).map AV.d)])[A2.length]? = some (some ((bD (getB' (getP E.m f.n) f.b)).map AV.d)) := by simp
  have l3 : (A2 ++ [some ((bD (getB' (getP E.m f.n) f.b)).map AV.d)]).length = A.length + 3 := by simp [l2]
  have k13 : (A2 ++ [some ((bD (getB' (getP E.m f.n) f.b)).map AV.d)])[A.length]? = some (some (row (R, f))) := by rw [List.getElem?_append_left (by omega)]; exact k12
  have k23 : (A2 ++ [some ((bD (getB' (getP E.m f.n) f.b)).map AV.d)])[A1.length]? = some (some ((pD (getP E.m f.n)).map AV.d)) := by rw [List.getElem?_append_left (by omega)]; exact k2
  have v3 : (A2 ++ [some ((bD (getB' (getP E.m f.n) f.b)).map AV.d)])[b]? = some (some cells) := by rw [List.getElem?_append_left (by omega)]; exact v2
  generalize A2 ++ [some ((bD (getB' (getP E.m f.n) f.b)).map AV.d)] = A3 at *
  have jq3 := join_of k3
  have jq13 := join_of k13
  have hfi := hf.i
  have hlt : f.i < (getB' (getP E.m f.n) f.b).ins.length := by omega
  have hne : ¬ ((f.i : Int) = (getB' (getP E.m f.n) f.b).ins.length) := by omega
  have h60 := hM.insLen hf.n hf.b
  obtain ⟨p3, q3, u3⟩ := seq_row (nl := (getB' (getP E.m f.n) f.b).inl) (f := iD) (s := 11) (fun _ => rfl) (getI_of hlt)
  have x3 := u3.ix
  have y3 := u3.all
  have s4 := stA_new (n := 11) (lim := 1) (A := A3) (H := H) (cs := (iD (getI (getB' (getP E.m f.n) f.b) f.i)).map .d) (c := [AV.d (.int .i64 0), .d (.int .i64 0), .d (.int .i64 0), .d (.int .i64 0), .d (.int .i64 0), .d (.int .i64 0), .d (.int .i64 0), .d (.int .i64 0), .d (.int .u32 0), .d (.seq true 0 []), .d (.bool false)]) (by decide) (all_leaf_d _) rfl rfl
  have h4 := h3.push hE [some ((iD (getI (getB' (getP E.m f.n) f.b) f.i)).map AV.d)]
  have k4 : (A3 ++ [some ((iD (getI (getB' (getP E.m f.n) f.b) f.i)).map AV.d)])[A3.length]? = some (some ((iD (getI (getB' (getP E.m f.n) f.b) f.i)).map AV.d)) := by simp
  have l4 : (A3 ++ [some ((iD (getI (getB' (getP E.m f.n) f.b) f.i)).map AV.d)]).length = A.length + 4 := by simp [l3]
  have k14 : (A3 ++ [some ((iD (getI (getB' (getP E.m f.n) f.b) f.i)).map AV.d)])[A.length]? = some (some (row (R, f))) := by rw [List.getElem?_append_left (by omega)]; exact k13
  have k24 : (A3 ++ [some ((iD (getI (getB' (getP E.m f.n) f.b) f.i)).map AV.d)])[A1.length]? = some (some ((pD (getP E.m f.n)).map AV.d)) := by rw [List.getElem?_append_left (by omega)]; exact k23
  have v4 : (A3 ++ [some ((iD (getI (getB' (getP E.m f.n) f.b) f.i)).map AV.d)])[b]? = some (some cells) := by rw [List.getElem?_append_left (by omega)]; exact v3
  generalize A3 ++ [some ((iD (getI (getB' (getP E.m f.n) f.b) f.i)).map AV.d)] = A4 at *
  have jr4 := join_of h4.run
  have jq14 := join_of k14
  have w2 : IntKind.i64.wrap ((f.i : Int) + 1) = ((f.i + 1 : Nat) : Int) := wrap_ok _ (by omega) (by omega)
  have s5 := stA_leaf (lim := 1) (A := A4) (H := H) (i := b) (o := S.length * 5 + 4) (v := vi ((f.i + 1 : Nat) : Int)) (c := cells) (by decide) rfl (join_of v4) (by omega)
  have hc' := set_top (j := 4) (v := vi ((f.i + 1 : Nat) : Int)) t5
  have h5 := h4.setTop hE (f' := ⟨f.n, f.regs, f.low, f.b, f.i + 1⟩) rfl t1 v4 (by simp; omega) hc'
  have k5 : (A4.set b (some (cells.set (S.length * 5 + 4) (vi ((f.i + 1 : Nat) : Int)))))[A3.length]? = some (some ((iD (getI (getB' (getP E.m f.n) f.b) f.i)).map AV.d)) := by rw [List.getElem?_set_ne (by omega)]; exact k4
  have k15 : (A4.set b (some (cells.set (S.length * 5 + 4) (vi ((f.i + 1 : Nat) : Int)))))[A.length]? = some (some (row (R, f))) := by rw [List.getElem?_set_ne (by omega)]; exact k14
  have k25 : (A4.set b (some (cells.set (S.length * 5 + 4) (vi ((f.i + 1 : Nat) : Int)))))[A1.length]? = some (some ((pD (getP E.m f.n)).map AV.d)) := by rw [List.getElem?_set_ne (by omega)]; exact k24
  have l5 : (A4.set b (some (cells.set (S.length * 5 + 4) (vi ((f.i + 1 : Nat) : Int))))).length = A.length + 4 := by simp [l4]
  generalize ((f.i + 1 : Nat) : Int) = fi1 at *
  generalize A4.set b (some (cells.set (S.length * 5 + 4) (vi fi1))) = A5 at *
  have jr5 := join_of h5.run
  have jq5 := join_of k5
  have jq15 := join_of k15
  have jq25 := join_of k25
  have hrl := hf.regs.len
  have hrw := hf.regs.w
  have hR5 := h5.regs (R, ⟨f.n, f.regs, f.low, f.b, f.i + 1⟩) (by simp)
  have hRA := h.regs (R, f) (by simp)
  simp only at hR5 hRA
  have hRlt := lt_of_get hRA.2
  have jR5 := join_of hR5.2
  have rd : ∀ k : Int, 0 ≤ k → k < (getP E.m f.n).regs → ixS 1 (.sl 0 R 0 f.regs.length 1) (vi k) = some (.ptr 0 R k.toNat) ∧ (f.regs.map vw)[k.toNat]? = some (vw (rg f.regs k)) := fun k a0 a1 => by
    have := ixS_nat (s := 1) (l := 0) (b := R) (o := 0) (n := f.regs.length) (z := 1) a0 (by omega)
    simp only [Nat.zero_add, Nat.mul_one] at this
    exact ⟨this, rg_map vw a0 (by omega)⟩
  have hio := hM.ins hf.n hf.b hlt
  have hnw := hM.numW hf.n hf.b hlt
  have ki0 := h.k0
  have kr := hE.r
  have km := hE.m
  have i0 : (iD (getI (getB' (getP E.m f.n) f.b) f.i))[0]? = some (.int .i64 (getI (getB' (getP E.m f.n) f.b) f.i).op) := rfl
  have hcr : cut (row (R, f)) 0 5 = some (row (R, f)) := rfl
  have hci := cut_data (r := iD (getI (getB' (getP E.m f.n) f.b) f.i)) (n := 11) rfl
  obtain ⟨A6, hme, hsame, hle, hres⟩ := memory46 (d := d + 2) (H := H) hE h5 (f0 := f) hf.regs rfl hio (by omega)
  have k6 : A6[A3.length]? = some (some ((iD (getI (getB' (getP E.m f.n) f.b) f.i)).map AV.d)) := by
    rcases hsame A3.length (by omega) with e | e | e
    · omega
    · have := (h.lt (j := A3.length) e).2; omega
    · rw [e]; exact k5
  have jq6 := join_of k6
  refine ⟨A6, ?_, ?_⟩
  · clear hres hsame
    generalize (getI (getB' (getP E.m f.n) f.b) f.i) = ii at *
    generalize row (R, f) = RW at *
    generalize bD (getB' (getP E.m f.n) f.b) = BD at *
    generalize pD (getP E.m f.n) = PD at *
    generalize iD ii = ID at *
    simp -implicitDefEqProofs [jr, c5, hln, abin_sub, w1, t6, jb, t7, s1, jr1, c2, jq1, r0, x1, y1, jrz, jqz, s2, jq2, pp5, jq12, r3, x2, y2, s3, jq3, bb0, hlb, jq13, r4, abin_eql, hne, x3, y3, s4, jr4, jq14, abin_add, w2, s5, jq5, i0, hop, jq15, hcr, hci, hme, jq6]
  · unfold stepR
    rw [if_neg he, if_neg (by omega)]
    simp only at hres
    cases hx : insP E.m E.inputs (getP E.m f.n) f.low (getI (getB' (getP E.m f.n) f.b) f.i) f.regs s with
    | none => rw [hx] at hres; exact ⟨_, o, tv, hres⟩
    | some x => rw [hx] at hres; exact ⟨_, o, tv, rfl, hres⟩
theorem step22_10 (hE : RfOk E) (hM : MdOk E.m) (hI : InOk E.inputs) (h : RefAt E A ((R, f) :: S) s o tv 0 0 false) (hf : FrOk E.m f) (hg : ∀ y ∈ S, WtOk E.m y.2) (hS : S.length < 5000) (hin : s.ins < 1000000) (hol : s.out.length < 1000000) (he : f.i ≠ (getB' (getP E.m f.n) f.b).ins.length) (hop : (getI (getB' (getP E.m f.n) f.b) f.i).op = 10) : ∃ A', evCall Try.prog C (d + 6) 1 22 [.ptr 0 E.ri 0] (A :: H) = some (.tup [], A' :: H) ∧ RefR E A' (stepR E.m E.inputs f (S.map (·.2)) s) := by
  rw [evCall_inEq (fi := fi22) rfl rfl (b22 _ _ _ _)]
  unfold s22
  obtain ⟨b, cells, t1, t2, t3, t4, t5, t6, t7⟩ := h.topRead
  have hln : lnS tv = some (vi ((S.length : Int) + 1)) := h.top.len
  have w1 := wrap_ok (S.length : Int) (by omega) (by omega)
  have jr := join_of h.run
  have jb := join_of t3
  have c5 : (E.cells s o tv 0 0 false)[5]? = some tv := rfl
  have c2 : (E.cells s o tv 0 0 false)[2]? = some (.d (seqD E.m.pnl E.m.procs pD)) := rfl
  have hlA := lt_of_get t3
  obtain ⟨p1, q1, u1⟩ := seq_row (nl := E.m.pnl) (f := pD) (s := 6) (fun _ => rfl) (getP_of hf.n)
  have x1 := u1.ix
  have y1 := u1.all
  obtain ⟨p2, q2, u2⟩ := seq_row (nl := (getP E.m f.n).bnl) (f := bD) (s := 5) (fun _ => rfl) (getB_of hf.b)
  have x2 := u2.ix
  have y2 := u2.all
  have r0 : (row (R, f))[0]? = some (vi f.n) := rfl
  have r1 : (row (R, f))[1]? = some (.sl 0 R 0 f.regs.length 1) := rfl
  have r2 : (row (R, f))[2]? = some (vi f.low) := rfl
  have r3 : (row (R, f))[3]? = some (vi f.b) := rfl
  have r4 : (row (R, f))[4]? = some (vi f.i) := rfl
  have pp4 : (pD (getP E.m f.n))[4]? = some (seqD (getP E.m f.n).onl (getP E.m f.n).objs sD) := rfl
  have pp5 : (pD (getP E.m f.n))[5]? = some (seqD (getP E.m f.n).bnl (getP E.m f.n).blks bD) := rfl
  have bb0 : (bD (getB' (getP E.m f.n) f.b))[0]? = some (seqD (getB' (getP E.m f.n) f.b).inl (getB' (getP E.m f.n) f.b).ins iD) := rfl
  have hlb := seq_len (getB' (getP E.m f.n) f.b).inl (getB' (getP E.m f.n) f.b).ins iD
  have s1 := stA_new (n := 5) (lim := 1) (A := A) (H := H) (cs := row (R, f)) (c := [AV.d (.int .i64 0), .d (.seq true 0 []), .d (.int .i64 0), .d (.int .i64 0), .d (.int .i64 0)]) (by decide) rfl rfl rfl
  have h1 := h.push hE [some (row (R, f))]
  have k1 : (A ++ [some (row (R, f))])[A.length]? = some (some (row (R, f))) := by simp
  have l1 : (A ++ [some (row (R, f))]).length = A.length + 1 := by simp
  have v1 : (A ++ [some (row (R, f))])[b]? = some (some cells) := by rw [List.getElem?_append_left hlA]; exact t3
  generalize A ++ [some (row (R, f))] = A1 at *
  have jr1 := join_of h1.run
  have jq1 := join_of k1
  have jrz : ((A1 ++ [some [AV.d (.str ⟨#[]⟩), .d (.bool false), .d (.int .i64 0), .d (.int .i64 0), .d (.seq true 0 []), .d (.seq true 0 [])]])[E.ri]?).join = some (E.cells s o tv 0 0 false) := by rw [List.getElem?_append_left (lt_of_get h1.run)]; exact jr1
  have jqz : ((A1 ++ [some [AV.d (.str ⟨#[]⟩), .d (.bool false), .d (.int .i64 0), .d (.int .i64 0), .d (.seq true 0 []), .d (.seq true 0 [])]])[A.length]?).join = some (row (R, f)) := by rw [List.getElem?_append_left (by omega)]; exact jq1
  have s2 := stA_new (n := 6) (lim := 1) (A := A1) (H := H) (cs := (pD (getP E.m f.n)).map .d) (c := [AV.d (.str ⟨#[]⟩), .d (.bool false), .d (.int .i64 0), .d (.int .i64 0), .d (.seq true 0 []), .d (.seq true 0 [])]) (by decide) (all_leaf_d _) rfl rfl
  have h2 := h1.push hE [some ((pD (getP E.m f.n)).map AV.d)]
  have k2 : (A1 ++ [some ((pD (getP E.m f.n)).map AV.d)])[A1.length]? = some (some ((pD (getP E.m f.n)).map AV.d)) := by simp
  have l2 : (A1 ++ [some ((pD (getP E.m f.n)).map AV.d)]).length = A.length + 2 := by simp [l1]
  have k12 : (A1 ++ [some ((pD (getP E.m f.n)).map AV.d)])[A.length]? = some (some (row (R, f))) := by rw [List.getElem?_append_left (by omega)]; exact k1
  have v2 : (A1 ++ [some ((pD (getP E.m f.n)).map AV.d)])[b]? = some (some cells) := by rw [List.getElem?_append_left (by omega)]; exact v1
  generalize A1 ++ [some ((pD (getP E.m f.n)).map AV.d)] = A2 at *
  have jq2 := join_of k2
  have jq12 := join_of k12
  have s3 := stA_new (n := 5) (lim := 1) (A := A2) (H := H) (cs := (bD (getB' (getP E.m f.n) f.b)).map .d) (c := [AV.d (.seq true 0 []), .d (.int .i64 0), .d (.int .i64 0), .d (.int .i64 0), .d (.int .i64 0)]) (by decide) (all_leaf_d _) rfl rfl
  have h3 := h2.push hE [some ((bD (getB' (getP E.m f.n) f.b)).map AV.d)]
  have k3 : (A2 ++ [some ((bD (getB' (getP E.m f.n) f.b)).map AV.d)])[A2.length]? = some (some ((bD (getB' (getP E.m f.n) f.b)).map AV.d)) := by simp
  have l3 : (A2 ++ [some ((bD (getB' (getP E.m f.n) f.b)).map AV.d)]).length = A.length + 3 := by simp [l2]
  have k13 : (A2 ++ [some ((bD (getB' (getP E.m f.n) f.b)).map AV.d)])[A.length]? = some (some (row (R, f))) := by rw [List.getElem?_append_left (by omega)]; exact k12
  have k23 : (A2 ++ [some ((bD (getB' (getP E.m f.n) f.b)).map AV.d)])[A1.length]? = some (some ((pD (getP E.m f.n)).map AV.d)) := by rw [List.getElem?_append_left (by omega)]; exact k2
  have v3 : (A2 ++ [some ((bD (getB' (getP E.m f.n) f.b)).map AV.d)])[b]? = some (some cells) := by rw [List.getElem?_append_left (by omega)]; exact v2
  generalize A2 ++ [some ((bD (getB' (getP E.m f.n) f.b)).map AV.d)] = A3 at *
  have jq3 := join_of k3
  have jq13 := join_of k13
  have hfi := hf.i
  have hlt : f.i < (getB' (getP E.m f.n) f.b).ins.length := by omega
  have hne : ¬ ((f.i : Int) = (getB' (getP E.m f.n) f.b).ins.length) := by omega
  have h60 := hM.insLen hf.n hf.b
  obtain ⟨p3, q3, u3⟩ := seq_row (nl := (getB' (getP E.m f.n) f.b).inl) (f := iD) (s := 11) (fun _ => rfl) (getI_of hlt)
  have x3 := u3.ix
  have y3 := u3.all
  have s4 := stA_new (n := 11) (lim := 1) (A := A3) (H := H) (cs := (iD (getI (getB' (getP E.m f.n) f.b) f.i)).map .d) (c := [AV.d (.int .i64 0), .d (.int .i64 0), .d (.int .i64 0), .d (.int .i64 0), .d (.int .i64 0), .d (.int .i64 0), .d (.int .i64 0), .d (.int .i64 0), .d (.int .u32 0), .d (.seq true 0 []), .d (.bool false)]) (by decide) (all_leaf_d _) rfl rfl
  have h4 := h3.push hE [some ((iD (getI (getB' (getP E.m f.n) f.b) f.i)).map AV.d)]
  have k4 : (A3 ++ [some ((iD (getI (getB' (getP E.m f.n) f.b) f.i)).map AV.d)])[A3.length]? = some (some ((iD (getI (getB' (getP E.m f.n) f.b) f.i)).map AV.d)) := by simp
  have l4 : (A3 ++ [some ((iD (getI (getB' (getP E.m f.n) f.b) f.i)).map AV.d)]).length = A.length + 4 := by simp [l3]
  have k14 : (A3 ++ [some ((iD (getI (getB' (getP E.m f.n) f.b) f.i)).map AV.d)])[A.length]? = some (some (row (R, f))) := by rw [List.getElem?_append_left (by omega)]; exact k13
  have k24 : (A3 ++ [some ((iD (getI (getB' (getP E.m f.n) f.b) f.i)).map AV.d)])[A1.length]? = some (some ((pD (getP E.m f.n)).map AV.d)) := by rw [List.getElem?_append_left (by omega)]; exact k23
  have v4 : (A3 ++ [some ((iD (getI (getB' (getP E.m f.n) f.b) f.i)).map AV.d)])[b]? = some (some cells) := by rw [List.getElem?_append_left (by omega)]; exact v3
  generalize A3 ++ [some ((iD (getI (getB' (getP E.m f.n) f.b) f.i)).map AV.d)] = A4 at *
  have jr4 := join_of h4.run
  have jq14 := join_of k14
  have w2 : IntKind.i64.wrap ((f.i : Int) + 1) = ((f.i + 1 : Nat) : Int) := wrap_ok _ (by omega) (by omega)
  have s5 := stA_leaf (lim := 1) (A := A4) (H := H) (i := b) (o := S.length * 5 + 4) (v := vi ((f.i + 1 : Nat) : Int)) (c := cells) (by decide) rfl (join_of v4) (by omega)
  have hc' := set_top (j := 4) (v := vi ((f.i + 1 : Nat) : Int)) t5
  have h5 := h4.setTop hE (f' := ⟨f.n, f.regs, f.low, f.b, f.i + 1⟩) rfl t1 v4 (by simp; omega) hc'
  have k5 : (A4.set b (some (cells.set (S.length * 5 + 4) (vi ((f.i + 1 : Nat) : Int)))))[A3.length]? = some (some ((iD (getI (getB' (getP E.m f.n) f.b) f.i)).map AV.d)) := by rw [List.getElem?_set_ne (by omega)]; exact k4
  have k15 : (A4.set b (some (cells.set (S.length * 5 + 4) (vi ((f.i + 1 : Nat) : Int)))))[A.length]? = some (some (row (R, f))) := by rw [List.getElem?_set_ne (by omega)]; exact k14
  have k25 : (A4.set b (some (cells.set (S.length * 5 + 4) (vi ((f.i + 1 : Nat) : Int)))))[A1.length]? = some (some ((pD (getP E.m f.n)).map AV.d)) := by rw [List.getElem?_set_ne (by omega)]; exact k24
  have l5 : (A4.set b (some (cells.set (S.length * 5 + 4) (vi ((f.i + 1 : Nat) : Int))))).length = A.length + 4 := by simp [l4]
  generalize ((f.i + 1 : Nat) : Int) = fi1 at *
  generalize A4.set b (some (cells.set (S.length * 5 + 4) (vi fi1))) = A5 at *
  have jr5 := join_of h5.run
  have jq5 := join_of k5
  have jq15 := join_of k15
  have jq25 := join_of k25
  have hrl := hf.regs.len
  have hrw := hf.regs.w
  have hR5 := h5.regs (R, ⟨f.n, f.regs, f.low, f.b, f.i + 1⟩) (by simp)
  have hRA := h.regs (R, f) (by simp)
  simp only at hR5 hRA
  have hRlt := lt_of_get hRA.2
  have jR5 := join_of hR5.2
  have rd : ∀ k : Int, 0 ≤ k → k < (getP E.m f.n).regs → ixS 1 (.sl 0 R 0 f.regs.length 1) (vi k) = some (.ptr 0 R k.toNat) ∧ (f.regs.map vw)[k.toNat]? = some (vw (rg f.regs k)) := fun k a0 a1 => by
    have := ixS_nat (s := 1) (l := 0) (b := R) (o := 0) (n := f.regs.length) (z := 1) a0 (by omega)
    simp only [Nat.zero_add, Nat.mul_one] at this
    exact ⟨this, rg_map vw a0 (by omega)⟩
  have hio := hM.ins hf.n hf.b hlt
  have hnw := hM.numW hf.n hf.b hlt
  have ki0 := h.k0
  have kr := hE.r
  have km := hE.m
  have hst : stepR E.m E.inputs f (S.map (·.2)) s = .go (⟨f.n, f.regs, f.low, f.b, f.i + 1⟩ :: S.map (·.2)) ⟨s.mem, s.out ++ [rg f.regs (getI (getB' (getP E.m f.n) f.b) f.i).a], s.ins⟩ := by
    unfold stepR
    rw [if_neg he, if_neg (by omega)]
    simp [insP, hop]
  rw [hst]
  generalize hii : (getI (getB' (getP E.m f.n) f.b) f.i) = ii at *
  have hrg := ins_regs hio (by omega)
  have ha := regOk_t (show regOk (getP E.m f.n) ii.a true = true by have := hrg.2.1; rwa [hop] at this)
  obtain ⟨ga, ga2⟩ := rd ii.a ha.1 ha.2
  have i0 : (iD ii)[0]? = some (.int .i64 ii.op) := rfl
  have i2 : (iD ii)[2]? = some (.int .i64 ii.a) := rfl
  have c8 : (E.cells s o tv 0 0 false)[8]? = some o := rfl
  obtain ⟨o', A6, happ, ho6, hk6⟩ := out_app (H := H) (bytes := 4) (x := vw (rg f.regs ii.a)) h5.out h5.k0 rfl (by omega) (by omega)
  have hbl := bldS_onev (z := vw 0) (v := vw (rg f.regs ii.a)) (A := A5) (H := H) rfl
  have jrz5 := getB_of' (H := H) (show (A5 ++ [some [vw (rg f.regs ii.a)]])[E.ri]? = some (some (E.cells s o tv 0 0 false)) by rw [List.getElem?_append_left (lt_of_get h5.run)]; exact h5.run)
  have hr6 := hk6.get (by simp) (outAt_k0 h5.out hE.r) h5.run
  have s7 := stA_leaf (lim := 1) (A := A6) (H := H) (i := E.ri) (o := 8) (v := o') (c := E.cells s o tv 0 0 false) (by decide) ho6.leaf (join_of hr6) (by simp [Rf.cells])
  have hce : (E.cells s o tv 0 0 false).set 8 o' = E.cells ⟨s.mem, s.out ++ [rg f.regs ii.a], s.ins⟩ o' tv 0 0 false := rfl
  rw [hce] at s7
  have hfin := h5.outAt' hE hk6 ho6
  have k7 : (A6.set E.ri (some (E.cells ⟨s.mem, s.out ++ [rg f.regs ii.a], s.ins⟩ o' tv 0 0 false)))[A3.length]? = some (some ((iD ii).map AV.d)) := by
    rw [List.getElem?_set_ne (by omega)]
    exact hk6.get (by simp) (fun e => by have := (h.lt (j := A3.length) (by unfold blks; rw [e]; simp)).2; omega) k5
  have jq7 := join_of k7
  refine ⟨_, ?_, _, o', tv, rfl, hfin⟩
  generalize A6.set E.ri (some (E.cells ⟨s.mem, s.out ++ [rg f.regs ii.a], s.ins⟩ o' tv 0 0 false)) = A7 at *
  generalize row (R, f) = RW at *
  generalize bD (getB' (getP E.m f.n) f.b) = BD at *
  generalize pD (getP E.m f.n) = PD at *
  generalize iD ii = ID at *
  simp -implicitDefEqProofs [jr, c5, hln, abin_sub, w1, t6, jb, t7, s1, jr1, c2, jq1, r0, x1, y1, jrz, jqz, s2, jq2, pp5, jq12, r3, x2, y2, s3, jq3, bb0, hlb, jq13, r4, abin_eql, hne, x3, y3, s4, jr4, jq14, abin_add, w2, s5, jq5, i0, hop, jr5, c8, jq15, r1, i2, ga, jR5, ga2, hbl, jrz5, happ, s7, jq7]
theorem step22_11 (hE : RfOk E) (hM : MdOk E.m) (hI : InOk E.inputs) (h : RefAt E A ((R, f) :: S) s o tv 0 0 false) (hf : FrOk E.m f) (hg : ∀ y ∈ S, WtOk E.m y.2) (hS : S.length < 5000) (hin : s.ins < 1000000) (hol : s.out.length < 1000000) (he : f.i ≠ (getB' (getP E.m f.n) f.b).ins.length) (hop : (getI (getB' (getP E.m f.n) f.b) f.i).op = 11) : ∃ A', evCall Try.prog C (d + 6) 1 22 [.ptr 0 E.ri 0] (A :: H) = some (.tup [], A' :: H) ∧ RefR E A' (stepR E.m E.inputs f (S.map (·.2)) s) := by
  rw [evCall_inEq (fi := fi22) rfl rfl (b22 _ _ _ _)]
  unfold s22
  obtain ⟨b, cells, t1, t2, t3, t4, t5, t6, t7⟩ := h.topRead
  have hln : lnS tv = some (vi ((S.length : Int) + 1)) := h.top.len
  have w1 := wrap_ok (S.length : Int) (by omega) (by omega)
  have jr := join_of h.run
  have jb := join_of t3
  have c5 : (E.cells s o tv 0 0 false)[5]? = some tv := rfl
  have c2 : (E.cells s o tv 0 0 false)[2]? = some (.d (seqD E.m.pnl E.m.procs pD)) := rfl
  have hlA := lt_of_get t3
  obtain ⟨p1, q1, u1⟩ := seq_row (nl := E.m.pnl) (f := pD) (s := 6) (fun _ => rfl) (getP_of hf.n)
  have x1 := u1.ix
  have y1 := u1.all
  obtain ⟨p2, q2, u2⟩ := seq_row (nl := (getP E.m f.n).bnl) (f := bD) (s := 5) (fun _ => rfl) (getB_of hf.b)
  have x2 := u2.ix
  have y2 := u2.all
  have r0 : (row (R, f))[0]? = some (vi f.n) := rfl
  have r1 : (row (R, f))[1]? = some (.sl 0 R 0 f.regs.length 1) := rfl
  have r2 : (row (R, f))[2]? = some (vi f.low) := rfl
  have r3 : (row (R, f))[3]? = some (vi f.b) := rfl
  have r4 : (row (R, f))[4]? = some (vi f.i) := rfl
  have pp4 : (pD (getP E.m f.n))[4]? = some (seqD (getP E.m f.n).onl (getP E.m f.n).objs sD) := rfl
  have pp5 : (pD (getP E.m f.n))[5]? = some (seqD (getP E.m f.n).bnl (getP E.m f.n).blks bD) := rfl
  have bb0 : (bD (getB' (getP E.m f.n) f.b))[0]? = some (seqD (getB' (getP E.m f.n) f.b).inl (getB' (getP E.m f.n) f.b).ins iD) := rfl
  have hlb := seq_len (getB' (getP E.m f.n) f.b).inl (getB' (getP E.m f.n) f.b).ins iD
  have s1 := stA_new (n := 5) (lim := 1) (A := A) (H := H) (cs := row (R, f)) (c := [AV.d (.int .i64 0), .d (.seq true 0 []), .d (.int .i64 0), .d (.int .i64 0), .d (.int .i64 0)]) (by decide) rfl rfl rfl
  have h1 := h.push hE [some (row (R, f))]
  have k1 : (A ++ [some (row (R, f))])[A.length]? = some (some (row (R, f))) := by simp
  have l1 : (A ++ [some (row (R, f))]).length = A.length + 1 := by simp
  have v1 : (A ++ [some (row (R, f))])[b]? = some (some cells) := by rw [List.getElem?_append_left hlA]; exact t3
  generalize A ++ [some (row (R, f))] = A1 at *
  have jr1 := join_of h1.run
  have jq1 := join_of k1
  have jrz : ((A1 ++ [some [AV.d (.str ⟨#[]⟩), .d (.bool false), .d (.int .i64 0), .d (.int .i64 0), .d (.seq true 0 []), .d (.seq true 0 [])]])[E.ri]?).join = some (E.cells s o tv 0 0 false) := by rw [List.getElem?_append_left (lt_of_get h1.run)]; exact jr1
  have jqz : ((A1 ++ [some [AV.d (.str ⟨#[]⟩), .d (.bool false), .d (.int .i64 0), .d (.int .i64 0), .d (.seq true 0 []), .d (.seq true 0 [])]])[A.length]?).join = some (row (R, f)) := by rw [List.getElem?_append_left (by omega)]; exact jq1
  have s2 := stA_new (n := 6) (lim := 1) (A := A1) (H := H) (cs := (pD (getP E.m f.n)).map .d) (c := [AV.d (.str ⟨#[]⟩), .d (.bool false), .d (.int .i64 0), .d (.int .i64 0), .d (.seq true 0 []), .d (.seq true 0 [])]) (by decide) (all_leaf_d _) rfl rfl
  have h2 := h1.push hE [some ((pD (getP E.m f.n)).map AV.d)]
  have k2 : (A1 ++ [some ((pD (getP E.m f.n)).map AV.d)])[A1.length]? = some (some ((pD (getP E.m f.n)).map AV.d)) := by simp
  have l2 : (A1 ++ [some ((pD (getP E.m f.n)).map AV.d)]).length = A.length + 2 := by simp [l1]
  have k12 : (A1 ++ [some ((pD (getP E.m f.n)).map AV.d)])[A.length]? = some (some (row (R, f))) := by rw [List.getElem?_append_left (by omega)]; exact k1
  have v2 : (A1 ++ [some ((pD (getP E.m f.n)).map AV.d)])[b]? = some (some cells) := by rw [List.getElem?_append_left (by omega)]; exact v1
  generalize A1 ++ [some ((pD (getP E.m f.n)).map AV.d)] = A2 at *
  have jq2 := join_of k2
  have jq12 := join_of k12
  have s3 := stA_new (n := 5) (lim := 1) (A := A2) (H := H) (cs := (bD (getB' (getP E.m f.n) f.b)).map .d) (c := [AV.d (.seq true 0 []), .d (.int .i64 0), .d (.int .i64 0), .d (.int .i64 0), .d (.int .i64 0)]) (by decide) (all_leaf_d _) rfl rfl
  have h3 := h2.push hE [some ((bD (getB' (getP E.m f.n) f.b)).map AV.d)]
  have k3 : (A2 ++ [some ((bD (getB' (getP E.m f.n) f.b)).map AV.d)])[A2.length]? = some (some ((bD (getB' (getP E.m f.n) f.b)).map AV.d)) := by simp
  have l3 : (A2 ++ [some ((bD (getB' (getP E.m f.n) f.b)).map AV.d)]).length = A.length + 3 := by simp [l2]
  have k13 : (A2 ++ [some ((bD (getB' (getP E.m f.n) f.b)).map AV.d)])[A.length]? = some (some (row (R, f))) := by rw [List.getElem?_append_left (by omega)]; exact k12
  have k23 : (A2 ++ [some ((bD (getB' (getP E.m f.n) f.b)).map AV.d)])[A1.length]? = some (some ((pD (getP E.m f.n)).map AV.d)) := by rw [List.getElem?_append_left (by omega)]; exact k2
  have v3 : (A2 ++ [some ((bD (getB' (getP E.m f.n) f.b)).map AV.d)])[b]? = some (some cells) := by rw [List.getElem?_append_left (by omega)]; exact v2
  generalize A2 ++ [some ((bD (getB' (getP E.m f.n) f.b)).map AV.d)] = A3 at *
  have jq3 := join_of k3
  have jq13 := join_of k13
  have hfi := hf.i
  have hlt : f.i < (getB' (getP E.m f.n) f.b).ins.length := by omega
  have hne : ¬ ((f.i : Int) = (getB' (getP E.m f.n) f.b).ins.length) := by omega
  have h60 := hM.insLen hf.n hf.b
  obtain ⟨p3, q3, u3⟩ := seq_row (nl := (getB' (getP E.m f.n) f.b).inl) (f := iD) (s := 11) (fun _ => rfl) (getI_of hlt)
  have x3 := u3.ix
  have y3 := u3.all
  have s4 := stA_new (n := 11) (lim := 1) (A := A3) (H := H) (cs := (iD (getI (getB' (getP E.m f.n) f.b) f.i)).map .d) (c := [AV.d (.int .i64 0), .d (.int .i64 0), .d (.int .i64 0), .d (.int .i64 0), .d (.int .i64 0), .d (.int .i64 0), .d (.int .i64 0), .d (.int .i64 0), .d (.int .u32 0), .d (.seq true 0 []), .d (.bool false)]) (by decide) (all_leaf_d _) rfl rfl
  have h4 := h3.push hE [some ((iD (getI (getB' (getP E.m f.n) f.b) f.i)).map AV.d)]
  have k4 : (A3 ++ [some ((iD (getI (getB' (getP E.m f.n) f.b) f.i)).map AV.d)])[A3.length]? = some (some ((iD (getI (getB' (getP E.m f.n) f.b) f.i)).map AV.d)) := by simp
  have l4 : (A3 ++ [some ((iD (getI (getB' (getP E.m f.n) f.b) f.i)).map AV.d)]).length = A.length + 4 := by simp [l3]
  have k14 : (A3 ++ [some ((iD (getI (getB' (getP E.m f.n) f.b) f.i)).map AV.d)])[A.length]? = some (some (row (R, f))) := by rw [List.getElem?_append_left (by omega)]; exact k13
  have k24 : (A3 ++ [some ((iD (getI (getB' (getP E.m f.n) f.b) f.i)).map AV.d)])[A1.length]? = some (some ((pD (getP E.m f.n)).map AV.d)) := by rw [List.getElem?_append_left (by omega)]; exact k23
  have v4 : (A3 ++ [some ((iD (getI (getB' (getP E.m f.n) f.b) f.i)).map AV.d)])[b]? = some (some cells) := by rw [List.getElem?_append_left (by omega)]; exact v3
  generalize A3 ++ [some ((iD (getI (getB' (getP E.m f.n) f.b) f.i)).map AV.d)] = A4 at *
  have jr4 := join_of h4.run
  have jq14 := join_of k14
  have w2 : IntKind.i64.wrap ((f.i : Int) + 1) = ((f.i + 1 : Nat) : Int) := wrap_ok _ (by omega) (by omega)
  have s5 := stA_leaf (lim := 1) (A := A4) (H := H) (i := b) (o := S.length * 5 + 4) (v := vi ((f.i + 1 : Nat) : Int)) (c := cells) (by decide) rfl (join_of v4) (by omega)
  have hc' := set_top (j := 4) (v := vi ((f.i + 1 : Nat) : Int)) t5
  have h5 := h4.setTop hE (f' := ⟨f.n, f.regs, f.low, f.b, f.i + 1⟩) rfl t1 v4 (by simp; omega) hc'
  have k5 : (A4.set b (some (cells.set (S.length * 5 + 4) (vi ((f.i + 1 : Nat) : Int)))))[A3.length]? = some (some ((iD (getI (getB' (getP E.m f.n) f.b) f.i)).map AV.d)) := by rw [List.getElem?_set_ne (by omega)]; exact k4
  have k15 : (A4.set b (some (cells.set (S.length * 5 + 4) (vi ((f.i + 1 : Nat) : Int)))))[A.length]? = some (some (row (R, f))) := by rw [List.getElem?_set_ne (by omega)]; exact k14
  have k25 : (A4.set b (some (cells.set (S.length * 5 + 4) (vi ((f.i + 1 : Nat) : Int)))))[A1.length]? = some (some ((pD (getP E.m f.n)).map AV.d)) := by rw [List.getElem?_set_ne (by omega)]; exact k24
  have l5 : (A4.set b (some (cells.set (S.length * 5 + 4) (vi ((f.i + 1 : Nat) : Int))))).length = A.length + 4 := by simp [l4]
  generalize ((f.i + 1 : Nat) : Int) = fi1 at *
  generalize A4.set b (some (cells.set (S.length * 5 + 4) (vi fi1))) = A5 at *
  have jr5 := join_of h5.run
  have jq5 := join_of k5
  have jq15 := join_of k15
  have jq25 := join_of k25
  have hrl := hf.regs.len
  have hrw := hf.regs.w
  have hR5 := h5.regs (R, ⟨f.n, f.regs, f.low, f.b, f.i + 1⟩) (by simp)
  have hRA := h.regs (R, f) (by simp)
  simp only at hR5 hRA
  have hRlt := lt_of_get hRA.2
  have jR5 := join_of hR5.2
  have rd : ∀ k : Int, 0 ≤ k → k < (getP E.m f.n).regs → ixS 1 (.sl 0 R 0 f.regs.length 1) (vi k) = some (.ptr 0 R k.toNat) ∧ (f.regs.map vw)[k.toNat]? = some (vw (rg f.regs k)) := fun k a0 a1 => by
    have := ixS_nat (s := 1) (l := 0) (b := R) (o := 0) (n := f.regs.length) (z := 1) a0 (by omega)
    simp only [Nat.zero_add, Nat.mul_one] at this
    exact ⟨this, rg_map vw a0 (by omega)⟩
  have hio := hM.ins hf.n hf.b hlt
  have hnw := hM.numW hf.n hf.b hlt
  have ki0 := h.k0
  have kr := hE.r
  have km := hE.m
  have hst : stepR E.m E.inputs f (S.map (·.2)) s = .go (⟨f.n, wr f.regs (getI (getB' (getP E.m f.n) f.b) f.i).d (inW E.inputs s.ins), f.low, f.b, f.i + 1⟩ :: S.map (·.2)) ⟨s.mem, s.out, s.ins + 1⟩ := by
    unfold stepR
    rw [if_neg he, if_neg (by omega)]
    simp [insP, hop]
  rw [hst]
  generalize hii : (getI (getB' (getP E.m f.n) f.b) f.i) = ii at *
  have hrg := ins_regs hio (by omega)
  have hd := regOk_t (show regOk (getP E.m f.n) ii.d true = true by have := hrg.1; rwa [hop] at this)
  obtain ⟨gd, _⟩ := rd ii.d hd.1 hd.2
  have i0 : (iD ii)[0]? = some (.int .i64 ii.op) := rfl
  have i1 : (iD ii)[1]? = some (.int .i64 ii.d) := rfl
  have c9 : (E.cells s o tv 0 0 false)[9]? = some (vi s.ins) := rfl
  have w3 : IntKind.i64.wrap ((s.ins : Int) + 1) = ((s.ins + 1 : Nat) : Int) := wrap_ok _ (by omega) (by omega)
  have s6 := stA_leaf (lim := 1) (A := A5) (H := H) (i := E.ri) (o := 9) (v := vi ((s.ins + 1 : Nat) : Int)) (c := E.cells s o tv 0 0 false) (by decide) rfl jr5 (by simp [Rf.cells])
  have hce : (E.cells s o tv 0 0 false).set 9 (vi ((s.ins + 1 : Nat) : Int)) = E.cells ⟨s.mem, s.out, s.ins + 1⟩ o tv 0 0 false := rfl
  rw [hce] at s6
  have h6 := h5.cellsAt hE (s.ins + 1) 0 0 false
  have k6 : (A5.set E.ri (some (E.cells ⟨s.mem, s.out, s.ins + 1⟩ o tv 0 0 false)))[A3.length]? = some (some ((iD ii).map AV.d)) := by rw [List.getElem?_set_ne (by omega)]; exact k5
  have k16 : (A5.set E.ri (some (E.cells ⟨s.mem, s.out, s.ins + 1⟩ o tv 0 0 false)))[A.length]? = some (some (row (R, f))) := by rw [List.getElem?_set_ne (by omega)]; exact k15
  generalize A5.set E.ri (some (E.cells ⟨s.mem, s.out, s.ins + 1⟩ o tv 0 0 false)) = A6 at *
  have jq6 := join_of k6
  have jq16 := join_of k16
  have hR6 := h6.regs (R, ⟨f.n, f.regs, f.low, f.b, f.i + 1⟩) (by simp)
  simp only at hR6
  have s7 := stA_leaf (lim := 1) (A := A6) (H := H) (i := R) (o := ii.d.toNat) (v := vw 0) (c := f.regs.map vw) (by decide) rfl (join_of hR6.2) (by simp; omega)
  have h7 := h6.setRegs hE (r := wr f.regs ii.d 0) (wr_len _ _ _)
  rw [show (wr f.regs ii.d 0).map vw = (f.regs.map vw).set ii.d.toNat (vw 0) by simp [wr, List.map_set]] at h7
  have k7 : (A6.set R (some ((f.regs.map vw).set ii.d.toNat (vw 0))))[A3.length]? = some (some ((iD ii).map AV.d)) := by rw [List.getElem?_set_ne (by omega)]; exact k6
  have k17 : (A6.set R (some ((f.regs.map vw).set ii.d.toNat (vw 0))))[A.length]? = some (some (row (R, f))) := by rw [List.getElem?_set_ne (by omega)]; exact k16
  have hR7 : (A6.set R (some ((f.regs.map vw).set ii.d.toNat (vw 0))))[R]? = some (some ((f.regs.map vw).set ii.d.toNat (vw 0))) := by rw [List.getElem?_set_self (lt_of_get hR6.2)]
  have s8 := fun x : Int => stA_leaf (lim := 1) (A := A6.set R (some ((f.regs.map vw).set ii.d.toNat (vw 0)))) (H := H) (i := R) (o := ii.d.toNat) (v := vw x) (c := (f.regs.map vw).set ii.d.toNat (vw 0)) (by decide) rfl (join_of hR7) (by simp; omega)
  simp only [List.set_set] at s8
  have h8 := fun x : Int => h6.setRegs hE (r := wr f.regs ii.d x) (wr_len _ _ _)
  have hwm : ∀ x : Int, (wr f.regs ii.d x).map vw = (f.regs.map vw).set ii.d.toNat (vw x) := fun x => by simp [wr, List.map_set]
  simp only [hwm] at h8
  generalize hA7 : A6.set R (some ((f.regs.map vw).set ii.d.toNat (vw 0))) = A7 at *
  have jq7 := join_of k7
  have jq17 := join_of k17
  have jr7 := join_of h7.run
  have jr6 := join_of h6.run
  have c9' : (E.cells ⟨s.mem, s.out, s.ins + 1⟩ o tv 0 0 false)[9]? = some (vi ((s.ins + 1 : Nat) : Int)) := rfl
  have c7' : (E.cells ⟨s.mem, s.out, s.ins + 1⟩ o tv 0 0 false)[7]? = some (.d (seqD E.inl E.inputs wD)) := rfl
  have hlin := seq_len E.inl E.inputs wD
  have w4 : IntKind.i64.wrap (((s.ins + 1 : Nat) : Int) - 1) = s.ins := by rw [show ((s.ins + 1 : Nat) : Int) - 1 = s.ins by omega]; exact wrap_ok _ (by omega) (by omega)
  have ht : ((s.ins + 1 : Nat) : Int) = s.ins + 1 := by omega
  generalize ((s.ins + 1 : Nat) : Int) = t at *
  generalize E.cells ⟨s.mem, s.out, s.ins + 1⟩ o tv 0 0 false = CX at *
  by_cases hc : t ≤ E.inputs.length
  · obtain ⟨x, hx⟩ : ∃ x, E.inputs[s.ins]? = some x := ⟨_, List.getElem?_eq_getElem (by omega)⟩
    obtain ⟨p, hp, hp2⟩ := seq_one (nl := E.inl) (f := fun n => D.int .u32 n) hx
    have hp' : ixS 1 (.d (seqD E.inl E.inputs wD)) (vi s.ins) = some p := hp
    have hv : inW E.inputs s.ins = x := by
      unfold inW
      rw [List.getD_eq_getElem?_getD, hx]
      rfl
    rw [hv]
    refine ⟨A6.set R (some ((f.regs.map vw).set ii.d.toNat (vw x))), ?_, (R, ⟨f.n, wr f.regs ii.d x, f.low, f.b, f.i + 1⟩) :: S, o, tv, rfl, h8 x⟩
    have s8 := s8 x
    generalize A6.set R (some ((f.regs.map vw).set ii.d.toNat (vw x))) = A8 at *
    generalize row (R, f) = RW at *
    generalize bD (getB' (getP E.m f.n) f.b) = BD at *
    generalize pD (getP E.m f.n) = PD at *
    generalize iD ii = ID at *
    simp -implicitDefEqProofs [jr, c5, hln, abin_sub, w1, t6, jb, t7, s1, jr1, c2, jq1, r0, x1, y1, jrz, jqz, s2, jq2, pp5, jq12, r3, x2, y2, s3, jq3, bb0, hlb, jq13, r4, abin_eql, hne, x3, y3, s4, jr4, jq14, abin_add, w2, s5, jq5, i0, hop, jr5, c9, w3, s6, jq16, r1, jq6, i1, gd, s7, jr7, c9', c7', hlin, abin_leq, hc, jq17, jq7, w4, hp', hp2, s8]
  · have hv : inW E.inputs s.ins = 0 := by
      unfold inW
      rw [List.getD_eq_getElem?_getD, List.getElem?_eq_none (by omega)]
      rfl
    rw [hv]
    refine ⟨A7, ?_, (R, ⟨f.n, wr f.regs ii.d 0, f.low, f.b, f.i + 1⟩) :: S, o, tv, rfl, h7⟩
    generalize row (R, f) = RW at *
    generalize bD (getB' (getP E.m f.n) f.b) = BD at *
    generalize pD (getP E.m f.n) = PD at *
    generalize iD ii = ID at *
    simp -implicitDefEqProofs [jr, c5, hln, abin_sub, w1, t6, jb, t7, s1, jr1, c2, jq1, r0, x1, y1, jrz, jqz, s2, jq2, pp5, jq12, r3, x2, y2, s3, jq3, bb0, hlb, jq13, r4, abin_eql, hne, x3, y3, s4, jr4, jq14, abin_add, w2, s5, jq5, i0, hop, jr5, c9, w3, s6, jq16, r1, jq6, i1, gd, s7, jr7, c9', c7', hlin, abin_leq, hc]
theorem args22 {A5 : Arena} {p : Prc} {regs : List Int} {i : Ins} {X0 X4 : AV} {q1 q4 : Nat} {RW : List AV} (k15 : A5[q1]? = some (some RW)) (hr1 : RW[1]? = some (.sl 0 R 0 regs.length 1)) (k5 : A5[q4]? = some (some ((iD i).map AV.d))) (hR : A5[R]? = some (some (regs.map vw))) (hr : RegsOk p regs) (hn : i.args.length ≤ 1000) (ha : ∀ r ∈ i.args, 0 ≤ r ∧ r < p.regs) (call : ACall) :
    Gives (iterN LB (s22.l0 call 1) [X0, .ptr 0 q1 0, .ptr 0 q4 0, .d (.seq true 0 []), vi 0] (A5 :: H)) (fun r => ∃ A' av, r = (.exit 0, [X0, .ptr 0 q1 0, .ptr 0 q4 0, av], A' :: H) ∧ OutAt A5.length A' av ((i.args.map (rg regs)).map vw) i.args.length 1 ∧ A5.length ≤ A'.length ∧ ∀ j, j < A5.length → A'[j]? = A5[j]?) := by
  have i9 : (iD i)[9]? = some (seqD i.anl i.args nD) := rfl
  have hla := seq_len i.anl i.args nD
  refine iter_gives (Inv := fun k st H' => ∃ A' av, st = [X0, .ptr 0 q1 0, .ptr 0 q4 0, av, vi k] ∧ H' = A' :: H ∧ OutAt A5.length A' av (((i.args.take k).map (rg regs)).map vw) k 1 ∧ A5.length ≤ A'.length ∧ ∀ j, j < A5.length → A'[j]? = A5[j]?)
    i.args.length (big_lt (by omega)) (fun k hk st H' h => ?_) ⟨A5, _, rfl, rfl, .nil 1, Nat.le_refl _, fun _ _ => rfl⟩
  obtain ⟨A', av, rfl, rfl, ho, hle, hsame⟩ := h
  have g1 : A'[q1]? = some (some RW) := by rw [hsame q1 (lt_of_get k15)]; exact k15
  have g4 : A'[q4]? = some (some ((iD i).map AV.d)) := by rw [hsame q4 (lt_of_get k5)]; exact k5
  have j1 := join_of g1
  have j4 := join_of g4
  rcases Nat.lt_or_ge k i.args.length with hlt | hge
  · left
    obtain ⟨x, hx⟩ : ∃ x, i.args[k]? = some x := ⟨_, List.getElem?_eq_getElem hlt⟩
    obtain ⟨q, hq, hq2⟩ := seq_one (nl := i.anl) (f := fun n => D.int .i64 n) hx
    have hq' : ixS 1 (.d (seqD i.anl i.args nD)) (vi k) = some q := hq
    have hxr := ha x (List.mem_of_getElem? hx)
    have hi : (k : Int) < i.args.length := by omega
    have w := wrap_ok ((k : Int) + 1) (by omega) (by omega)
    have gR : A'[R]? = some (some (regs.map vw)) := by rw [hsame R (lt_of_get hR)]; exact hR
    have jR := join_of gR
    have hl := hr.len
    have hix := ixS_nat (s := 1) (l := 0) (b := R) (o := 0) (n := regs.length) (z := 1) hxr.1 (by omega)
    simp only [Nat.zero_add, Nat.mul_one] at hix
    have hld := rg_map (l := regs) (k := x) vw hxr.1 (by omega)
    have hbl := bldS_onev (z := vw 0) (v := vw (rg regs x)) (A := A') (H := H) rfl
    obtain ⟨av', A2, happ, ho2, hle2, hs2⟩ := ho.append (H := H) (bytes := 4) (lim := 1) (cs := [vw (rg regs x)]) hle (by decide) rfl rfl (by omega) (by omega)
    refine ⟨[X0, .ptr 0 q1 0, .ptr 0 q4 0, av', vi (k + 1 : Nat)], A2 :: H, hlt, ?_, A2, av', rfl, rfl, ?_, by omega, fun j hj => by rw [hs2 j hj, hsame j hj]⟩
    · generalize iD i = ID at *
      unfold s22.l0
      simp -implicitDefEqProofs [j4, i9, hla, abin_lss, hi, j1, hr1, hq', hq2, hix, jR, hld, hbl, happ, abin_add, w]
    · rw [List.take_add_one, hx]
      simpa using ho2
  · right
    obtain rfl : k = i.args.length := by omega
    refine ⟨_, ?_, ?_, A', av, rfl, by simpa using ho, hle, hsame⟩
    · generalize iD i = ID at *
      unfold s22.l0
      simp -implicitDefEqProofs [j4, i9, hla, abin_lss]
    · simp
theorem step22_9 (hE : RfOk E) (hM : MdOk E.m) (hI : InOk E.inputs) (h : RefAt E A ((R, f) :: S) s o tv 0 0 false) (hf : FrOk E.m f) (hg : ∀ y ∈ S, WtOk E.m y.2) (hS : S.length < 5000) (hin : s.ins < 1000000) (hol : s.out.length < 1000000) (he : f.i ≠ (getB' (getP E.m f.n) f.b).ins.length) (hop : (getI (getB' (getP E.m f.n) f.b) f.i).op = 9) : ∃ A', evCall Try.prog C (d + 6) 1 22 [.ptr 0 E.ri 0] (A :: H) = some (.tup [], A' :: H) ∧ RefR E A' (stepR E.m E.inputs f (S.map (·.2)) s) := by
  rw [evCall_inEq (fi := fi22) rfl rfl (b22 _ _ _ _)]
  unfold s22
  obtain ⟨b, cells, t1, t2, t3, t4, t5, t6, t7⟩ := h.topRead
  have hln : lnS tv = some (vi ((S.length : Int) + 1)) := h.top.len
  have w1 := wrap_ok (S.length : Int) (by omega) (by omega)
  have jr := join_of h.run
  have jb := join_of t3
  have c5 : (E.cells s o tv 0 0 false)[5]? = some tv := rfl
  have c2 : (E.cells s o tv 0 0 false)[2]? = some (.d (seqD E.m.pnl E.m.procs pD)) := rfl
  have hlA := lt_of_get t3
  obtain ⟨p1, q1, u1⟩ := seq_row (nl := E.m.pnl) (f := pD) (s := 6) (fun _ => rfl) (getP_of hf.n)
  have x1 := u1.ix
  have y1 := u1.all
  obtain ⟨p2, q2, u2⟩ := seq_row (nl := (getP E.m f.n).bnl) (f := bD) (s := 5) (fun _ => rfl) (getB_of hf.b)
  have x2 := u2.ix
  have y2 := u2.all
  have r0 : (row (R, f))[0]? = some (vi f.n) := rfl
  have r1 : (row (R, f))[1]? = some (.sl 0 R 0 f.regs.length 1) := rfl
  have r2 : (row (R, f))[2]? = some (vi f.low) := rfl
  have r3 : (row (R, f))[3]? = some (vi f.b) := rfl
  have r4 : (row (R, f))[4]? = some (vi f.i) := rfl
  have pp4 : (pD (getP E.m f.n))[4]? = some (seqD (getP E.m f.n).onl (getP E.m f.n).objs sD) := rfl
  have pp5 : (pD (getP E.m f.n))[5]? = some (seqD (getP E.m f.n).bnl (getP E.m f.n).blks bD) := rfl
  have bb0 : (bD (getB' (getP E.m f.n) f.b))[0]? = some (seqD (getB' (getP E.m f.n) f.b).inl (getB' (getP E.m f.n) f.b).ins iD) := rfl
  have hlb := seq_len (getB' (getP E.m f.n) f.b).inl (getB' (getP E.m f.n) f.b).ins iD
  have s1 := stA_new (n := 5) (lim := 1) (A := A) (H := H) (cs := row (R, f)) (c := [AV.d (.int .i64 0), .d (.seq true 0 []), .d (.int .i64 0), .d (.int .i64 0), .d (.int .i64 0)]) (by decide) rfl rfl rfl
  have h1 := h.push hE [some (row (R, f))]
  have k1 : (A ++ [some (row (R, f))])[A.length]? = some (some (row (R, f))) := by simp
  have l1 : (A ++ [some (row (R, f))]).length = A.length + 1 := by simp
  have v1 : (A ++ [some (row (R, f))])[b]? = some (some cells) := by rw [List.getElem?_append_left hlA]; exact t3
  generalize A ++ [some (row (R, f))] = A1 at *
  have jr1 := join_of h1.run
  have jq1 := join_of k1
  have jrz : ((A1 ++ [some [AV.d (.str ⟨#[]⟩), .d (.bool false), .d (.int .i64 0), .d (.int .i64 0), .d (.seq true 0 []), .d (.seq true 0 [])]])[E.ri]?).join = some (E.cells s o tv 0 0 false) := by rw [List.getElem?_append_left (lt_of_get h1.run)]; exact jr1
  have jqz : ((A1 ++ [some [AV.d (.str ⟨#[]⟩), .d (.bool false), .d (.int .i64 0), .d (.int .i64 0), .d (.seq true 0 []), .d (.seq true 0 [])]])[A.length]?).join = some (row (R, f)) := by rw [List.getElem?_append_left (by omega)]; exact jq1
  have s2 := stA_new (n := 6) (lim := 1) (A := A1) (H := H) (cs := (pD (getP E.m f.n)).map .d) (c := [AV.d (.str ⟨#[]⟩), .d (.bool false), .d (.int .i64 0), .d (.int .i64 0), .d (.seq true 0 []), .d (.seq true 0 [])]) (by decide) (all_leaf_d _) rfl rfl
  have h2 := h1.push hE [some ((pD (getP E.m f.n)).map AV.d)]
  have k2 : (A1 ++ [some ((pD (getP E.m f.n)).map AV.d)])[A1.length]? = some (some ((pD (getP E.m f.n)).map AV.d)) := by simp
  have l2 : (A1 ++ [some ((pD (getP E.m f.n)).map AV.d)]).length = A.length + 2 := by simp [l1]
  have k12 : (A1 ++ [some ((pD (getP E.m f.n)).map AV.d)])[A.length]? = some (some (row (R, f))) := by rw [List.getElem?_append_left (by omega)]; exact k1
  have v2 : (A1 ++ [some ((pD (getP E.m f.n)).map AV.d)])[b]? = some (some cells) := by rw [List.getElem?_append_left (by omega)]; exact v1
  generalize A1 ++ [some ((pD (getP E.m f.n)).map AV.d)] = A2 at *
  have jq2 := join_of k2
  have jq12 := join_of k12
  have s3 := stA_new (n := 5) (lim := 1) (A := A2) (H := H) (cs := (bD (getB' (getP E.m f.n) f.b)).map .d) (c := [AV.d (.seq true 0 []), .d (.int .i64 0), .d (.int .i64 0), .d (.int .i64 0), .d (.int .i64 0)]) (by decide) (all_leaf_d _) rfl rfl
  have h3 := h2.push hE [some ((bD (getB' (getP E.m f.n) f.b)).map AV.d)]
  have k3 : (A2 ++ [some ((bD (getB' (getP E.m f.n) f.b)).map AV.d)])[A2.length]? = some (some ((bD (getB' (getP E.m f.n) f.b)).map AV.d)) := by simp
  have l3 : (A2 ++ [some ((bD (getB' (getP E.m f.n) f.b)).map AV.d)]).length = A.length + 3 := by simp [l2]
  have k13 : (A2 ++ [some ((bD (getB' (getP E.m f.n) f.b)).map AV.d)])[A.length]? = some (some (row (R, f))) := by rw [List.getElem?_append_left (by omega)]; exact k12
  have k23 : (A2 ++ [some ((bD (getB' (getP E.m f.n) f.b)).map AV.d)])[A1.length]? = some (some ((pD (getP E.m f.n)).map AV.d)) := by rw [List.getElem?_append_left (by omega)]; exact k2
  have v3 : (A2 ++ [some ((bD (getB' (getP E.m f.n) f.b)).map AV.d)])[b]? = some (some cells) := by rw [List.getElem?_append_left (by omega)]; exact v2
  generalize A2 ++ [some ((bD (getB' (getP E.m f.n) f.b)).map AV.d)] = A3 at *
  have jq3 := join_of k3
  have jq13 := join_of k13
  have hfi := hf.i
  have hlt : f.i < (getB' (getP E.m f.n) f.b).ins.length := by omega
  have hne : ¬ ((f.i : Int) = (getB' (getP E.m f.n) f.b).ins.length) := by omega
  have h60 := hM.insLen hf.n hf.b
  obtain ⟨p3, q3, u3⟩ := seq_row (nl := (getB' (getP E.m f.n) f.b).inl) (f := iD) (s := 11) (fun _ => rfl) (getI_of hlt)
  have x3 := u3.ix
  have y3 := u3.all
  have s4 := stA_new (n := 11) (lim := 1) (A := A3) (H := H) (cs := (iD (getI (getB' (getP E.m f.n) f.b) f.i)).map .d) (c := [AV.d (.int .i64 0), .d (.int .i64 0), .d (.int .i64 0), .d (.int .i64 0), .d (.int .i64 0), .d (.int .i64 0), .d (.int .i64 0), .d (.int .i64 0), .d (.int .u32 0), .d (.seq true 0 []), .d (.bool false)]) (by decide) (all_leaf_d _) rfl rfl
  have h4 := h3.push hE [some ((iD (getI (getB' (getP E.m f.n) f.b) f.i)).map AV.d)]
  have k4 : (A3 ++ [some ((iD (getI (getB' (getP E.m f.n) f.b) f.i)).map AV.d)])[A3.length]? = some (some ((iD (getI (getB' (getP E.m f.n) f.b) f.i)).map AV.d)) := by simp
  have l4 : (A3 ++ [some ((iD (getI (getB' (getP E.m f.n) f.b) f.i)).map AV.d)]).length = A.length + 4 := by simp [l3]
  have k14 : (A3 ++ [some ((iD (getI (getB' (getP E.m f.n) f.b) f.i)).map AV.d)])[A.length]? = some (some (row (R, f))) := by rw [List.getElem?_append_left (by omega)]; exact k13
  have k24 : (A3 ++ [some ((iD (getI (getB' (getP E.m f.n) f.b) f.i)).map AV.d)])[A1.length]? = some (some ((pD (getP E.m f.n)).map AV.d)) := by rw [List.getElem?_append_left (by omega)]; exact k23
  have v4 : (A3 ++ [some ((iD (getI (getB' (getP E.m f.n) f.b) f.i)).map AV.d)])[b]? = some (some cells) := by rw [List.getElem?_append_left (by omega)]; exact v3
  generalize A3 ++ [some ((iD (getI (getB' (getP E.m f.n) f.b) f.i)).map AV.d)] = A4 at *
  have jr4 := join_of h4.run
  have jq14 := join_of k14
  have w2 : IntKind.i64.wrap ((f.i : Int) + 1) = ((f.i + 1 : Nat) : Int) := wrap_ok _ (by omega) (by omega)
  have s5 := stA_leaf (lim := 1) (A := A4) (H := H) (i := b) (o := S.length * 5 + 4) (v := vi ((f.i + 1 : Nat) : Int)) (c := cells) (by decide) rfl (join_of v4) (by omega)
  have hc' := set_top (j := 4) (v := vi ((f.i + 1 : Nat) : Int)) t5
  have h5 := h4.setTop hE (f' := ⟨f.n, f.regs, f.low, f.b, f.i + 1⟩) rfl t1 v4 (by simp; omega) hc'
  have k5 : (A4.set b (some (cells.set (S.length * 5 + 4) (vi ((f.i + 1 : Nat) : Int)))))[A3.length]? = some (some ((iD (getI (getB' (getP E.m f.n) f.b) f.i)).map AV.d)) := by rw [List.getElem?_set_ne (by omega)]; exact k4
  have k15 : (A4.set b (some (cells.set (S.length * 5 + 4) (vi ((f.i + 1 : Nat) : Int)))))[A.length]? = some (some (row (R, f))) := by rw [List.getElem?_set_ne (by omega)]; exact k14
  have k25 : (A4.set b (some (cells.set (S.length * 5 + 4) (vi ((f.i + 1 : Nat) : Int)))))[A1.length]? = some (some ((pD (getP E.m f.n)).map AV.d)) := by rw [List.getElem?_set_ne (by omega)]; exact k24
  have l5 : (A4.set b (some (cells.set (S.length * 5 + 4) (vi ((f.i + 1 : Nat) : Int))))).length = A.length + 4 := by simp [l4]
  generalize ((f.i + 1 : Nat) : Int) = fi1 at *
  generalize A4.set b (some (cells.set (S.length * 5 + 4) (vi fi1))) = A5 at *
  have jr5 := join_of h5.run
  have jq5 := join_of k5
  have jq15 := join_of k15
  have jq25 := join_of k25
  have hrl := hf.regs.len
  have hrw := hf.regs.w
  have hR5 := h5.regs (R, ⟨f.n, f.regs, f.low, f.b, f.i + 1⟩) (by simp)
  have hRA := h.regs (R, f) (by simp)
  simp only at hR5 hRA
  have hRlt := lt_of_get hRA.2
  have jR5 := join_of hR5.2
  have rd : ∀ k : Int, 0 ≤ k → k < (getP E.m f.n).regs → ixS 1 (.sl 0 R 0 f.regs.length 1) (vi k) = some (.ptr 0 R k.toNat) ∧ (f.regs.map vw)[k.toNat]? = some (vw (rg f.regs k)) := fun k a0 a1 => by
    have := ixS_nat (s := 1) (l := 0) (b := R) (o := 0) (n := f.regs.length) (z := 1) a0 (by omega)
    simp only [Nat.zero_add, Nat.mul_one] at this
    exact ⟨this, rg_map vw a0 (by omega)⟩
  have hio := hM.ins hf.n hf.b hlt
  have hnw := hM.numW hf.n hf.b hlt
  have ki0 := h.k0
  have kr := hE.r
  have km := hE.m
  have hst : stepR E.m E.inputs f (S.map (·.2)) s = entR E.m (getI (getB' (getP E.m f.n) f.b) f.i).obj.toNat ((getI (getB' (getP E.m f.n) f.b) f.i).args.map (rg f.regs)) f.low (⟨f.n, f.regs, f.low, f.b, f.i + 1⟩ :: S.map (·.2)) s := by
    unfold stepR
    rw [if_neg he, if_pos hop]
  rw [hst]
  have har := hM.args hf.n hf.b hlt
  obtain ⟨e1, e2, e3, e4, e5⟩ := call_ok (ins_call hio hop)
  generalize hii : (getI (getB' (getP E.m f.n) f.b) f.i) = ii at *
  have i0 : (iD ii)[0]? = some (.int .i64 ii.op) := rfl
  have i5 : (iD ii)[5]? = some (.int .i64 ii.obj) := rfl
  obtain ⟨r, hr, A6, av, rfl, hav, hle, hsame⟩ := args22 (H := H) (X0 := .ptr 0 E.ri 0) (X4 := .nilptr) k15 r1 k5 hR5.2 hf.regs (by omega) e5 (evCall Try.prog C (d + 5) 1)
  have h6 := h5.keep hE hle fun j hj _ => hsame j hj
  have k6 : A6[A3.length]? = some (some ((iD ii).map AV.d)) := by rw [hsame _ (lt_of_get k5)]; exact k5
  have k16 : A6[A.length]? = some (some (row (R, f))) := by rw [hsame _ (lt_of_get k15)]; exact k15
  have hav2 : OutAt 0 A6 av ((ii.args.map (rg f.regs)).map vw) (ii.args.map (rg f.regs)).length 1 := by rw [List.length_map]; exact hav.zero
  have hlow : endG E.m ≤ f.low := hf.lo
  have heg := (endG_ok hM).1
  obtain ⟨A7, hen, hres, hs7⟩ := enter21 (d := d + 2) (H := H) hE hM h6 e2 (by rw [List.length_map]; exact e3) hav2 (by omega) hf.hi (by simp only [List.length_cons]; omega)
  have hob : (ii.obj.toNat : Int) = ii.obj := by omega
  rw [hob] at hen
  have jq6 := join_of k6
  have jq16 := join_of k16
  have k7 : A7[A3.length]? = some (some ((iD ii).map AV.d)) := by
    rcases hs7 A3.length (lt_of_get k6) with e | e | e
    · omega
    · have := (h.lt (j := A3.length) e).2; omega
    · rw [e]; exact k6
  have jq7 := join_of k7
  refine ⟨A7, ?_, hres⟩
  clear hres hs7 hsame
  generalize row (R, f) = RW at *
  generalize bD (getB' (getP E.m f.n) f.b) = BD at *
  generalize pD (getP E.m f.n) = PD at *
  generalize iD ii = ID at *
  unfold lp
  simp -implicitDefEqProofs [jr, c5, hln, abin_sub, w1, t6, jb, t7, s1, jr1, c2, jq1, r0, x1, y1, jrz, jqz, s2, jq2, pp5, jq12, r3, x2, y2, s3, jq3, bb0, hlb, jq13, r4, abin_eql, hne, x3, y3, s4, jr4, jq14, abin_add, w2, s5, jq5, i0, hop, hr, bnd_eq, jq6, i5, jq16, r2, hen, jq7]
theorem step22 (hE : RfOk E) (hM : MdOk E.m) (hI : InOk E.inputs) (h : RefAt E A ((R, f) :: S) s o tv 0 0 false) (hf : FrOk E.m f) (hg : ∀ y ∈ S, WtOk E.m y.2) (hS : S.length < 5000) (hin : s.ins < 1000000) (hol : s.out.length < 1000000) : ∃ A', evCall Try.prog C (d + 6) 1 22 [.ptr 0 E.ri 0] (A :: H) = some (.tup [], A' :: H) ∧ RefR E A' (stepR E.m E.inputs f (S.map (·.2)) s) := by
  by_cases he : f.i = (getB' (getP E.m f.n) f.b).ins.length
  · exact step22_end hE hM hI h hf hg hS hin hol he
  · have hlt : f.i < (getB' (getP E.m f.n) f.b).ins.length := by have := hf.i; omega
    have hops := ins_ops (hM.ins hf.n hf.b hlt)
    have hc : (getI (getB' (getP E.m f.n) f.b) f.i).op = 1 ∨ (getI (getB' (getP E.m f.n) f.b) f.i).op = 2 ∨ (getI (getB' (getP E.m f.n) f.b) f.i).op = 3 ∨ (getI (getB' (getP E.m f.n) f.b) f.i).op = 4 ∨ (getI (getB' (getP E.m f.n) f.b) f.i).op = 5 ∨ (getI (getB' (getP E.m f.n) f.b) f.i).op = 6 ∨ (getI (getB' (getP E.m f.n) f.b) f.i).op = 7 ∨ (getI (getB' (getP E.m f.n) f.b) f.i).op = 8 ∨ (getI (getB' (getP E.m f.n) f.b) f.i).op = 9 ∨ (getI (getB' (getP E.m f.n) f.b) f.i).op = 10 ∨ (getI (getB' (getP E.m f.n) f.b) f.i).op = 11 ∨ (getI (getB' (getP E.m f.n) f.b) f.i).op = 12 := by omega
    rcases hc with c | c | c | c | c | c | c | c | c | c | c | c
    · exact step22_1 hE hM hI h hf hg hS hin hol he c
    · exact step22_2 hE hM hI h hf hg hS hin hol he c
    · exact step22_3 hE hM hI h hf hg hS hin hol he c
    · exact step22_4 hE hM hI h hf hg hS hin hol he c
    · exact step22_5 hE hM hI h hf hg hS hin hol he c
    · exact step22_6 hE hM hI h hf hg hS hin hol he c
    · exact step22_7 hE hM hI h hf hg hS hin hol he c
    · exact step22_8 hE hM hI h hf hg hS hin hol he c
    · exact step22_9 hE hM hI h hf hg hS hin hol he c
    · exact step22_10 hE hM hI h hf hg hS hin hol he c
    · exact step22_11 hE hM hI h hf hg hS hin hol he c
    · exact step22_12 hE hM hI h hf hg hS hin hol he c
end
end Go.Ev.Try

/- The document's run: its steps, one after another. -/
set_option maxRecDepth 100000
namespace Go.Ev.Try
open Go Go.Ev Go.Proofs
/-- What stands is right, after so many steps. -/
def goOk (m : Mdl) (k : Nat) : StepR → Prop
  | .go S s => (∃ f S', S = f :: S' ∧ FrOk m f ∧ (∀ g ∈ S', WtOk m g) ∧ S'.length < 5000) ∧ s.ins ≤ k ∧ s.out.length ≤ k
  | .stop _ s => s.ins ≤ k ∧ s.out.length ≤ k
  | .fin _ s => s.ins ≤ k ∧ s.out.length ≤ k
section
variable {m : Mdl}
theorem ret_ok {k : Nat} {v : Int} (hv : W v) {S : List Fr} {s : Ms} (hg : ∀ g ∈ S, WtOk m g) (hS : S.length ≤ 5000) (h1 : s.ins ≤ k) (h2 : s.out.length ≤ k) : goOk m k (retR m v S s) := by
  cases S with
  | nil => exact ⟨h1, h2⟩
  | cons g S' =>
    have hw := hg g (by simp)
    refine ⟨⟨_, S', rfl, ⟨hw.n, ?_, hw.b, hw.i, hw.lo, hw.hi⟩, fun x hx => hg x (by simp [hx]), by simp only [List.length_cons] at hS; omega⟩, h1, h2⟩
    simp only
    split
    · exact hw.regs
    · exact hw.regs.wr _ hv
theorem ent_ok (hM : MdOk m) {k n : Nat} (hn : n < m.procs.length) {args : List Int} (ha : (args.length : Int) = (getP m n).params) (hw : ∀ x ∈ args, W x) {top : Int} (ht : top ≤ 65536) {S : List Fr} {s : Ms} (hg : ∀ g ∈ S, WtOk m g) (h1 : s.ins ≤ k) (h2 : s.out.length ≤ k) : goOk m k (entR m n args top S s) := by
  unfold entR
  split
  · exact ⟨h1, h2⟩
  · rename_i hc
    exact ⟨⟨_, S, rfl, newFr_ok hM hn ha hw ht (by omega), hg, by omega⟩, h1, h2⟩
theorem step_ok (hM : MdOk m) {inputs : List Int} (hI : InOk inputs) {k : Nat} {f : Fr} {S : List Fr} {s : Ms} (hf : FrOk m f) (hg : ∀ g ∈ S, WtOk m g) (hS : S.length < 5000) (hs : MsOk s) (h1 : s.ins ≤ k) (h2 : s.out.length ≤ k) : goOk m (k + 1) (stepR m inputs f S s) := by
  unfold stepR
  have hend := end_of (hM.blk hf.n hf.b).2
  by_cases he : f.i = (getB' (getP m f.n) f.b).ins.length
  · rw [if_pos he]
    split
    · refine ret_ok ?_ hg (by omega) (by omega) (by omega)
      unfold retV
      split
      · exact ⟨by decide, by decide⟩
      · exact rg_w hf.regs.w _
    · rename_i h3
      refine ⟨⟨_, S, rfl, ⟨hf.n, hf.regs, ?_, by simp, hf.lo, hf.hi⟩, hg, hS⟩, by omega, by omega⟩
      simp only
      unfold nextB
      rcases hend with ⟨e1, t0, _⟩ | ⟨e1, t0, _, l0, _⟩ | ⟨e1, _⟩
      · split <;> omega
      · split <;> omega
      · omega
  · rw [if_neg he]
    have hlt : f.i < (getB' (getP m f.n) f.b).ins.length := by have := hf.i; omega
    have hio := hM.ins hf.n hf.b hlt
    by_cases h9 : (getI (getB' (getP m f.n) f.b) f.i).op = 9
    · rw [if_pos h9]
      obtain ⟨e1, e2, e3, e4, e5⟩ := call_ok (ins_call hio h9)
      refine ent_ok hM e2 (by rw [List.length_map]; exact e3) (fun x hx => ?_) hf.hi (fun g hx => ?_) (by omega) (by omega)
      · obtain ⟨y, _, rfl⟩ := List.mem_map.1 hx
        exact rg_w hf.regs.w _
      · rcases List.mem_cons.1 hx with rfl | hx
        · refine ⟨⟨hf.n, hf.regs, hf.b, hlt, hf.lo, hf.hi⟩, by simp, ?_⟩
          have hcd : callD m ⟨f.n, f.regs, f.low, f.b, f.i + 1⟩ = (getI (getB' (getP m f.n) f.b) f.i).d := rfl
          rw [hcd]
          have := hf.regs.len
          rcases e4 with e | ⟨e, e'⟩
          · exact .inl e
          · exact .inr ⟨e, by simp only; omega⟩
        · exact hg g hx
    · rw [if_neg h9]
      cases hx : insP m inputs (getP m f.n) f.low (getI (getB' (getP m f.n) f.b) f.i) f.regs s with
      | none => exact ⟨by omega, by omega⟩
      | some x =>
        obtain ⟨r', s'⟩ := x
        have hio2 : (getI (getB' (getP m f.n) f.b) f.i).op = 5 ∨ (getI (getB' (getP m f.n) f.b) f.i).op = 6 → (getI (getB' (getP m f.n) f.b) f.i).size = 1 ∨ (getI (getB' (getP m f.n) f.b) f.i).size = 4 := size_of (ins_regs hio h9).2.2.2
        obtain ⟨hro, _, h5, h6⟩ := insP_ok hI hf.regs hs (hM.numW hf.n hf.b hlt) hio2 hx
        exact ⟨⟨_, S, rfl, ⟨hf.n, hro, hf.b, hlt, hf.lo, hf.hi⟩, hg, hS⟩, by simp only; omega, by simp only; omega⟩
end
section
variable {d : Nat} {H : Heap}
theorem RefR.done {E : Rf} {A : Arena} {r : StepR} (h : RefR E A r) (F : Nat) (hn : ∀ S s, r ≠ .go S s) : ∃ S s o tv x e, RefAt E A S s o tv x e true ∧ play E.m E.inputs F r = outc s x e := by
  cases r with
  | stop e s => obtain ⟨S, o, tv, h⟩ := h; exact ⟨S, s, o, tv, 0, e, h, by cases F <;> rfl⟩
  | fin v s => obtain ⟨S, o, tv, h⟩ := h; exact ⟨S, s, o, tv, v % 256, 0, h, by cases F <;> rfl⟩
  | go S s => exact absurd rfl (hn S s)
theorem set_self {A : Arena} {i : Nat} {c : List AV} (h : A[i]? = some (some c)) : A.set i (some c) = A := by
  apply List.ext_getElem?
  intro j
  rw [List.getElem?_set]
  split
  · rename_i h2
    subst h2
    first
      | exact h.symm
      | (rw [if_pos (lt_of_get h)]; exact h.symm)
  · rfl
/-- The loop of steps. -/
theorem play11 {E : Rf} (hE : RfOk E) (hri : E.ri = 2) (hzi : E.zi = 1) (hM : MdOk E.m) (hI : InOk E.inputs) {A : Arena} {r : StepR} {fuel : Int} (hf0 : -9223372036854775808 ≤ fuel) (hf : fuel ≤ 3000) (h : RefR E A r) (hg : goOk E.m 0 r) {D : Nat} (hD : 6 ≤ D) :
    Gives (iterN LB (s11.l2 (evCall Try.prog C D 1) 1) [vi fuel, .ptr 0 1 0, .ptr 0 2 0] (A :: H)) (fun R => ∃ A' S s o tv x e dn, RefAt E A' S s o tv x e dn ∧ play E.m E.inputs fuel.toNat r = outc s x e ∧
      (R = (.exit 4, [.ptr 0 1 0, .ptr 0 2 0], A' :: H) ∨ R = (.ret, [.ptr 0 1 0], A'.set 1 (some [o, vi s.ins, vw x, vi e]) :: H))) := by
  obtain ⟨D, rfl⟩ : ∃ D', D = D' + 6 := ⟨D - 6, by omega⟩
  refine iter_gives (Inv := fun k st H' => ∃ A' r', st = [vi (fuel - k), .ptr 0 1 0, .ptr 0 2 0] ∧ H' = A' :: H ∧ RefR E A' r' ∧ goOk E.m k r' ∧ k ≤ fuel.toNat ∧ play E.m E.inputs fuel.toNat r = play E.m E.inputs (fuel.toNat - k) r') fuel.toNat (big_lt (by omega)) (fun k hk st H' hi => ?_) ⟨A, r, by simp, rfl, h, hg, by omega, rfl⟩
  obtain ⟨A1, r1, rfl, rfl, h1, hg1, hk1, hp⟩ := hi
  cases r1 with
  | stop e s =>
    right
    obtain ⟨S, s', o, tv, x, e', hr, hpl⟩ := RefR.done h1 (fuel.toNat - k) (fun S s e => by cases e)
    have j := join_of hr.run
    rw [hri] at j
    have c12 : (E.cells s' o tv x e' true)[12]? = some (vb true) := rfl
    refine ⟨(.exit 4, [.ptr 0 1 0, .ptr 0 2 0], A1 :: H), ?_, by simp, A1, S, s', o, tv, x, e', true, hr, by rw [hp]; exact hpl, .inl rfl⟩
    unfold s11.l2
    simp -implicitDefEqProofs [j, c12]
  | fin v s =>
    right
    obtain ⟨S, s', o, tv, x, e', hr, hpl⟩ := RefR.done h1 (fuel.toNat - k) (fun S s e => by cases e)
    have j := join_of hr.run
    rw [hri] at j
    have c12 : (E.cells s' o tv x e' true)[12]? = some (vb true) := rfl
    refine ⟨(.exit 4, [.ptr 0 1 0, .ptr 0 2 0], A1 :: H), ?_, by simp, A1, S, s', o, tv, x, e', true, hr, by rw [hp]; exact hpl, .inl rfl⟩
    unfold s11.l2
    simp -implicitDefEqProofs [j, c12]
  | go S' s =>
    obtain ⟨S, o, tv, hS, hr⟩ := h1
    obtain ⟨⟨f, S2, hS2, hfo, hwt, h5⟩, hin, hol⟩ := hg1
    have j := join_of hr.run
    rw [hri] at j
    have c12 : (E.cells s o tv 0 0 false)[12]? = some (vb false) := rfl
    by_cases hz : fuel - k ≤ 0
    · right
      have hF : fuel.toNat - k = 0 := by omega
      have hr2 := hr.cellsAt hE s.ins 0 16 false
      rw [hri] at hr2
      have hst := stA_leaf (lim := 1) (A := A1) (H := H) (i := 2) (o := 11) (v := vi 16) (c := E.cells s o tv 0 0 false) (by decide) rfl j (by simp [Rf.cells])
      have hce : (E.cells s o tv 0 0 false).set 11 (vi 16) = E.cells s o tv 0 16 false := rfl
      rw [hce] at hst
      have c8 : cut (E.cells s o tv 0 16 false) 8 4 = some [o, vi s.ins, vw 0, vi 16] := rfl
      have hr2' : RefAt E (A1.set 2 (some (E.cells s o tv 0 16 false))) S s o tv 0 16 false := hr2
      have j2 := join_of hr2'.run
      rw [hri] at j2
      have jz := join_of hr2'.fix
      rw [hzi] at jz
      generalize A1.set 2 (some (E.cells s o tv 0 16 false)) = A2 at *
      have hst2 := stA_at (n := 4) (lim := 1) (A := A2) (H := H) (i := 1) (cs := [o, vi s.ins, vw 0, vi 16]) outZ (by decide) (by simp [hr.out.leaf, leaf_d]) rfl rfl jz
      refine ⟨(.ret, [.ptr 0 1 0], A2.set 1 (some [o, vi s.ins, vw 0, vi 16]) :: H), ?_, by simp, A2, S, s, o, tv, 0, 16, false, hr2', by rw [hp, hF]; rfl, .inr rfl⟩
      generalize fuel - (k : Int) = w at *
      unfold s11.l2
      simp -implicitDefEqProofs [j, c12, abin_leq, hz, hst, j2, c8, hst2]
    · left
      subst hS2
      cases S with
      | nil => simp at hS
      | cons y S =>
        obtain ⟨R, f'⟩ := y
        simp only [List.map_cons, List.cons.injEq] at hS
        obtain ⟨rfl, rfl⟩ := hS
        obtain ⟨A2, hst, hr2⟩ := step22 (d := D) (H := H) hE hM hI hr hfo (fun y hy => hwt _ (List.mem_map_of_mem hy)) (by simpa using h5) (by omega) (by omega)
        rw [hri] at hst
        have w := wrap_ok (fuel - k - 1) (by omega) (by omega)
        have he : fuel - (k : Int) - 1 = fuel - (k + 1 : Nat) := by omega
        refine ⟨[vi (fuel - (k + 1 : Nat)), .ptr 0 1 0, .ptr 0 2 0], A2 :: H, by omega, ?_, A2, _, rfl, rfl, hr2, step_ok hM hI hfo hwt h5 hr.ok hin hol, by omega, ?_⟩
        · rw [he] at w
          generalize fuel - ((k + 1 : Nat) : Int) = w2 at *
          generalize fuel - (k : Int) = w1 at *
          unfold s11.l2
          simp -implicitDefEqProofs [j, c12, abin_leq, hz, abin_sub, he, w, hst]
        · rw [hp, show fuel.toNat - k = (fuel.toNat - (k + 1)) + 1 by omega]
          rfl
end
end Go.Ev.Try

/- The document's run of a module, whole; the law IrrunRuns. -/
set_option maxRecDepth 100000
namespace Go.Ev.Try
open Go Go.Ev Go.Proofs
def putK (M : List Int) (x : Nat) (bs : List Int) (k : Nat) : List Int := M.take x ++ bs.take k ++ M.drop (x + k)
theorem putK_all (M : List Int) (x : Nat) (bs : List Int) : putK M x bs bs.length = putAt M x bs := by simp [putK, putAt]
theorem putK_zero (M : List Int) (x : Nat) (bs : List Int) : putK M x bs 0 = M := by simp [putK]
theorem putK_set {M : List Int} {x : Nat} {bs : List Int} {k : Nat} {b : Int} (hb : bs[k]? = some b) (hl : x + bs.length ≤ M.length) : (putK M x bs k).set (x + k) b = putK M x bs (k + 1) := by
  have hk := (List.getElem?_eq_some_iff.1 hb).1
  have h1 : (M.take x ++ bs.take k).length = x + k := by simp; omega
  unfold putK
  rw [List.set_append_right _ _ (by omega), h1, Nat.sub_self, List.take_add_one, hb]
  have h2 : M.drop (x + k) = M[x + k] :: M.drop (x + k + 1) := List.drop_eq_getElem_cons (by omega)
  rw [h2, List.set_cons_zero]
  simp [Nat.add_assoc]
def rc0 (m : Mdl) (inl : Bool) (inputs : List Int) (mem : AV) (en : Int) : List AV :=
  [.d (seqD m.gnl m.globs sD), .d (seqD m.dnl m.datas yD), .d (seqD m.pnl m.procs pD), vi m.main, mem, .d (.seq true 0 []), vi en, .d (seqD inl inputs wD), .d (.seq true 0 []), vi 0, vw 0, vi 0, vb false]
section
variable {d lim : Nat} {H : Heap} {m : Mdl}
theorem data11 (hM : MdOk m) (he : endG m ≤ 65536) {inl : Bool} {inputs : List Int} {k : Nat} (hk : k < m.globs.length) (X0 X2 : AV) (call : ACall) :
    iterN LB (s11.l0 call 1) [X0, .ptr 0 0 0, X2, plV m.globs, .ptr 0 2 0, vi k, vi 0] ([some ((mD m).map .d), some outZ, some (rc0 m inl inputs (.sl 0 3 0 65536 1) (endG m)), some ((memG m k).map vy)] :: H) =
      some (.exit 2, [X0, .ptr 0 0 0, X2, plV m.globs, .ptr 0 2 0, vi k], [some ((mD m).map .d), some outZ, some (rc0 m inl inputs (.sl 0 3 0 65536 1) (endG m)), some ((memG m (k + 1)).map vy)] :: H) := by
  obtain ⟨q, hq1, hq2⟩ := plV_read hk
  have hp := plAt_ok hM.smallG.2 k
  have hfit := datK_fit hM hk
  have h20 := hM.few.globs
  obtain ⟨x, hx⟩ : ∃ x : Nat, 4096 + plAt m.globs k = x := ⟨(4096 + plAt m.globs k).toNat, by omega⟩
  obtain ⟨y, hy⟩ : ∃ y, m.datas[k]? = some y := ⟨_, List.getElem?_eq_getElem (by rw [hM.dlen]; exact hk)⟩
  have hyk : datK m k = y.2 := by unfold datK; rw [hy]; rfl
  rw [hx, hyk] at hfit
  have hml := memG_len hM he k (by omega)
  have hnext : memG m (k + 1) = putK (memG m k) x y.2 y.2.length := by
    rw [putK_all, ← hyk]
    show putAt (memG m k) (4096 + plAt m.globs k).toNat (datK m k) = _
    rw [hx, Int.toNat_natCast]
  rw [hnext]
  obtain ⟨q2, hr1, hr2⟩ := seq_one (nl := m.dnl) (f := fun z : Bool × List Int => seqD z.1 z.2 byD) hy
  have hr1' : ixS 1 (.d (seqD m.dnl m.datas yD)) (vi k) = some q2 := hr1
  have hlen := seq_len y.1 y.2 byD
  have g1 : (mD m)[1]? = some (seqD m.dnl m.datas yD) := rfl
  have g4 : (rc0 m inl inputs (.sl 0 3 0 65536 1) (endG m))[4]? = some (.sl 0 3 0 65536 1) := rfl
  generalize memG m k = M at *
  refine gives_eq (iter_gives (Inv := fun j st H' => st = [X0, .ptr 0 0 0, X2, plV m.globs, .ptr 0 2 0, vi k, vi j] ∧ H' = [some ((mD m).map .d), some outZ, some (rc0 m inl inputs (.sl 0 3 0 65536 1) (endG m)), some ((putK M x y.2 j).map vy)] :: H) y.2.length (big_lt (by omega)) (fun j hj st H' hi => ?_) ⟨rfl, by rw [putK_zero]⟩)
  obtain ⟨rfl, rfl⟩ := hi
  rcases Nat.lt_or_ge j y.2.length with hlt | hge
  · left
    obtain ⟨b, hb⟩ : ∃ b, y.2[j]? = some b := ⟨_, List.getElem?_eq_getElem hlt⟩
    obtain ⟨q3, hs1, hs2⟩ := seq_one (nl := y.1) (f := fun n => D.int .u8 n) hb
    have hs1' : ixS 1 (.d (seqD y.1 y.2 byD)) (vi j) = some q3 := hs1
    have hi : (j : Int) < y.2.length := by omega
    have w1 := wrap_ok (x : Int) (by omega) (by omega)
    have w2 := wrap_ok ((x : Int) + j) (by omega) (by omega)
    have w3 := wrap_ok ((j : Int) + 1) (by omega) (by omega)
    have hix : ixS 1 (.sl 0 3 0 65536 1) (vi ((x : Int) + j)) = some (.ptr 0 3 (x + j)) := by
      rw [show ((x : Int) + j) = ((x + j : Nat) : Int) by omega, ixS_sl, inB_nat (by omega)]
      simp
    have hset := putK_set hb (by omega : x + y.2.length ≤ M.length)
    have hst := stA_leaf (lim := 1) (A := [some ((mD m).map .d), some outZ, some (rc0 m inl inputs (.sl 0 3 0 65536 1) (endG m)), some ((putK M x y.2 j).map vy)]) (H := H) (i := 3) (o := x + j) (v := vy b) (c := (putK M x y.2 j).map vy) (by decide) rfl rfl (by
      simp only [putK, List.length_map, List.length_append, List.length_take, List.length_drop]
      omega)
    rw [← List.map_set, hset] at hst
    simp only [List.set_cons_succ, List.set_cons_zero] at hst
    refine ⟨_, _, hlt, ?_, rfl, rfl⟩
    generalize rc0 m inl inputs (.sl 0 3 0 65536 1) (endG m) = C1 at *
    generalize (putK M x y.2 j).map vy = M1 at *
    generalize (putK M x y.2 (j + 1)).map vy = M2 at *
    generalize mD m = MD at *
    generalize outZ = OZ at *
    unfold s11.l0
    simp -implicitDefEqProofs [g1, hr1', hr2, hlen, abin_lss, hi, g4, hq1, hq2, abin_add, hx, w1, w2, hs1', hs2, hix, hst, w3]
  · right
    obtain rfl : j = y.2.length := by omega
    refine ⟨_, ?_, ?_, rfl⟩
    · generalize rc0 m inl inputs (.sl 0 3 0 65536 1) (endG m) = C1 at *
      generalize mD m = MD at *
      generalize outZ = OZ at *
      unfold s11.l0
      simp -implicitDefEqProofs [g1, hr1', hr2, hlen, abin_lss]
    · simp
theorem lay11 (hM : MdOk m) (he : endG m ≤ 65536) {inl : Bool} {inputs : List Int} (X0 X2 : AV) (call : ACall) :
    iterN LB (s11.l1 call 1) [X0, .ptr 0 0 0, X2, plV m.globs, .ptr 0 2 0, vi 0] ([some ((mD m).map .d), some outZ, some (rc0 m inl inputs (.sl 0 3 0 65536 1) (endG m)), some ((memG m 0).map vy)] :: H) =
      some (.exit 0, [X0, .ptr 0 0 0, X2, .ptr 0 2 0], [some ((mD m).map .d), some outZ, some (rc0 m inl inputs (.sl 0 3 0 65536 1) (endG m)), some ((memG m m.globs.length).map vy)] :: H) := by
  have h20 := hM.few.globs
  have hln := plV_len m.globs
  refine gives_eq (iter_gives (Inv := fun k st H' => st = [X0, .ptr 0 0 0, X2, plV m.globs, .ptr 0 2 0, vi k] ∧ H' = [some ((mD m).map .d), some outZ, some (rc0 m inl inputs (.sl 0 3 0 65536 1) (endG m)), some ((memG m k).map vy)] :: H) m.globs.length (big_lt (by omega)) (fun k hk st H' hi => ?_) ⟨rfl, rfl⟩)
  obtain ⟨rfl, rfl⟩ := hi
  rcases Nat.lt_or_ge k m.globs.length with hlt | hge
  · left
    have hd := data11 (H := H) hM he (inl := inl) (inputs := inputs) hlt X0 X2 call
    have hi : (k : Int) < m.globs.length := by omega
    have w3 := wrap_ok ((k : Int) + 1) (by omega) (by omega)
    refine ⟨_, _, hlt, ?_, rfl, rfl⟩
    generalize rc0 m inl inputs (.sl 0 3 0 65536 1) (endG m) = C1 at *
    generalize mD m = MD at *
    generalize outZ = OZ at *
    generalize memG m k = M1 at *
    generalize memG m (k + 1) = M2 at *
    unfold s11.l1 lp
    simp -implicitDefEqProofs [hln, abin_lss, hi, hd, bnd_eq, abin_add, w3]
  · right
    obtain rfl : k = m.globs.length := by omega
    refine ⟨_, ?_, ?_, rfl⟩
    · generalize memG m m.globs.length = M1 at *
      unfold s11.l1
      simp -implicitDefEqProofs [hln, abin_lss]
    · simp
theorem play11w (hF : FewM m) (hm : modE m = 0 → MdOk m) {inl : Bool} {inputs : List Int} (hI : InOk inputs) {fuel : Int} (hf0 : -9223372036854775808 ≤ fuel) (hf : fuel ≤ 3000) {D : Nat} (hD : 20 ≤ D) :
    ∃ x, evCall Try.prog C D lim 11 [.agg ((mD m).map .d), .d (seqD inl inputs wD), vi fuel] H = some (.agg ((oD x (runO m inputs fuel)).map .d), H) := by
  obtain ⟨D, rfl⟩ : ∃ D', D = D' + 9 := ⟨D - 9, by omega⟩
  rw [evCall_pureEq (fi := fi11) rfl rfl (b11 _ _ _ _ _ _), up_data]
  unfold s11
  have hb := bx_data (r := mD m) (A := []) (H := H)
  have hcut := cut_data (r := mD m) (n := 4) rfl
  have hck := fun H => check20 (d := D + 4) (lim := 1) (H := H) hF
  have m0 : (mD m)[0]? = some (seqD m.gnl m.globs sD) := rfl
  have m3 : (mD m)[3]? = some (.int .i64 m.main) := rfl
  have hz : outZ = [.d (.seq true 0 []), .d (.int .i64 0), .d (.int .u32 0), .d (.int .i64 0)] := rfl
  have hc4 : ∀ e : AV, cut [.d (.seq true 0 []), vi 0, vw 0, e] 0 4 = some [.d (.seq true 0 []), vi 0, vw 0, e] := fun e => rfl
  by_cases he : modE m = 0
  rotate_left
  · have ho : runO m inputs fuel = ⟨[], 0, 0, modE m⟩ := by unfold runO; rw [if_pos he]
    have hod : (oD true ⟨[], 0, 0, modE m⟩).map AV.d = [.d (.seq true 0 []), vi 0, vw 0, vi (modE m)] := rfl
    rw [ho]
    refine ⟨true, ?_⟩
    rw [hod]
    have hbl : bld [(0, 1), (1, 1), (2, 1), (3, 1)] [.d (.seq true 0 []), .d (.int .i64 0), .d (.int .u32 0), .d (.int .i64 0)] [(3, vi (modE m))] = some (.agg [.d (.seq true 0 []), vi 0, vw 0, vi (modE m)]) := rfl
    have hst2 := fun X => stA_at (n := 4) (lim := 1) (A := [X, some outZ]) (H := H) (i := 1) (cs := [.d (.seq true 0 []), vi 0, vw 0, vi (modE m)]) outZ (by decide) rfl rfl rfl rfl
    simp only [List.set_cons_succ, List.set_cons_zero] at hst2
    rw [hz] at hst2
    generalize mD m = MD at *
    simp -implicitDefEqProofs [hb, hcut, hck, abin_neq, he, hbl, hst2, rs, rsL, one, hc4, leave_agg, AV.leaveL]
  · have hM := hm he
    have heg := endG_ok hM
    have w1 := wrap_ok (endG m) (by omega) (by omega)
    have hpl : ∀ H, evCall Try.prog C (D + 8) 1 15 [.d (seqD m.gnl m.globs sD)] H = some (.tup [plV m.globs, vi (plAt m.globs m.globs.length)], H) := fun H => place15 (d := D + 6) hM.smallG
    have hadd : 4096 + plAt m.globs m.globs.length = endG m := rfl
    have hbl : bld [(0, 4), (4, 1), (5, 1), (6, 1), (7, 1), (8, 4), (12, 1)] [.d (.seq true 0 []), .d (.seq true 0 []), .d (.seq true 0 []), .d (.int .i64 0), .d (.seq true 0 []), .d (.seq true 0 []), .d (.int .i64 0), .d (.seq true 0 []), .d (.seq true 0 []), .d (.int .i64 0), .d (.int .u32 0), .d (.int .i64 0), .d (.bool false)]
        [(0, .agg ((mD m).map .d)), (3, vi (endG m)), (4, .d (seqD inl inputs wD))] = some (.agg (rc0 m inl inputs (.d (.seq true 0 [])) (endG m))) := rfl
    have hbx := bx_agg (cs := rc0 m inl inputs (.d (.seq true 0 [])) (endG m)) (A := [some ((mD m).map AV.d), some outZ]) (H := H) rfl
    have g6 : (rc0 m inl inputs (.d (.seq true 0 [])) (endG m))[6]? = some (vi (endG m)) := rfl
    by_cases hfull : 65536 < endG m
    · have ho : runO m inputs fuel = ⟨[], 0, 0, 8⟩ := by unfold runO; rw [if_neg (by simp [he]), if_pos hfull]
      have hod : (oD true ⟨[], 0, 0, 8⟩).map AV.d = [.d (.seq true 0 []), vi 0, vw 0, vi 8] := rfl
      rw [ho]
      refine ⟨true, ?_⟩
      rw [hod]
      have hbl2 : bld [(0, 1), (1, 1), (2, 1), (3, 1)] [.d (.seq true 0 []), .d (.int .i64 0), .d (.int .u32 0), .d (.int .i64 0)] [(3, vi 8)] = some (.agg [.d (.seq true 0 []), vi 0, vw 0, vi 8]) := rfl
      have hst2 := fun X Y => stA_at (n := 4) (lim := 1) (A := [X, some outZ, Y]) (H := H) (i := 1) (cs := [.d (.seq true 0 []), vi 0, vw 0, vi 8]) outZ (by decide) rfl rfl rfl rfl
      simp only [List.set_cons_succ, List.set_cons_zero] at hst2
      generalize rc0 m inl inputs (.d (.seq true 0 [])) (endG m) = C1 at *
      generalize mD m = MD at *
      rw [hz] at hst2 hbx
      simp -implicitDefEqProofs [hb, hcut, hck, abin_neq, he, m0, hpl, abin_add, hadd, w1, hbl, hbx, g6, abin_gtr, hfull, hbl2, hst2, rs, rsL, one, hc4, leave_agg, AV.leaveL]
    · have hle : endG m ≤ 65536 := by omega
      have ho := runO_ok (inputs := inputs) (fuel := fuel) he hle
      rw [ho]
      have hmk : mkS 1 1 [.d (.int .u8 0)] ([some ((mD m).map AV.d), some outZ, some (rc0 m inl inputs (.d (.seq true 0 [])) (endG m))] :: H) (vi 65536) (vi 65536) =
          some (.sl 0 3 0 65536 1, [some ((mD m).map AV.d), some outZ, some (rc0 m inl inputs (.d (.seq true 0 [])) (endG m)), some ((memG m 0).map vy)] :: H) := by
        rw [mkS_one (by decide) (by decide) (by decide)]
        unfold memG
        rw [List.map_replicate]
        rfl
      have hst4 := stA_leaf (lim := 1) (A := [some ((mD m).map AV.d), some outZ, some (rc0 m inl inputs (.d (.seq true 0 [])) (endG m)), some ((memG m 0).map vy)]) (H := H) (i := 2) (o := 4) (v := .sl 0 3 0 65536 1) (c := rc0 m inl inputs (.d (.seq true 0 [])) (endG m)) (by decide) rfl rfl (by simp [rc0])
      have hce4 : (rc0 m inl inputs (.d (.seq true 0 [])) (endG m)).set 4 (.sl 0 3 0 65536 1) = rc0 m inl inputs (.sl 0 3 0 65536 1) (endG m) := rfl
      rw [hce4] at hst4
      simp only [List.set_cons_succ, List.set_cons_zero] at hst4
      have hlay := lay11 (H := H) hM hle (inl := inl) (inputs := inputs) (vi fuel) (.ptr 0 1 0) (evCall Try.prog C (D + 8) 1)
      have hE : RfOk ⟨m, inputs, inl, 2, 3, 1, 4⟩ := ⟨by show (2 : Nat) ≠ 3; decide, by show (2 : Nat) ≠ 1; decide, by show (3 : Nat) ≠ 1; decide, by show 1 < 4; decide, by show 2 < 4; decide, by show 3 < 4; decide⟩
      have hrun : RefAt ⟨m, inputs, inl, 2, 3, 1, 4⟩ [some ((mD m).map AV.d), some outZ, some (rc0 m inl inputs (.sl 0 3 0 65536 1) (endG m)), some ((memG m m.globs.length).map vy)] [] (run0 m) (.d (.seq true 0 [])) (.d (.seq true 0 [])) 0 0 false :=
        ⟨rfl, rfl, .nil 1, ⟨.inl ⟨rfl, rfl⟩⟩, fun y hy => (by cases hy), (by simp [blks, blkOf]), by show 4 ≤ 4; decide, run0_ok hM hle, rfl⟩
      have hmn : m.main.toNat < m.procs.length := by have := hM.main0; have := hM.main1; omega
      have hmm : (m.main.toNat : Int) = m.main := by have := hM.main0; omega
      obtain ⟨A2, hen, hres, _⟩ := enter21 (d := D + 5) (H := H) hE hM hrun hmn (args := []) (by rw [hM.mpar]; rfl) (av := .d (.seq true 0 [])) (.nil 1) (top := 65536) (by decide) (by decide) (by decide)
      rw [hmm] at hen
      have hgo : goOk m 0 (entR m m.main.toNat [] 65536 [] (run0 m)) := ent_ok hM hmn (by rw [hM.mpar]; rfl) (fun x hx => by cases hx) (by decide) (fun g hg => by cases hg) (Nat.le_refl 0) (Nat.le_refl 0)
      obtain ⟨R, hR, A3, S, s, o, tv, x, e, dn, hr3, hpl3, hRR⟩ := play11 (H := H) hE rfl rfl hM hI hf0 hf hres hgo (D := D + 8) (by omega)
      have hpl3' : mainP m inputs fuel.toNat = outc s x e := hpl3
      rw [hpl3']
      have hod : ∀ y, (oD y (outc s x e)).map AV.d = [.d (seqD y s.out wD), vi s.ins, vw x, vi e] := fun y => rfl
      have hout : OutAt 4 (A3.set 1 (some [o, vi s.ins, vw x, vi e])) o (s.out.map vw) s.out.length 1 := hr3.out.move fun j _ hj _ => List.getElem?_set_ne (by have hj' : 4 ≤ j := hj; omega)
      obtain ⟨y, hy⟩ := out_leave hout
      refine ⟨y, ?_⟩
      rw [hod]
      have l1 := lt_of_get hr3.fix
      have jz := join_of hr3.fix
      have jb1 : ((A3.set 1 (some [o, vi s.ins, vw x, vi e]))[1]?).join = some [o, vi s.ins, vw x, vi e] := by rw [List.getElem?_set_self l1]; rfl
      have hc5 : cut [o, vi s.ins, vw x, vi e] 0 4 = some [o, vi s.ins, vw x, vi e] := rfl
      have hst5 := stA_at (n := 4) (lim := 1) (A := A3) (H := H) (i := 1) (cs := [o, vi s.ins, vw x, vi e]) outZ (by decide) (by simp [hr3.out.leaf, leaf_d]) rfl rfl jz
      have jr := join_of hr3.run
      have c8 : cut (Rf.cells ⟨m, inputs, inl, 2, 3, 1, 4⟩ s o tv x e dn) 8 4 = some [o, vi s.ins, vw x, vi e] := rfl
      generalize Rf.cells ⟨m, inputs, inl, 2, 3, 1, 4⟩ s o tv x e dn = CX at *
      generalize rc0 m inl inputs (.sl 0 3 0 65536 1) (endG m) = C2 at *
      generalize rc0 m inl inputs (.d (.seq true 0 [])) (endG m) = C1 at *
      generalize mD m = MD at *
      generalize memG m 0 = M0 at *
      generalize memG m m.globs.length = M1 at *
      generalize hA5 : A3.set 1 (some [o, vi s.ins, vw x, vi e]) = A5 at *
      rw [hz] at hbx hmk hst4 hlay hen
      rcases hRR with rfl | rfl
      · unfold lp
        simp -implicitDefEqProofs [hb, hcut, hck, abin_neq, he, m0, hpl, abin_add, hadd, w1, hbl, hbx, g6, abin_gtr, hfull, hmk, hst4, hlay, bnd_eq, m3, hen, hR, jr, c8, hst5, rs, rsL, one, jb1, hc5, hy, leave_agg, AV.leaveL]
      · unfold lp
        simp -implicitDefEqProofs [hb, hcut, hck, abin_neq, he, m0, hpl, abin_add, hadd, w1, hbl, hbx, g6, abin_gtr, hfull, hmk, hst4, hlay, bnd_eq, m3, hen, hR, rs, rsL, one, jb1, hc5, hy, leave_agg, AV.leaveL]
end
end Go.Ev.Try

/- IrrunRuns: arguments, and the walk. -/
set_option maxRecDepth 100000
namespace Go.Ev.Try
open Go Go.Ev Go.Proofs Go.RowKit
theorem u4 : Try.prog.underlying 4 = some .bool := by kernel_rfl
theorem u5 : Try.prog.underlying 5 = some (.int .u8) := by kernel_rfl
theorem u23 : Try.prog.underlying 23 = some (.slice 58) := by kernel_rfl
theorem u24 : Try.prog.underlying 24 = some (.slice 50) := by kernel_rfl
theorem u27 : Try.prog.underlying 27 = some (.slice 31) := by kernel_rfl
theorem u41 : Try.prog.underlying 41 = some (.slice 3) := by kernel_rfl
theorem u48 : Try.prog.underlying 48 = some (.slice 53) := by kernel_rfl
theorem u51 : Try.prog.underlying 51 = some (.slice 56) := by kernel_rfl
theorem u58 : Try.prog.underlying 58 = some (.slice 5) := by kernel_rfl
theorem f26 : fieldTypes Try.prog 26 = some [22, 23, 24, 3] := by kernel_rfl
theorem f50 : fieldTypes Try.prog 50 = some [9, 4, 3, 3, 22, 48] := by kernel_rfl
theorem f53 : fieldTypes Try.prog 53 = some [51, 3, 3, 3, 3] := by kernel_rfl
theorem f56 : fieldTypes Try.prog 56 = some [3, 3, 3, 3, 3, 3, 3, 3, 31, 41, 4] := by kernel_rfl
theorem dok4 {f : Nat} {ds : List D} (h : DOk Try.prog (f + 1) 4 ds) : ∃ b, ds = [.bool b] := by
  unfold DOk at h
  rw [u4] at h
  exact h
theorem dok5 {f : Nat} {ds : List D} (h : DOk Try.prog (f + 1) 5 ds) : ∃ n, ds = [.int .u8 n] ∧ 0 ≤ n ∧ n < 256 := by
  unfold DOk at h
  rw [u5] at h
  obtain ⟨n, h1, h2⟩ := h
  refine ⟨n, h1, ?_⟩
  simp [Lit.wf, IntKind.min, IntKind.max, IntKind.signed, IntKind.bits] at h2
  exact ⟨h2.1, by omega⟩
theorem list_of {α : Type} {P : List D → Prop} {Q : α → Prop} {g : α → List D} (hq : ∀ r, P r → ∃ a, r = g a ∧ Q a) : ∀ {rows : List (List D)}, (∀ r ∈ rows, P r) → ∃ l : List α, rows = l.map g ∧ ∀ a ∈ l, Q a
  | [], _ => ⟨[], rfl, fun a h => by cases h⟩
  | r :: rows, h => by
    obtain ⟨a, ha, hqa⟩ := hq r (h r (by simp))
    obtain ⟨l, hl, hql⟩ := list_of hq (rows := rows) fun x hx => h x (by simp [hx])
    refine ⟨a :: l, by simp [ha, hl], fun x hx => ?_⟩
    rcases List.mem_cons.1 hx with rfl | hx
    · exact hqa
    · exact hql x hx
theorem dok_slice {α : Type} {Q : α → Prop} {g : α → List D} {t e : TypeId} {f : Nat} {ds : List D} (hu : Try.prog.underlying t = some (.slice e)) (hq : ∀ r, DOk Try.prog f e r → ∃ a, r = g a ∧ Q a) (h : DOk Try.prog (f + 1) t ds) :
    ∃ (nl : Bool) (l : List α), ds = [seqD nl l g] ∧ l.length ≤ 9223372036854775807 ∧ ∀ a ∈ l, Q a := by
  unfold DOk at h
  rw [hu] at h
  rcases h with rfl | ⟨rows, rfl, hl, h⟩
  · exact ⟨true, [], rfl, by simp, fun a h => by cases h⟩
  · obtain ⟨l, rfl, hql⟩ := list_of (g := g) (fun r hr => hq r hr.2) h
    refine ⟨false, l, by simp [seqD, List.flatMap], ?_, hql⟩
    simp only [List.length_map] at hl
    have : maxLen ≤ 9223372036854775807 := by decide
    omega
theorem dok41 {f : Nat} {ds : List D} (h : DOk Try.prog (f + 2) 41 ds) : ∃ (nl : Bool) (l : List Int), ds = [seqD nl l nD] ∧ l.length ≤ 9223372036854775807 ∧ ∀ n ∈ l, True :=
  dok_slice u41 (fun r hr => by obtain ⟨n, rfl, _⟩ := dok3 hr; exact ⟨n, rfl, trivial⟩) h
theorem dok27 {f : Nat} {ds : List D} (h : DOk Try.prog (f + 2) 27 ds) : ∃ (nl : Bool) (l : List Int), ds = [seqD nl l wD] ∧ l.length ≤ 9223372036854775807 ∧ ∀ n ∈ l, W n :=
  dok_slice u27 (fun r hr => by obtain ⟨n, rfl, hn⟩ := dok31 hr; exact ⟨n, rfl, hn⟩) h
theorem dok58 {f : Nat} {ds : List D} (h : DOk Try.prog (f + 2) 58 ds) : ∃ (nl : Bool) (l : List Int), ds = [seqD nl l byD] ∧ l.length ≤ 9223372036854775807 ∧ ∀ n ∈ l, 0 ≤ n ∧ n < 256 :=
  dok_slice u58 (fun r hr => by obtain ⟨n, rfl, hn⟩ := dok5 hr; exact ⟨n, rfl, hn⟩) h
theorem dok56 {f : Nat} {ds : List D} (h : DOk Try.prog (f + 3) 56 ds) : ∃ i : Ins, ds = iD i ∧ i.args.length ≤ 9223372036854775807 ∧ W i.num := by
  obtain ⟨p, q, rfl, h1, p2, q2, rfl, h2, p3, q3, rfl, h3, p4, q4, rfl, h4, p5, q5, rfl, h5, p6, q6, rfl, h6, p7, q7, rfl, h7, p8, q8, rfl, h8, p9, q9, rfl, h9, p10, q10, rfl, h10, p11, q11, rfl, h11, rfl⟩ := dok_struct f56 h
  obtain ⟨a1, rfl, _⟩ := dok3 h1
  obtain ⟨a2, rfl, _⟩ := dok3 h2
  obtain ⟨a3, rfl, _⟩ := dok3 h3
  obtain ⟨a4, rfl, _⟩ := dok3 h4
  obtain ⟨a5, rfl, _⟩ := dok3 h5
  obtain ⟨a6, rfl, _⟩ := dok3 h6
  obtain ⟨a7, rfl, _⟩ := dok3 h7
  obtain ⟨a8, rfl, _⟩ := dok3 h8
  obtain ⟨a9, rfl, hw⟩ := dok31 h9
  obtain ⟨nl, l, rfl, hl, _⟩ := dok41 h10
  obtain ⟨b, rfl⟩ := dok4 h11
  exact ⟨⟨a1, a2, a3, a4, a5, a6, a7, a8, a9, nl, l, b⟩, rfl, hl, hw⟩
theorem dok53 {f : Nat} {ds : List D} (h : DOk Try.prog (f + 5) 53 ds) : ∃ b : Blk, ds = bD b ∧ b.ins.length ≤ 9223372036854775807 ∧ ∀ i ∈ b.ins, i.args.length ≤ 9223372036854775807 ∧ W i.num := by
  obtain ⟨p, q, rfl, h1, p2, q2, rfl, h2, p3, q3, rfl, h3, p4, q4, rfl, h4, p5, q5, rfl, h5, rfl⟩ := dok_struct f53 h
  obtain ⟨nl, l, rfl, hl, hq⟩ := dok_slice (g := iD) (Q := fun i => i.args.length ≤ 9223372036854775807 ∧ W i.num) u51 (fun r hr => dok56 hr) h1
  obtain ⟨a2, rfl, _⟩ := dok3 h2
  obtain ⟨a3, rfl, _⟩ := dok3 h3
  obtain ⟨a4, rfl, _⟩ := dok3 h4
  obtain ⟨a5, rfl, _⟩ := dok3 h5
  exact ⟨⟨nl, l, a2, a3, a4, a5⟩, rfl, hl, hq⟩
/-- What an argument's lists and numbers keep to. -/
def BlkIn (b : Blk) : Prop := b.ins.length ≤ 9223372036854775807 ∧ ∀ i ∈ b.ins, i.args.length ≤ 9223372036854775807 ∧ W i.num
def PrcIn (p : Prc) : Prop := p.blks.length ≤ 9223372036854775807 ∧ p.objs.length ≤ 9223372036854775807 ∧ ∀ b ∈ p.blks, BlkIn b
theorem dok50 {f : Nat} {ds : List D} (h : DOk Try.prog (f + 7) 50 ds) : ∃ p : Prc, ds = pD p ∧ PrcIn p := by
  obtain ⟨p, q, rfl, h1, p2, q2, rfl, h2, p3, q3, rfl, h3, p4, q4, rfl, h4, p5, q5, rfl, h5, p6, q6, rfl, h6, rfl⟩ := dok_struct f50 h
  obtain ⟨s, rfl, _⟩ := dok9 h1
  obtain ⟨b, rfl⟩ := dok4 h2
  obtain ⟨a3, rfl, _⟩ := dok3 h3
  obtain ⟨a4, rfl, _⟩ := dok3 h4
  obtain ⟨onl, ol, rfl, hol, _⟩ := dok_slice (g := sD) (Q := fun _ => True) u22 (fun r hr => by obtain ⟨s, hs⟩ := dok40 hr; exact ⟨s, hs, trivial⟩) h5
  obtain ⟨bnl, bl, rfl, hbl, hb⟩ := dok_slice (g := bD) (Q := BlkIn) u48 (fun r hr => dok53 hr) h6
  exact ⟨⟨s, b, a3, a4, onl, ol, bnl, bl⟩, rfl, hbl, hol, hb⟩
theorem dok26 {f : Nat} {ds : List D} (h : DOk Try.prog (f + 9) 26 ds) : ∃ m : Mdl, ds = mD m ∧ LenOk m ∧ (∀ p ∈ m.procs, ∀ b ∈ p.blks, ∀ i ∈ b.ins, W i.num) ∧ (∀ x ∈ m.datas, ∀ y ∈ x.2, 0 ≤ y ∧ y < 256) := by
  obtain ⟨p, q, rfl, h1, p2, q2, rfl, h2, p3, q3, rfl, h3, p4, q4, rfl, h4, rfl⟩ := dok_struct f26 h
  obtain ⟨gnl, gl, rfl, hgl, _⟩ := dok_slice (g := sD) (Q := fun _ => True) u22 (fun r hr => by obtain ⟨s, hs⟩ := dok40 hr; exact ⟨s, hs, trivial⟩) h1
  obtain ⟨dnl, dl, rfl, hdl, hd⟩ := dok_slice (g := yD) (Q := fun x => ∀ y ∈ x.2, 0 ≤ y ∧ y < 256) u23 (fun r hr => by obtain ⟨nl, l, rfl, _, hl⟩ := dok58 hr; exact ⟨(nl, l), rfl, hl⟩) h2
  obtain ⟨pnl, pl, rfl, hpl, hp⟩ := dok_slice (g := pD) (Q := PrcIn) u24 (fun r hr => dok50 hr) h3
  obtain ⟨mn, rfl, _⟩ := dok3 h4
  exact ⟨⟨gnl, gl, dnl, dl, pnl, pl, mn⟩, rfl, ⟨hpl, hgl, hdl, fun p hp' => ⟨(hp p hp').1, (hp p hp').2.1⟩, fun p hp' b hb => ((hp p hp').2.2 b hb).1, fun p hp' b hb i hi => (((hp p hp').2.2 b hb).2 i hi).1⟩,
    fun p hp' b hb i hi => (((hp p hp').2.2 b hb).2 i hi).2, hd⟩
/-- The state that a step ends with. -/
def stOf : StepR → Ms
  | .stop _ s => s
  | .go _ s => s
  | .fin _ s => s
theorem insP_out {m : Mdl} {inputs : List Int} {p : Prc} {low : Int} {i : Ins} {r r' : List Int} {s s' : Ms} (h : insP m inputs p low i r s = some (r', s')) : s'.out.length ≤ s.out.length + 1 := by
  unfold insP at h
  repeat' split at h
  all_goals first
    | (cases h; simp; done)
    | (cases h; omega)
    | (simp only [Option.map_eq_some_iff] at h; obtain ⟨n, _, h⟩ := h; cases h; simp; done)
    | (simp only [Option.map_eq_some_iff] at h; obtain ⟨n, _, h⟩ := h; cases h; omega)
theorem stepR_out (m : Mdl) (inputs : List Int) (f : Fr) (S : List Fr) (s : Ms) : (stOf (stepR m inputs f S s)).out.length ≤ s.out.length + 1 := by
  unfold stepR
  split
  · split
    · cases S <;> simp [retR, stOf]
    · simp [stOf]
  · split
    · unfold entR
      split <;> simp [stOf]
    · split
      · simp [stOf]
      · rename_i x hx
        exact insP_out hx
theorem play_out (m : Mdl) (inputs : List Int) : ∀ (F : Nat) (r : StepR), (play m inputs F r).out.length ≤ (stOf r).out.length + F
  | F, .stop e s => by cases F <;> simp [play, outc, stOf]
  | F, .fin v s => by cases F <;> simp [play, outc, stOf]
  | 0, .go S s => by simp [play, outc, stOf]
  | F + 1, .go [] s => by simp [play, outc, stOf]
  | F + 1, .go (f :: S) s => by
    have h1 := play_out m inputs F (stepR m inputs f S s)
    have h2 := stepR_out m inputs f S s
    have h3 : play m inputs (F + 1) (.go (f :: S) s) = play m inputs F (stepR m inputs f S s) := rfl
    have h4 : stOf (.go (f :: S) s) = s := rfl
    rw [h3, h4]
    omega
theorem runO_out (m : Mdl) (inputs : List Int) {fuel : Int} (hf : fuel ≤ 3000) : (runO m inputs fuel).out.length ≤ 1000000 := by
  unfold runO
  split
  · simp
  · split
    · simp
    · have h1 := play_out m inputs fuel.toNat (entR m m.main.toNat [] 65536 [] (run0 m))
      have h2 : (stOf (entR m m.main.toNat [] 65536 [] (run0 m))).out.length = 0 := by
        unfold entR
        split <;> rfl
      omega
theorem modE_cases (m : Mdl) : modE m = 0 → modOk m = true := by
  unfold modE
  cases modOk m with
  | true => intro _; rfl
  | false => intro h; cases h
section
variable {H : Heap}
theorem runs_ok {m : Mdl} (hL : LenOk m) (hn : ∀ p ∈ m.procs, ∀ b ∈ p.blks, ∀ i ∈ b.ins, W i.num) (hy : ∀ x ∈ m.datas, ∀ y ∈ x.2, 0 ≤ y ∧ y < 256) {inl : Bool} {inputs : List Int} (hw : ∀ n ∈ inputs, W n) {fuel : Int} (hf : -9223372036854775808 ≤ fuel) {D : Nat} (hD : 10001 ≤ D) :
    evCall Try.prog C D 1 3 [.agg ((mD m).map .d), .d (seqD inl inputs wD), vi fuel] H = some (vb true, H) := by
  obtain ⟨D, rfl⟩ : ∃ D', D = D' + 100 := ⟨D - 100, by omega⟩
  rw [evCall_pureEq (fi := fi3) rfl rfl (b3 _ _ _ _ _ _), up_data]
  unfold s3
  have hb := bx_data (r := mD m) (A := []) (H := H)
  have hcut := cut_data (r := mD m) (n := 4) rfl
  have h7 := fun H => few7 (d := D + 97) (lim := 1) (H := H) hL
  have h8 := fun H => awake_d (d := D) (H := H)
  have hln := seq_len inl inputs wD
  cases hfew : mdlFew m with
  | false =>
    rw [hfew] at h7
    generalize mD m = MD at *
    simp -implicitDefEqProofs [hb, hcut, h7, h8]
  | true =>
    rw [hfew] at h7
    by_cases c1 : (40 : Int) < inputs.length
    · generalize mD m = MD at *
      simp -implicitDefEqProofs [hb, hcut, h7, h8, hln, abin_gtr, c1]
    · by_cases c2 : 3000 < fuel
      · generalize mD m = MD at *
        simp -implicitDefEqProofs [hb, hcut, h7, h8, hln, abin_gtr, c1, c2]
      · have hF := mdlFew_ok hfew
        have hI : InOk inputs := ⟨by omega, hw⟩
        have hM : modE m = 0 → MdOk m := fun e => modOk_md hF hn hy (modE_cases m e)
        have h10 := fun H => run10 (lim := 1) (H := H) hF hM (inl := inl) hI (show fuel ≤ 3000 by omega) (show 10000 ≤ D + 99 by omega)
        have h11 := fun H => play11w (lim := 1) (H := H) hF hM (inl := inl) hI hf (show fuel ≤ 3000 by omega) (show 20 ≤ D + 99 by omega)
        obtain ⟨x, h10⟩ := h10 ([some ((mD m).map AV.d)] :: H)
        obtain ⟨y, h11⟩ := h11 ([some ((mD m).map AV.d)] :: H)
        have h9 := same9 (d := D + 97) (lim := 1) (H := [some ((mD m).map AV.d)] :: H) (x := x) (y := y) (runO_out m inputs (show fuel ≤ 3000 by omega))
        generalize (oD x (runO m inputs fuel)).map AV.d = O1 at *
        generalize (oD y (runO m inputs fuel)).map AV.d = O2 at *
        generalize mD m = MD at *
        simp -implicitDefEqProofs [hb, hcut, h7, h8, hln, abin_gtr, c1, c2, h10, h11, h9]
end
theorem walkIrrunRuns {ds0 : List D} {d1 d2 : D} {W0 : World} {v0 v1 v2 : Value} (h0 : DOk Try.prog 12 26 ds0) (h1 : DOk Try.prog 12 27 [d1]) (h2 : DOk Try.prog 12 3 [d2]) (hv : VRs (IW W0) G0 [.agg (ds0.map .d), .d d1, .d d2] [v0, v1, v2]) :
    Calls Try.prog 3 #[v0, v1, v2] W0 (fun x W' => x = .returned (.bool true) ∧ Below W0.heap.size W0 W') := by
  obtain ⟨m, rfl, hL, hn, hy⟩ := dok26 h0
  obtain ⟨inl, inputs, h1, _, hw⟩ := dok27 h1
  obtain ⟨n, h2, hwf⟩ := dok3 h2
  obtain rfl : d1 = seqD inl inputs wD := by simpa using h1
  obtain rfl : d2 = .int .i64 n := by simpa using h2
  have hn0 : -9223372036854775808 ≤ n := by
    simp [Lit.wf, IntKind.min, IntKind.max, IntKind.signed, IntKind.bits] at hwf
    omega
  exact calls_true fitsC follows (runs_ok hL hn hy hw hn0 (D := 20000) (by decide)) hv
end Go.Ev.Try
