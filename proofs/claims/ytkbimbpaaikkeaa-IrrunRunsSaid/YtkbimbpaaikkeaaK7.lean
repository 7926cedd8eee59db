import Derived.Test.YtkbimbpaaikkeaaK6
set_option linter.unusedSimpArgs false
set_option linter.unusedVariables false
/- The program's calls: what is handed over, and what comes back. -/
set_option maxRecDepth 100000
namespace Go.Ev.Try
open Go Go.Ev Go.Proofs
/-- What a call comes to, with so many steps. -/
def CallOk (E : Rn) (F : Nat) : Prop :=
  ∀ (D : Nat) (A : Arena) (H : Heap) (s : Ms) (o : AV) (S : List Fr) (n : Nat) (args : List Int) (av : AV) (top : Int),
    3 * F + 10 ≤ D → RunAt E A s o 0 F S.length → n < E.m.procs.length → (args.length : Int) = (getP E.m n).params → (∀ x ∈ args, W x) → OutAt 0 A av (args.map vw) args.length 1 →
    0 ≤ top → top ≤ 65536 → s.ins + F < 100000 → s.out.length + F < 100000 → S.length ≤ 5000 →
    ∃ A' o' v ok s' F' e' dp', evCall Try.prog C D 1 19 [.ptr 0 E.ri 0, vi n, av, vi top] (A :: H) = some (.tup [vw v, vb ok], A' :: H) ∧ Keep E.X A A' o o' ∧ F' ≤ F ∧ s'.ins + F' ≤ s.ins + F ∧ s'.out.length + F' ≤ s.out.length + F ∧
      RunAt E A' s' o' e' F' dp' ∧ (ok = true → e' = 0 ∧ dp' = S.length ∧ W v ∧ play E.m E.inputs F (entR E.m n args top S s) = play E.m E.inputs F' (retR E.m v S s')) ∧
      (ok = false → play E.m E.inputs F (entR E.m n args top S s) = outc s' 0 e')
section
variable {d : Nat} {H : Heap} {E : Rn} {A : Arena} {s : Ms} {o : AV} {fi R : Nat} {regs : List Int} {low : Int} {F dp : Nat}
theorem args64 {p : Prc} {i : Ins} (hf : FrAt E A o p fi R regs low) (hr : RegsOk p regs) (hn : i.args.length ≤ 1000) (ha : ∀ r ∈ i.args, 0 ≤ r ∧ r < p.regs) (X1 X2 : AV) :
    Gives (iterN LB (s64.l0 (evCall Try.prog C (d + 1) 1) 1) [X1, .ptr 0 fi 0, X2, .d (.seq true 0 []), .d (seqD i.anl i.args nD), vi i.args.length, vi 0] (A :: H))
      (fun r => ∃ A' av, r = (.exit 0, [X1, .ptr 0 fi 0, X2, av], A' :: H) ∧ OutAt A.length A' av ((i.args.map (rg regs)).map vw) i.args.length 1 ∧ A.length ≤ A'.length ∧ ∀ j, j < A.length → A'[j]? = A[j]?) := by
  refine iter_gives (Inv := fun k st H' => ∃ A' av, st = [X1, .ptr 0 fi 0, X2, av, .d (seqD i.anl i.args nD), vi i.args.length, vi k] ∧ H' = A' :: H ∧ OutAt A.length A' av (((i.args.take k).map (rg regs)).map vw) k 1 ∧ A.length ≤ A'.length ∧ ∀ j, j < A.length → A'[j]? = A[j]?)
    i.args.length (big_lt (by omega)) (fun k hk st H' h => ?_) ⟨A, _, rfl, rfl, .nil 1, Nat.le_refl _, fun _ _ => rfl⟩
  obtain ⟨A', av, rfl, rfl, ho, hle, hsame⟩ := h
  rcases Nat.lt_or_ge k i.args.length with hlt | hge
  · left
    obtain ⟨x, hx⟩ : ∃ x, i.args[k]? = some x := ⟨_, List.getElem?_eq_getElem hlt⟩
    obtain ⟨q, hq, hq2⟩ := seq_one (nl := i.anl) (f := fun n => D.int .i64 n) hx
    have hq' : ixS 1 (.d (seqD i.anl i.args nD)) (vi k) = some q := hq
    have hxr := ha x (List.mem_of_getElem? hx)
    have hi : (k : Int) < i.args.length := by omega
    have w := wrap_ok ((k : Int) + 1) (by omega) (by omega)
    have hR : A'[R]? = some (some (regs.map vw)) := by rw [hsame R (lt_of_get hf.reg)]; exact hf.reg
    have hfi : A'[fi]? = some (some (frCells R p low)) := by rw [hsame fi (lt_of_get hf.frm)]; exact hf.frm
    have hl := hr.len
    have g := get42 (d := d) (H := H) (lim := 1) (k := x) hR (show p.regs.toNat = regs.length by omega) hxr.1 (by omega)
    have hbl := bldS_onev (z := vw 0) (v := vw (rg regs x)) (A := A') (H := H) rfl
    obtain ⟨av', A2, happ, ho2, hle2, hs2⟩ := ho.append (H := H) (bytes := 4) (lim := 1) (cs := [vw (rg regs x)]) hle (by decide) rfl rfl (by omega) (by omega)
    have jf := join_of hfi
    have hcut : cut (frCells R p low) 0 1 = some [.sl 0 R 0 p.regs.toNat 1] := rfl
    refine ⟨[X1, .ptr 0 fi 0, X2, av', .d (seqD i.anl i.args nD), vi i.args.length, vi (k + 1 : Nat)], A2 :: H, hlt, ?_, A2, av', rfl, rfl, ?_, by omega, fun j hj => by rw [hs2 j hj, hsame j hj]⟩
    · unfold s64.l0
      simp -implicitDefEqProofs [abin_lss, hi, hq', hq2, jf, hcut, g, hbl, happ, abin_add, w]
    · rw [List.take_add_one, hx]
      simpa using ho2
  · right
    obtain rfl : k = i.args.length := by omega
    refine ⟨_, ?_, ?_, A', av, rfl, by simpa using ho, hle, hsame⟩
    · unfold s64.l0
      simp -implicitDefEqProofs [abin_lss]
    · simp
/-- What an instruction comes to, in a call that stands on others. -/
def InsR (E : Rn) (A : Arena) (H : Heap) (o : AV) (p : Prc) (fi R : Nat) (S : List Fr) (f : Fr) (s : Ms) (F : Nat) (z : Option (AV × Heap)) : Prop :=
  ∃ A' o' ok regs' s' F' e' dp', z = some (vb ok, A' :: H) ∧ Keep (R :: E.X) A A' o o' ∧ F' ≤ F ∧ s'.ins + F' ≤ s.ins + F + 1 ∧ s'.out.length + F' ≤ s.out.length + F + 1 ∧ RunAt E A' s' o' e' F' dp' ∧
    (ok = true → e' = 0 ∧ dp' = S.length + 1 ∧ FrAt E A' o' p fi R regs' f.low ∧ RegsOk p regs' ∧ play E.m E.inputs F (stepR E.m E.inputs f S s) = play E.m E.inputs F' (.go (⟨f.n, regs', f.low, f.b, f.i + 1⟩ :: S) s')) ∧
    (ok = false → play E.m E.inputs F (stepR E.m E.inputs f S s) = outc s' 0 e')
theorem into64 {S : List Fr} {n b k : Nat} (hE : PlOk E) (hM : MdOk E.m) (h : RunAt E A s o 0 F (S.length + 1)) (hf : FrAt E A o (getP E.m n) fi R regs low) (hfo : FrOk E.m ⟨n, regs, low, b, k⟩) (hk : k < (getB' (getP E.m n) b).ins.length)
    (hop : (getI (getB' (getP E.m n) b) k).op = 9) (hc : CallOk E F) (hin : s.ins + F < 100000) (hol : s.out.length + F < 100000) (hS : S.length < 5000) {D : Nat} (hD : 3 * F + 11 ≤ D) :
    InsR E A H o (getP E.m n) fi R S ⟨n, regs, low, b, k⟩ s F (evCall Try.prog C D 1 64 [.ptr 0 E.ri 0, .ptr 0 fi 0, .agg ((iD (getI (getB' (getP E.m n) b) k)).map .d)] (A :: H)) := by
  obtain ⟨D, rfl⟩ : ∃ D', D = D' + 11 := ⟨D - 11, by omega⟩
  have hst : stepR E.m E.inputs ⟨n, regs, low, b, k⟩ S s = entR E.m (getI (getB' (getP E.m n) b) k).obj.toNat ((getI (getB' (getP E.m n) b) k).args.map (rg regs)) low (⟨n, regs, low, b, k + 1⟩ :: S) s := by
    unfold stepR
    rw [if_neg (by show ¬ k = (getB' (getP E.m n) b).ins.length; omega), if_pos hop]
  have hio := hM.ins hfo.n hfo.b hk
  have har := hM.args hfo.n hfo.b hk
  have hcd : callD E.m ⟨n, regs, low, b, k + 1⟩ = (getI (getB' (getP E.m n) b) k).d := rfl
  simp only at hio har
  obtain ⟨c1, c2, c3, c4, c5⟩ := call_ok (ins_call hio hop)
  unfold InsR
  rw [hst]
  generalize hI : getI (getB' (getP E.m n) b) k = i at *
  rw [evCall_inEq (fi := fi64) rfl rfl (b64 _ _ _ _ _ _)]
  unfold s64
  have hb := bx_data (r := iD i) (A := A) (H := H)
  have h1 := h.push hE [some ((iD i).map AV.d)]
  have hf1 := hf.push [some ((iD i).map AV.d)]
  have hq : (A ++ [some ((iD i).map AV.d)])[A.length]? = some (some ((iD i).map AV.d)) := by simp
  have hk1 := Keep.push (R :: E.X) A [some ((iD i).map AV.d)] o
  generalize hA1 : A ++ [some ((iD i).map AV.d)] = A1 at *
  obtain ⟨r, hr, A2, av, rfl, hav, hle, hsame⟩ := args64 (d := D + 9) (H := H) (i := i) hf1 hfo.regs (by omega) c5 (.ptr 0 E.ri 0) (.ptr 0 A.length 0)
  have hk2 : Keep (R :: E.X) A1 A2 o o := ⟨hle, fun j hj _ _ => hsame j hj, fun _ _ e => e⟩
  have hk2' : Keep E.X A1 A2 o o := ⟨hle, fun j hj _ _ => hsame j hj, fun _ _ e => e⟩
  have h2 := h1.keep hE hle fun j hj _ => hsame j hj
  have hf2 := hf1.keep hE hk2'
  have hq2 : A2[A.length]? = some (some ((iD i).map AV.d)) := by rw [hsame _ (lt_of_get hq)]; exact hq
  have hav2 : OutAt 0 A2 av ((i.args.map (rg regs)).map vw) (i.args.map (rg regs)).length 1 := by
    rw [List.length_map]
    exact hav.zero
  obtain ⟨A3, o3, v, ok, s3, F3, e3, dp3, hcall, hk3, hF3, hi3, ho3, h3, hgood, hbad⟩ := hc (D + 10) A2 H s o (⟨n, regs, low, b, k + 1⟩ :: S) i.obj.toNat (i.args.map (rg regs)) av low (by omega) h2 c2 (by simpa using c3)
    (fun x hx => by obtain ⟨y, _, rfl⟩ := List.mem_map.1 hx; exact rg_w hfo.regs.w _) hav2 (by have h0 : endG E.m ≤ low := hfo.lo; have := (endG_ok hM).1; omega) hfo.hi hin hol (by simp; omega)
  have x1 : (iD i)[1]? = some (.int .i64 i.d) := rfl
  have x5 : (iD i)[5]? = some (.int .i64 i.obj) := rfl
  have x9 : (iD i)[9]? = some (seqD i.anl i.args nD) := rfl
  have hl := seq_len i.anl i.args nD
  have jq := join_of hq
  have jq2 := join_of hq2
  have jf2 := join_of hf2.frm
  have f8 : (frCells R (getP E.m n) low)[8]? = some (vi low) := rfl
  have hcut : cut (frCells R (getP E.m n) low) 0 1 = some [.sl 0 R 0 (getP E.m n).regs.toNat 1] := rfl
  have hob : (i.obj.toNat : Int) = i.obj := by omega
  rw [hob] at hcall
  have hf3 := hf2.keep hE hk3
  have hq3 := hk3.get (by have := hE.r; have := hE.m; have := h.k0; simp [Rn.X]; omega) (h.out.blk (Nat.le_refl _)) hq2
  have jf3 := join_of hf3.frm
  have jq3 := join_of hq3
  have hkk := (hk1.trans hk2).trans (hk3.mono (Y := R :: E.X) fun j hj => List.mem_cons_of_mem _ hj)
  have hrl := hfo.regs.len
  simp only at hrl
  cases ok with
  | false =>
    refine ⟨A3, o3, false, regs, s3, F3, e3, dp3, ?_, hkk, hF3, by omega, by omega, h3, fun e => (by cases e), fun _ => hbad rfl⟩
    generalize iD i = I at *
    unfold lp
    simp -implicitDefEqProofs [hb, jq, x9, hl, hr, bnd_eq, jq2, x5, jf2, f8, hcall]
  | true =>
    obtain ⟨g1, g2, g3, g4⟩ := hgood rfl
    subst g1 g2
    by_cases hd : i.d = -1
    · refine ⟨A3, o3, true, regs, s3, F3, 0, S.length + 1, ?_, hkk, hF3, by omega, by omega, h3, fun _ => ⟨rfl, rfl, hf3, hfo.regs, ?_⟩, fun e => (by cases e)⟩
      · generalize iD i = I at *
        unfold lp
        simp -implicitDefEqProofs [hb, jq, x9, hl, hr, bnd_eq, jq2, x5, jf2, f8, hcall, jq3, x1, abin_neq, hd]
      · rw [g4]
        simp only [retR, hcd, hd, if_pos]
    · have hdr := c4.resolve_left hd
      have hset := set61 (d := D + 9) (H := H) (k := i.d) (v := v) hf3.reg (show (getP E.m n).regs.toNat = regs.length by omega) hdr.1 (by omega)
      refine ⟨A3.set R (some ((wr regs i.d v).map vw)) ++ [some [.sl 0 R 0 (getP E.m n).regs.toNat 1]], o3, true, wr regs i.d v, s3, F3, 0, S.length + 1, ?_, (hkk.trans (Keep.set (j := R) (by simp))).trans (Keep.push _ _ _ _), hF3, by omega, by omega,
        (h3.setReg hE _ hf3.rk hf3.ro).push hE _, fun _ => ⟨rfl, rfl, (hf3.wr _).push _, hfo.regs.wr _ g3, ?_⟩, fun e => (by cases e)⟩
      · generalize iD i = I at *
        unfold lp
        simp -implicitDefEqProofs [hb, jq, x9, hl, hr, bnd_eq, jq2, x5, jf2, f8, hcall, jq3, x1, abin_neq, hd, jf3, hcut, hset]
      · rw [g4]
        simp only [retR, hcd, hd, if_neg, not_false_eq_true]
end
end Go.Ev.Try

/- Any instruction; a block's instructions. -/
set_option maxRecDepth 100000
namespace Go.Ev.Try
open Go Go.Ev Go.Proofs
/-- A block of the call's own. -/
structure Loc (E : Rn) (A : Arena) (o : AV) (R j : Nat) (c : List AV) : Prop where
  at' : A[j]? = some (some c)
  k0 : E.k0 ≤ j
  ne : j ≠ R
  ob : blkOf o ≠ some j
theorem Loc.keep {E : Rn} {A A' : Arena} {o o' : AV} {R j : Nat} {c : List AV} (hE : PlOk E) (h : Loc E A o R j c) (hk : Keep (R :: E.X) A A' o o') : Loc E A' o' R j c := by
  have := hE.r
  have := hE.m
  have := h.k0
  have := h.ne
  exact ⟨hk.get (by simp [Rn.X]; omega) h.ob h.at', h.k0, h.ne, hk.ob h.ob (lt_of_get h.at')⟩
theorem _root_.Go.Ev.Keep.under {X : List Nat} {A0 A A' : Arena} {o0 o o' : AV} {R : Nat} (h : Keep X A0 A o0 o) (g : Keep (R :: X) A A' o o') (hR : A0.length ≤ R) : Keep X A0 A' o0 o' :=
  ⟨Nat.le_trans h.len g.len, fun j hj hx ho => by
    rw [g.same j (Nat.lt_of_lt_of_le hj h.len) (by simp; exact ⟨by omega, hx⟩) (fun e => ho (h.outb j hj e)), h.same j hj hx ho], fun j hj e => h.outb j hj (g.outb j (Nat.lt_of_lt_of_le hj h.len) e)⟩
section
variable {d : Nat} {H : Heap} {E : Rn} {A : Arena} {s : Ms} {o : AV} {fi R : Nat} {regs : List Int} {low : Int} {F dp : Nat}
theorem insAny {S : List Fr} {n b k : Nat} (hE : PlOk E) (hM : MdOk E.m) (hI : InOk E.inputs) (h : RunAt E A s o 0 F (S.length + 1)) (hf : FrAt E A o (getP E.m n) fi R regs low) (hfo : FrOk E.m ⟨n, regs, low, b, k⟩) (hk : k < (getB' (getP E.m n) b).ins.length)
    (hc : CallOk E F) (hin : s.ins + F < 100000) (hol : s.out.length + F < 100000) (hS : S.length < 5000) {D : Nat} (hD : 3 * F + 12 ≤ D) :
    InsR E A H o (getP E.m n) fi R S ⟨n, regs, low, b, k⟩ s F (evCall Try.prog C D 1 41 [.ptr 0 E.ri 0, .ptr 0 fi 0, .agg ((iD (getI (getB' (getP E.m n) b) k)).map .d)] (A :: H)) := by
  have hio := hM.ins hfo.n hfo.b hk
  have hnw := hM.numW hfo.n hfo.b hk
  simp only at hio hnw
  by_cases hop : (getI (getB' (getP E.m n) b) k).op = 9
  · obtain ⟨D, rfl⟩ : ∃ D', D = D' + 1 := ⟨D - 1, by omega⟩
    have h1 := h.push hE [some ((iD (getI (getB' (getP E.m n) b) k)).map AV.d)]
    have hf1 := hf.push [some ((iD (getI (getB' (getP E.m n) b) k)).map AV.d)]
    obtain ⟨A', o', ok, regs', s', F', e', dp', hz, hkk, hF, hi2, ho2, hrun, hg, hb⟩ := into64 (H := H) hE hM h1 hf1 hfo hk hop hc hin hol hS (D := D) (by omega)
    refine ⟨A', o', ok, regs', s', F', e', dp', ?_, (Keep.push _ _ _ _).trans hkk, hF, hi2, ho2, hrun, hg, hb⟩
    generalize getI (getB' (getP E.m n) b) k = i at *
    rw [evCall_inEq (fi := fi41) rfl rfl (b41 _ _ _ _ _ _)]
    unfold s41
    have hb := bx_data (r := iD i) (A := A) (H := H)
    have x0 : (iD i)[0]? = some (.int .i64 i.op) := rfl
    have hq : (A ++ [some ((iD i).map AV.d)])[A.length]? = some (some ((iD i).map AV.d)) := by simp
    have hcut := cut_data (r := iD i) (n := 11) rfl
    have j := join_of hq
    generalize A ++ [some ((iD i).map AV.d)] = A1 at *
    generalize iD i = I at *
    simp -implicitDefEqProofs [hb, j, x0, hop, abin_eql, hcut, hz]
  · obtain ⟨D, rfl⟩ : ∃ D', D = D' + 5 := ⟨D - 5, by omega⟩
    have h0 : endG E.m ≤ low := hfo.lo
    have h4 := (endG_ok hM).1
    have hs := hM.small hfo.n
    obtain ⟨A', o', hA⟩ := ins41 (d := D) (H := H) hE hM hI h hf hfo.regs hio hnw (by omega) hfo.hi hs (by omega) (by omega) hop
    have hst : stepR E.m E.inputs ⟨n, regs, low, b, k⟩ S s = match insP E.m E.inputs (getP E.m n) low (getI (getB' (getP E.m n) b) k) regs s with
      | none => .stop 12 s
      | some x => .go (⟨n, x.1, low, b, k + 1⟩ :: S) x.2 := by
      unfold stepR
      rw [if_neg (by show ¬ k = (getB' (getP E.m n) b).ins.length; omega), if_neg hop]
      dsimp only
      cases insP E.m E.inputs (getP E.m n) low (getI (getB' (getP E.m n) b) k) regs s <;> rfl
    unfold InsR
    rw [hst]
    cases hx : insP E.m E.inputs (getP E.m n) low (getI (getB' (getP E.m n) b) k) regs s with
    | none =>
      obtain ⟨hz, hr⟩ := hA.bad hx
      refine ⟨A', o', false, regs, s, F, 12, _, hz, hA.keep, Nat.le_refl _, by omega, by omega, hr, fun e => (by cases e), fun _ => ?_⟩
      cases F <;> rfl
    | some x =>
      obtain ⟨r', s'⟩ := x
      obtain ⟨hz, hr, hfr⟩ := hA.good r' s' hx
      have hio2 : (getI (getB' (getP E.m n) b) k).op = 5 ∨ (getI (getB' (getP E.m n) b) k).op = 6 → (getI (getB' (getP E.m n) b) k).size = 1 ∨ (getI (getB' (getP E.m n) b) k).size = 4 := size_of (ins_regs hio hop).2.2.2
      obtain ⟨hro, _, h5, h6⟩ := insP_ok hI hfo.regs h.ok hnw hio2 hx
      exact ⟨A', o', true, r', s', F, 0, _, hz, hA.keep, Nat.le_refl _, by omega, by omega, hr, fun _ => ⟨rfl, rfl, hfr, hro, rfl⟩, fun e => (by cases e)⟩
/-- A call at work: what has come of it so far. -/
structure Mid (E : Rn) (A0 : Arena) (o0 : AV) (F0 : Nat) (s0 : Ms) (c0 : Outc) (S : List Fr) (n : Nat) (low : Int) (pi fi R : Nat) (A : Arena) (o : AV) (regs : List Int) (s : Ms) (F : Nat) (b k : Nat) : Prop where
  run : RunAt E A s o 0 F (S.length + 1)
  fr : FrAt E A o (getP E.m n) fi R regs low
  prc : Loc E A o R pi ((pD (getP E.m n)).map .d)
  keep : Keep E.X A0 A o0 o
  hR : A0.length ≤ R
  ok : FrOk E.m ⟨n, regs, low, b, k⟩
  hF : F ≤ F0
  hin : s.ins + F ≤ s0.ins + F0
  hol : s.out.length + F ≤ s0.out.length + F0
  eq : c0 = play E.m E.inputs F (.go (⟨n, regs, low, b, k⟩ :: S) s)
def Stopped (E : Rn) (A0 : Arena) (o0 : AV) (F0 : Nat) (s0 : Ms) (c0 : Outc) (A' : Arena) : Prop :=
  ∃ o' s' F' e' dp', Keep E.X A0 A' o0 o' ∧ F' ≤ F0 ∧ s'.ins + F' ≤ s0.ins + F0 ∧ s'.out.length + F' ≤ s0.out.length + F0 ∧ RunAt E A' s' o' e' F' dp' ∧ c0 = outc s' 0 e'
variable {A0 : Arena} {o0 : AV} {F0 : Nat} {s0 : Ms} {c0 : Outc} {S : List Fr} {n : Nat} {pi b k : Nat}
/-- A step that is taken: the memory then. -/
theorem Mid.steps (hE : PlOk E) (h : Mid E A0 o0 F0 s0 c0 S n low pi fi R A o regs s F b k) (hz : F ≠ 0) : RunAt E (A.set E.ri (some (E.cells s o 0 (F - 1) (S.length + 1)))) s o 0 (F - 1) (S.length + 1) ∧ FrAt E (A.set E.ri (some (E.cells s o 0 (F - 1) (S.length + 1)))) o (getP E.m n) fi R regs low ∧
    Loc E (A.set E.ri (some (E.cells s o 0 (F - 1) (S.length + 1)))) o R pi ((pD (getP E.m n)).map .d) ∧ Keep E.X A0 (A.set E.ri (some (E.cells s o 0 (F - 1) (S.length + 1)))) o0 o := by
  have hk : Keep E.X A (A.set E.ri (some (E.cells s o 0 (F - 1) (S.length + 1)))) o o := Keep.set (by simp [Rn.X])
  exact ⟨h.run.cellsAt hE, h.fr.keep hE hk, h.prc.keep hE (hk.mono fun j hj => List.mem_cons_of_mem _ hj), h.keep.trans hk⟩
theorem Mid.dry (hE : PlOk E) (h : Mid E A0 o0 F0 s0 c0 S n low pi fi R A o regs s F b k) (hz : F = 0) : Stopped E A0 o0 F0 s0 c0 (A.set E.ri (some (E.cells s o 16 0 (S.length + 1)))) := by
  subst hz
  refine ⟨o, s, 0, 16, S.length + 1, h.keep.trans (Keep.set (by simp [Rn.X])), by omega, h.hin, h.hol, h.run.cellsAt hE, ?_⟩
  rw [h.eq]
  rfl
theorem Mid.push (hE : PlOk E) (h : Mid E A0 o0 F0 s0 c0 S n low pi fi R A o regs s F b k) (B : Arena) : Mid E A0 o0 F0 s0 c0 S n low pi fi R (A ++ B) o regs s F b k :=
  ⟨h.run.push hE B, h.fr.push B, h.prc.keep hE (Keep.push _ _ _ _), h.keep.trans (Keep.push _ _ _ _), h.hR, h.ok, h.hF, h.hin, h.hol, h.eq⟩
def zI' : List AV := [.d (.int .i64 0), .d (.int .i64 0), .d (.int .i64 0), .d (.int .i64 0), .d (.int .i64 0), .d (.int .i64 0), .d (.int .i64 0), .d (.int .i64 0), .d (.int .u32 0), .d (.seq true 0 []), .d (.bool false)]
/-- One instruction of a block. -/
theorem round19 (hE : PlOk E) (hM : MdOk E.m) (hI : InOk E.inputs) (h : Mid E A0 o0 F0 s0 c0 S n low pi fi R A o regs s F b k) {xi : Nat} {xc : List AV} (hx : Loc E A o R xi xc) (hk : k < (getB' (getP E.m n) b).ins.length)
    (hc : ∀ F', F' < F0 → CallOk E F') (hin : s0.ins + F0 < 100000) (hol : s0.out.length + F0 < 100000) (hS : S.length < 5000) {D : Nat} (hD : 3 * F0 + 9 ≤ D) :
    ∃ A', (∃ o' regs' s' F', s19.l0 (evCall Try.prog C D 1) 1 [.ptr 0 E.ri 0, .ptr 0 pi 0, .ptr 0 fi 0, .ptr 0 xi 0, .d (seqD (getB' (getP E.m n) b).inl (getB' (getP E.m n) b).ins iD), vi (getB' (getP E.m n) b).ins.length, vi k] (A :: H) =
        some (.normal, [.ptr 0 E.ri 0, .ptr 0 pi 0, .ptr 0 fi 0, .ptr 0 xi 0, .d (seqD (getB' (getP E.m n) b).inl (getB' (getP E.m n) b).ins iD), vi (getB' (getP E.m n) b).ins.length, vi (k + 1 : Nat)], A' :: H) ∧
        Mid E A0 o0 F0 s0 c0 S n low pi fi R A' o' regs' s' F' b (k + 1) ∧ Loc E A' o' R xi xc ∧ F' ≤ F) ∨
      (s19.l0 (evCall Try.prog C D 1) 1 [.ptr 0 E.ri 0, .ptr 0 pi 0, .ptr 0 fi 0, .ptr 0 xi 0, .d (seqD (getB' (getP E.m n) b).inl (getB' (getP E.m n) b).ins iD), vi (getB' (getP E.m n) b).ins.length, vi k] (A :: H) =
        some (.ret, [vw 0, vb false], A' :: H) ∧ Stopped E A0 o0 F0 s0 c0 A') := by
  have hFF := h.hF
  have hFi := h.hin
  have hFo := h.hol
  obtain ⟨q, qs, rr⟩ := seq_row (nl := (getB' (getP E.m n) b).inl) (f := iD) (s := 11) (fun _ => rfl) (getI_of hk)
  have hst := stA_new (n := 11) (lim := 1) (A := A) (H := H) (cs := (iD (getI (getB' (getP E.m n) b) k)).map .d) (c := [.d (.int .i64 0), .d (.int .i64 0), .d (.int .i64 0), .d (.int .i64 0), .d (.int .i64 0), .d (.int .i64 0), .d (.int .i64 0), .d (.int .i64 0), .d (.int .u32 0), .d (.seq true 0 []), .d (.bool false)]) (by decide) (all_leaf_d _) rfl rfl
  have hq : (A ++ [some ((iD (getI (getB' (getP E.m n) b) k)).map AV.d)])[A.length]? = some (some ((iD (getI (getB' (getP E.m n) b) k)).map AV.d)) := by simp
  have h1 := h.push hE [some ((iD (getI (getB' (getP E.m n) b) k)).map AV.d)]
  have hx1 := hx.keep hE (Keep.push _ A [some ((iD (getI (getB' (getP E.m n) b) k)).map AV.d)] o)
  have hri := lt_of_get h.run.run
  generalize hA1 : A ++ [some ((iD (getI (getB' (getP E.m n) b) k)).map AV.d)] = A1 at *
  have hi : (k : Int) < (getB' (getP E.m n) b).ins.length := by omega
  have w := wrap_ok ((k : Int) + 1) (by omega) (by have := hM.insLen h.ok.n h.ok.b; simp only at this; omega)
  have hix := rr.ix
  have hall := rr.all
  obtain ⟨D, rfl⟩ : ∃ D', D = D' + 2 := ⟨D - 2, by omega⟩
  have h40 := step40 (d := D) (H := H) h1.run (by omega)
  have hcut := cut_data (r := iD (getI (getB' (getP E.m n) b) k)) (n := 11) rfl
  by_cases hz : F = 0
  · rw [if_pos hz, decide_eq_false (by simpa using hz)] at h40
    refine ⟨_, .inr ⟨?_, h1.dry hE hz⟩⟩
    generalize iD (getI (getB' (getP E.m n) b) k) = I at *
    unfold s19.l0
    simp -implicitDefEqProofs [abin_lss, hi, hix, hall, hst, h40]
  · rw [if_neg hz, decide_eq_true hz] at h40
    obtain ⟨r2, f2, p2, k2⟩ := h1.steps hE hz
    have x2 := hx1.keep hE (Keep.set (X := R :: E.X) (A := A1) (o := o) (j := E.ri) (c := some (E.cells s o 0 (F - 1) (S.length + 1))) (by simp [Rn.X]))
    have hq2 : (A1.set E.ri (some (E.cells s o 0 (F - 1) (S.length + 1))))[A.length]? = some (some ((iD (getI (getB' (getP E.m n) b) k)).map AV.d)) := by rw [List.getElem?_set_ne (by omega)]; exact hq
    have j2 := join_of hq2
    generalize A1.set E.ri (some (E.cells s o 0 (F - 1) (S.length + 1))) = A2 at *
    obtain ⟨A3, o3, ok, regs3, s3, F3, e3, dp3, hz3, hk3, hF3, hi3, ho3, hr3, hg, hb⟩ := insAny (H := H) hE hM hI r2 f2 h.ok hk (hc (F - 1) (by omega)) (by omega) (by omega) hS (D := D + 2) (by omega)
    have heq : c0 = play E.m E.inputs (F - 1) (stepR E.m E.inputs ⟨n, regs, low, b, k⟩ S s) := by
      rw [h.eq]
      obtain ⟨F, rfl⟩ : ∃ F', F = F' + 1 := ⟨F - 1, by omega⟩
      rfl
    refine ⟨A3, ?_⟩
    cases ok with
    | false =>
      refine .inr ⟨?_, o3, s3, F3, e3, dp3, k2.under hk3 h.hR, by omega, by omega, by omega, hr3, by rw [heq]; exact hb rfl⟩
      generalize iD (getI (getB' (getP E.m n) b) k) = I at *
      unfold s19.l0
      simp -implicitDefEqProofs [abin_lss, hi, hix, hall, hst, h40, j2, hcut, hz3]
    | true =>
      obtain ⟨g1, g2, g3, g4, g5⟩ := hg rfl
      subst g1 g2
      refine .inl ⟨o3, regs3, s3, F3, ?_, ⟨hr3, g3, p2.keep hE hk3, k2.under hk3 h.hR, h.hR, ⟨h.ok.n, g4, h.ok.b, hk, h.ok.lo, h.ok.hi⟩, by omega, by omega, by omega, by rw [heq]; exact g5⟩, x2.keep hE hk3, by omega⟩
      generalize iD (getI (getB' (getP E.m n) b) k) = I at *
      unfold s19.l0
      simp -implicitDefEqProofs [abin_lss, hi, hix, hall, hst, h40, j2, hcut, hz3, abin_add, w]
/-- A block's instructions. -/
theorem block19 (hE : PlOk E) (hM : MdOk E.m) (hI : InOk E.inputs) (h : Mid E A0 o0 F0 s0 c0 S n low pi fi R A o regs s F b 0) {xi : Nat} {xc : List AV} (hx : Loc E A o R xi xc)
    (hc : ∀ F', F' < F0 → CallOk E F') (hin : s0.ins + F0 < 100000) (hol : s0.out.length + F0 < 100000) (hS : S.length < 5000) {D : Nat} (hD : 3 * F0 + 9 ≤ D) :
    ∃ A', (∃ o' regs' s' F', iterN LB (s19.l0 (evCall Try.prog C D 1) 1) [.ptr 0 E.ri 0, .ptr 0 pi 0, .ptr 0 fi 0, .ptr 0 xi 0, .d (seqD (getB' (getP E.m n) b).inl (getB' (getP E.m n) b).ins iD), vi (getB' (getP E.m n) b).ins.length, vi 0] (A :: H) =
        some (.exit 2, [.ptr 0 E.ri 0, .ptr 0 pi 0, .ptr 0 fi 0, .ptr 0 xi 0], A' :: H) ∧
        Mid E A0 o0 F0 s0 c0 S n low pi fi R A' o' regs' s' F' b (getB' (getP E.m n) b).ins.length ∧ Loc E A' o' R xi xc ∧ F' ≤ F) ∨
      (iterN LB (s19.l0 (evCall Try.prog C D 1) 1) [.ptr 0 E.ri 0, .ptr 0 pi 0, .ptr 0 fi 0, .ptr 0 xi 0, .d (seqD (getB' (getP E.m n) b).inl (getB' (getP E.m n) b).ins iD), vi (getB' (getP E.m n) b).ins.length, vi 0] (A :: H) =
        some (.ret, [vw 0, vb false], A' :: H) ∧ Stopped E A0 o0 F0 s0 c0 A') := by
  have hlen := hM.insLen h.ok.n h.ok.b
  simp only at hlen
  have key : Gives (iterN LB (s19.l0 (evCall Try.prog C D 1) 1) [.ptr 0 E.ri 0, .ptr 0 pi 0, .ptr 0 fi 0, .ptr 0 xi 0, .d (seqD (getB' (getP E.m n) b).inl (getB' (getP E.m n) b).ins iD), vi (getB' (getP E.m n) b).ins.length, vi 0] (A :: H))
    (fun r => ∃ A', (∃ o' regs' s' F', r = (.exit 2, [.ptr 0 E.ri 0, .ptr 0 pi 0, .ptr 0 fi 0, .ptr 0 xi 0], A' :: H) ∧ Mid E A0 o0 F0 s0 c0 S n low pi fi R A' o' regs' s' F' b (getB' (getP E.m n) b).ins.length ∧ Loc E A' o' R xi xc ∧ F' ≤ F) ∨
      (r = (.ret, [vw 0, vb false], A' :: H) ∧ Stopped E A0 o0 F0 s0 c0 A')) := by
    refine iter_gives (Inv := fun k st H' => ∃ A' o' regs' s' F', st = [.ptr 0 E.ri 0, .ptr 0 pi 0, .ptr 0 fi 0, .ptr 0 xi 0, .d (seqD (getB' (getP E.m n) b).inl (getB' (getP E.m n) b).ins iD), vi (getB' (getP E.m n) b).ins.length, vi k] ∧ H' = A' :: H ∧
      Mid E A0 o0 F0 s0 c0 S n low pi fi R A' o' regs' s' F' b k ∧ Loc E A' o' R xi xc ∧ F' ≤ F) (getB' (getP E.m n) b).ins.length (big_lt (by omega)) (fun k hk st H' hv => ?_) ⟨A, o, regs, s, F, rfl, rfl, h, hx, Nat.le_refl _⟩
    obtain ⟨A1, o1, regs1, s1, F1, rfl, rfl, h1, hx1, hF1⟩ := hv
    rcases Nat.lt_or_ge k (getB' (getP E.m n) b).ins.length with hlt | hge
    · obtain ⟨A', ⟨o', regs', s', F', hr, hm, hl, hF⟩ | ⟨hr, hs⟩⟩ := round19 (H := H) hE hM hI h1 hx1 hlt hc hin hol hS hD
      · exact .inl ⟨_, _, hlt, hr, A', o', regs', s', F', rfl, rfl, hm, hl, by omega⟩
      · exact .inr ⟨_, hr, by simp, A', .inr ⟨rfl, hs⟩⟩
    · right
      obtain rfl : k = (getB' (getP E.m n) b).ins.length := by omega
      refine ⟨_, ?_, ?_, A1, .inl ⟨o1, regs1, s1, F1, rfl, h1, hx1, hF1⟩⟩
      · unfold s19.l0
        simp -implicitDefEqProofs [abin_lss]
      · simp
  obtain ⟨r, hr, A', ⟨o', regs', s', F', rfl, hm, hl, hF⟩ | ⟨rfl, hs⟩⟩ := key
  · exact ⟨A', .inl ⟨o', regs', s', F', hr, hm, hl, hF⟩⟩
  · exact ⟨A', .inr ⟨hr, hs⟩⟩
end
end Go.Ev.Try

/- A call of the program, block by block. -/
set_option maxRecDepth 100000
namespace Go.Ev.Try
open Go Go.Ev Go.Proofs
theorem plV_d (L : List Slt) : ∃ x, plV L = .d x := by
  unfold plV
  split <;> exact ⟨_, rfl⟩
theorem reps_one (z : AV) : ∀ n, reps [z] n = List.replicate n z
  | 0 => rfl
  | n + 1 => by simp [reps, reps_one z n, List.replicate_succ]
theorem mkS_one {z : AV} {bytes : Nat} {A : Arena} {H : Heap} {n : Int} (h0 : 0 ≤ n) (h1 : n ≤ 1000000) (hb : bytes ≤ 1000) : mkS 1 bytes [z] (A :: H) (vi n) (vi n) = some (.sl 0 A.length 0 n.toNat 1, (A ++ [some (List.replicate n.toNat z)]) :: H) := by
  have e1 : ((bytes : Int) * n ≤ 140737488355328) := by
    have h2 : (bytes : Int) * n ≤ bytes * 1000000 := Int.mul_le_mul_of_nonneg_left h1 (by omega)
    have h3 : (bytes : Int) * 1000000 ≤ 1000 * 1000000 := Int.mul_le_mul_of_nonneg_right (by omega) (by omega)
    omega
  have e2 : n ≤ 140737488355328 := by omega
  simp only [mkS, asI, Option.bind_some, h0, e1, e2, decide_true, Bool.and_true, Int.le_refl, pushB, reps_one]
  rfl
theorem cpy_here {A : Arena} {H : Heap} {R m k : Nat} {c cs : List AV} (hA : A[R]? = some (some c)) (hc : cs.all AV.leaf = true) (hk : cs.length = k) (hm : k ≤ m) (hl : m = c.length) : cpy 1 1 (A :: H) (.sl 0 R 0 m 1) (some (k, cs)) = some (vi k, A.set R (some (cs ++ c.drop k)) :: H) := by
  have e1 : min k m = k := by omega
  have e2 : cs.take (k * 1) = cs := by simp [← hk]
  have e3 : setMany c 0 cs = cs ++ c.drop k := by
    rw [setMany_eq _ _ _ (by omega)]
    simp [hk]
  have e4 : Nat.ble (0 + cs.length) c.length = true := Nat.ble_eq_true_of_le (by omega)
  simp only [cpy, Option.bind_some, e1, e2, downN_zero, getB_zero, join_of hA, hc, cond_true, e4, e3, setB_zero]
  rfl
theorem elS_out {A : Arena} {H : Heap} {v : AV} {cs : List AV} {n k0 : Nat} (h : OutAt k0 A v cs n 1) : elS 1 (A :: H) v = some (n, cs) := by
  cases h with
  | nil => rfl
  | row hb hA hl =>
    rw [elS_here (c := cs) (join_of hA) (by omega)]
    simp [← hl]
section
variable {d : Nat} {H : Heap} {E : Rn} {A : Arena} {s : Ms} {o : AV} {fi R : Nat} {regs : List Int} {low : Int} {F dp : Nat}
variable {A0 : Arena} {o0 : AV} {F0 : Nat} {s0 : Ms} {c0 : Outc} {S : List Fr} {n : Nat} {pi b k : Nat}
/-- A call that has come back. -/
def Returned (E : Rn) (A0 : Arena) (o0 : AV) (F0 : Nat) (s0 : Ms) (c0 : Outc) (S : List Fr) (v : Int) (A' : Arena) : Prop :=
  ∃ o' s' F', Keep E.X A0 A' o0 o' ∧ F' ≤ F0 ∧ s'.ins + F' ≤ s0.ins + F0 ∧ s'.out.length + F' ≤ s0.out.length + F0 ∧ RunAt E A' s' o' 0 F' S.length ∧ W v ∧ c0 = play E.m E.inputs F' (retR E.m v S s')
theorem end_of {p : Prc} {b : Blk} (h : endOk p b = true) : (b.fin = 1 ∧ 0 ≤ b.to ∧ b.to < p.blks.length) ∨ (b.fin = 2 ∧ 0 ≤ b.to ∧ b.to < p.blks.length ∧ 0 ≤ b.els ∧ b.els < p.blks.length ∧ 0 ≤ b.a ∧ b.a < p.regs) ∨
    (b.fin = 3 ∧ (b.a = -1 ∨ (0 ≤ b.a ∧ b.a < p.regs))) := by
  unfold endOk at h
  by_cases h1 : b.fin = 1
  · simp [h1, blockOk] at h
    exact .inl ⟨h1, h.1.1.1, h.1.1.2⟩
  · by_cases h2 : b.fin = 2
    · simp [h2, blockOk, regOk] at h
      exact .inr (.inl ⟨h2, h.1.1.1, h.1.1.2, h.1.2.1, h.1.2.2, h.2.1, h.2.2⟩)
    · by_cases h3 : b.fin = 3
      · simp [h3] at h
        cases hv : p.void with
        | true => rw [hv] at h; exact .inr (.inr ⟨h3, .inl (regOk_f h.1.1)⟩)
        | false => rw [hv] at h; exact .inr (.inr ⟨h3, .inr (regOk_t h.1.1)⟩)
      · simp [h1, h2, h3] at h
/-- One block. -/
theorem blk19 (hE : PlOk E) (hM : MdOk E.m) (hI : InOk E.inputs) (h : Mid E A0 o0 F0 s0 c0 S n low pi fi R A o regs s F b 0)
    (hc : ∀ F', F' < F0 → CallOk E F') (hin : s0.ins + F0 < 100000) (hol : s0.out.length + F0 < 100000) (hS : S.length < 5000) {D : Nat} (hD : 3 * F0 + 9 ≤ D) :
    ∃ A', (∃ o' regs' s' F' b', s19.l1 (evCall Try.prog C D 1) 1 [.ptr 0 E.ri 0, .ptr 0 pi 0, .ptr 0 fi 0, vi b] (A :: H) = some (.normal, [.ptr 0 E.ri 0, .ptr 0 pi 0, .ptr 0 fi 0, vi (b' : Nat)], A' :: H) ∧
        Mid E A0 o0 F0 s0 c0 S n low pi fi R A' o' regs' s' F' b' 0 ∧ F' < F) ∨
      (s19.l1 (evCall Try.prog C D 1) 1 [.ptr 0 E.ri 0, .ptr 0 pi 0, .ptr 0 fi 0, vi b] (A :: H) = some (.ret, [vw 0, vb false], A' :: H) ∧ Stopped E A0 o0 F0 s0 c0 A') ∨
      (∃ v, s19.l1 (evCall Try.prog C D 1) 1 [.ptr 0 E.ri 0, .ptr 0 pi 0, .ptr 0 fi 0, vi b] (A :: H) = some (.ret, [vw v, vb true], A' :: H) ∧ Returned E A0 o0 F0 s0 c0 S v A') := by
  have hFF := h.hF
  obtain ⟨q, qs, rr⟩ := seq_row (nl := (getP E.m n).bnl) (f := bD) (s := 5) (fun _ => rfl) (getB_of h.ok.b)
  simp only at rr
  have hst := stA_new (n := 5) (lim := 1) (A := A) (H := H) (cs := (bD (getB' (getP E.m n) b)).map .d) (c := [.d (.seq true 0 []), .d (.int .i64 0), .d (.int .i64 0), .d (.int .i64 0), .d (.int .i64 0)]) (by decide) (all_leaf_d _) rfl rfl
  have h1 := h.push hE [some ((bD (getB' (getP E.m n) b)).map AV.d)]
  have hx1 : Loc E (A ++ [some ((bD (getB' (getP E.m n) b)).map AV.d)]) o R A.length ((bD (getB' (getP E.m n) b)).map AV.d) :=
    ⟨by simp, h.run.k0, by have := lt_of_get h.fr.reg; omega, h.run.out.blk (Nat.le_refl _)⟩
  have jp := join_of h.prc.at'
  generalize hA1 : A ++ [some ((bD (getB' (getP E.m n) b)).map AV.d)] = A1 at *
  have jx := join_of hx1.at'
  have hix := rr.ix
  have hall := rr.all
  have p5 : (pD (getP E.m n))[5]? = some (seqD (getP E.m n).bnl (getP E.m n).blks bD) := rfl
  have y0 : (bD (getB' (getP E.m n) b))[0]? = some (seqD (getB' (getP E.m n) b).inl (getB' (getP E.m n) b).ins iD) := rfl
  have y1 : (bD (getB' (getP E.m n) b))[1]? = some (.int .i64 (getB' (getP E.m n) b).fin) := rfl
  have y2 : (bD (getB' (getP E.m n) b))[2]? = some (.int .i64 (getB' (getP E.m n) b).a) := rfl
  have y3 : (bD (getB' (getP E.m n) b))[3]? = some (.int .i64 (getB' (getP E.m n) b).to) := rfl
  have y4 : (bD (getB' (getP E.m n) b))[4]? = some (.int .i64 (getB' (getP E.m n) b).els) := rfl
  have hl := seq_len (getB' (getP E.m n) b).inl (getB' (getP E.m n) b).ins iD
  have hend := end_of (hM.blk h.ok.n h.ok.b).2
  simp only at hend
  obtain ⟨A2, ⟨o2, regs2, s2, F2, hr, h2, hx2, hF2⟩ | ⟨hr, hs⟩⟩ := block19 (H := H) hE hM hI h1 hx1 hc hin hol hS hD
  rotate_left
  · refine ⟨A2, .inr (.inl ⟨?_, hs⟩)⟩
    generalize getB' (getP E.m n) b = B at *
    generalize bD B = BD at *
    generalize pD (getP E.m n) = PD at *
    unfold s19.l1 lp
    simp -implicitDefEqProofs [jp, p5, hix, hall, hst, jx, y0, hl, hr, bnd_eq]
  obtain ⟨D, rfl⟩ : ∃ D', D = D' + 2 := ⟨D - 2, by omega⟩
  have hFi := h2.hin
  have hFo := h2.hol
  have h40 := step40 (d := D) (H := H) h2.run (by omega)
  by_cases hz : F2 = 0
  · rw [if_pos hz, decide_eq_false (by simpa using hz)] at h40
    refine ⟨_, .inr (.inl ⟨?_, h2.dry hE hz⟩)⟩
    generalize getB' (getP E.m n) b = B at *
    generalize bD B = BD at *
    generalize pD (getP E.m n) = PD at *
    unfold s19.l1 lp
    simp -implicitDefEqProofs [jp, p5, hix, hall, hst, jx, y0, hl, hr, bnd_eq, h40]
  rw [if_neg hz, decide_eq_true hz] at h40
  obtain ⟨r3, f3, l3, k3⟩ := h2.steps hE hz
  have x3 := hx2.keep hE (Keep.set (X := R :: E.X) (A := A2) (o := o2) (j := E.ri) (c := some (E.cells s2 o2 0 (F2 - 1) (S.length + 1))) (by simp [Rn.X]))
  generalize A2.set E.ri (some (E.cells s2 o2 0 (F2 - 1) (S.length + 1))) = A3 at *
  have heq : c0 = play E.m E.inputs (F2 - 1) (if (getB' (getP E.m n) b).fin = 3 then retR E.m (retV (getB' (getP E.m n) b) regs2) S s2 else .go (⟨n, regs2, low, (nextB (getB' (getP E.m n) b) regs2).toNat, 0⟩ :: S) s2) := by
    rw [h2.eq]
    obtain ⟨F, rfl⟩ : ∃ F', F2 = F' + 1 := ⟨F2 - 1, by omega⟩
    simp only [play, stepR, if_pos, Nat.add_sub_cancel]
  have jx3 := join_of x3.at'
  have jf3 := join_of f3.frm
  have hcut : cut (frCells R (getP E.m n) low) 0 1 = some [.sl 0 R 0 (getP E.m n).regs.toNat 1] := rfl
  have hrl := h2.ok.regs.len
  simp only at hrl
  have mid : ∀ (b' : Nat), b' < (getP E.m n).blks.length → c0 = play E.m E.inputs (F2 - 1) (.go (⟨n, regs2, low, b', 0⟩ :: S) s2) → Mid E A0 o0 F0 s0 c0 S n low pi fi R A3 o2 regs2 s2 (F2 - 1) b' 0 := fun b' hb' he =>
    ⟨r3, f3, l3, k3, h2.hR, ⟨h2.ok.n, h2.ok.regs, hb', by simp, h2.ok.lo, h2.ok.hi⟩, by omega, by omega, by omega, he⟩
  rcases hend with ⟨e1, t0, t1⟩ | ⟨e1, t0, t1, l0, l1, a0, a1⟩ | ⟨e1, ha⟩
  · rw [e1, if_neg (by decide)] at heq
    have hnx : nextB (getB' (getP E.m n) b) regs2 = (getB' (getP E.m n) b).to := by simp [nextB, e1]
    rw [hnx] at heq
    obtain ⟨b', hb'⟩ : ∃ b' : Nat, (getB' (getP E.m n) b).to = b' := ⟨(getB' (getP E.m n) b).to.toNat, by omega⟩
    rw [hb', Int.toNat_natCast] at heq
    refine ⟨A3, .inl ⟨o2, regs2, s2, F2 - 1, b', ?_, mid b' (by omega) heq, by omega⟩⟩
    generalize getB' (getP E.m n) b = B at *
    generalize bD B = BD at *
    generalize pD (getP E.m n) = PD at *
    unfold s19.l1 lp
    simp -implicitDefEqProofs [jp, p5, hix, hall, hst, jx, y0, hl, hr, bnd_eq, h40, jx3, y3, y1, e1, abin_eql, hb']
  · rw [e1, if_neg (by decide)] at heq
    have g := get42 (d := D + 1) (H := H) (lim := 1) (k := (getB' (getP E.m n) b).a) f3.reg (show (getP E.m n).regs.toNat = regs2.length by omega) a0 (by omega)
    by_cases hzr : rg regs2 (getB' (getP E.m n) b).a = 0
    · have hnx : nextB (getB' (getP E.m n) b) regs2 = (getB' (getP E.m n) b).els := by simp [nextB, e1, hzr]
      rw [hnx] at heq
      obtain ⟨b', hb'⟩ : ∃ b' : Nat, (getB' (getP E.m n) b).els = b' := ⟨(getB' (getP E.m n) b).els.toNat, by omega⟩
      rw [hb', Int.toNat_natCast] at heq
      refine ⟨A3, .inl ⟨o2, regs2, s2, F2 - 1, b', ?_, mid b' (by omega) heq, by omega⟩⟩
      generalize getB' (getP E.m n) b = B at *
      generalize bD B = BD at *
      generalize pD (getP E.m n) = PD at *
      unfold s19.l1 lp
      simp -implicitDefEqProofs [jp, p5, hix, hall, hst, jx, y0, hl, hr, bnd_eq, h40, jx3, y1, y2, y3, y4, e1, abin_eql, hb', jf3, hcut, g, hzr]
    · have hnx : nextB (getB' (getP E.m n) b) regs2 = (getB' (getP E.m n) b).to := by simp [nextB, e1, hzr]
      rw [hnx] at heq
      obtain ⟨b', hb'⟩ : ∃ b' : Nat, (getB' (getP E.m n) b).to = b' := ⟨(getB' (getP E.m n) b).to.toNat, by omega⟩
      rw [hb', Int.toNat_natCast] at heq
      refine ⟨A3, .inl ⟨o2, regs2, s2, F2 - 1, b', ?_, mid b' (by omega) heq, by omega⟩⟩
      generalize getB' (getP E.m n) b = B at *
      generalize bD B = BD at *
      generalize pD (getP E.m n) = PD at *
      unfold s19.l1 lp
      simp -implicitDefEqProofs [jp, p5, hix, hall, hst, jx, y0, hl, hr, bnd_eq, h40, jx3, y1, y2, y3, y4, e1, abin_eql, hb', jf3, hcut, g, hzr]
  · rw [e1, if_pos rfl] at heq
    have j13 : (E.cells s2 o2 0 (F2 - 1) (S.length + 1))[13]? = some (vi (S.length + 1 : Nat)) := rfl
    have jr3 := join_of r3.run
    have hst2 := stA_leaf (lim := 1) (A := A3) (H := H) (i := E.ri) (o := 13) (v := vi S.length) (c := E.cells s2 o2 0 (F2 - 1) (S.length + 1)) (by decide) rfl jr3 (by simp [Rn.cells])
    have hce : (E.cells s2 o2 0 (F2 - 1) (S.length + 1)).set 13 (vi S.length) = E.cells s2 o2 0 (F2 - 1) S.length := rfl
    rw [hce] at hst2
    have hk4 := Keep.set (X := E.X) (A := A3) (o := o2) (j := E.ri) (c := some (E.cells s2 o2 0 (F2 - 1) S.length)) (by simp [Rn.X])
    have r4 := r3.cellsAt hE (e' := 0) (F' := F2 - 1) (dp' := S.length) (n' := s2.ins)
    have f4 := f3.keep hE hk4
    have x4 := x3.keep hE (hk4.mono (Y := R :: E.X) fun j hj => List.mem_cons_of_mem _ hj)
    have w : IntKind.i64.wrap (((S.length + 1 : Nat) : Int) - 1) = S.length := by rw [show ((S.length + 1 : Nat) : Int) - 1 = S.length by omega]; exact wrap_ok _ (by omega) (by omega)
    generalize ((S.length + 1 : Nat) : Int) = dq at *
    generalize A3.set E.ri (some (E.cells s2 o2 0 (F2 - 1) S.length)) = A4 at *
    have jx4 := join_of x4.at'
    have jf4 := join_of f4.frm
    refine ⟨A4, .inr (.inr ⟨retV (getB' (getP E.m n) b) regs2, ?_, o2, s2, F2 - 1, k3.trans hk4, by omega, by omega, by omega, r4, ?_, heq⟩)⟩
    · rcases ha with ha | ⟨a0, a1⟩
      · have hv : retV (getB' (getP E.m n) b) regs2 = 0 := by simp [retV, ha]
        rw [hv]
        generalize getB' (getP E.m n) b = B at *
        generalize bD B = BD at *
        generalize pD (getP E.m n) = PD at *
        unfold s19.l1 lp
        simp -implicitDefEqProofs [jp, p5, hix, hall, hst, jx, y0, hl, hr, bnd_eq, h40, jx3, y1, y2, y3, e1, abin_eql, jr3, j13, abin_sub, w, hst2, jx4, ha]
      · have g := get42 (d := D + 1) (H := H) (lim := 1) (k := (getB' (getP E.m n) b).a) f4.reg (show (getP E.m n).regs.toNat = regs2.length by omega) a0 (by omega)
        have hne : ¬ (getB' (getP E.m n) b).a = -1 := by omega
        have hv : retV (getB' (getP E.m n) b) regs2 = rg regs2 (getB' (getP E.m n) b).a := by simp [retV, hne]
        rw [hv]
        generalize getB' (getP E.m n) b = B at *
        generalize bD B = BD at *
        generalize pD (getP E.m n) = PD at *
        unfold s19.l1 lp
        simp -implicitDefEqProofs [jp, p5, hix, hall, hst, jx, y0, hl, hr, bnd_eq, h40, jx3, y1, y2, y3, e1, abin_eql, jr3, j13, abin_sub, w, hst2, jx4, hne, jf4, hcut, g]
    · unfold retV
      split
      · exact ⟨by decide, by decide⟩
      · exact rg_w h2.ok.regs.w _
/-- What is handed back by the loop over blocks. -/
theorem blks19 (hE : PlOk E) (hM : MdOk E.m) (hI : InOk E.inputs) (h : Mid E A0 o0 F0 s0 c0 S n low pi fi R A o regs s F 0 0)
    (hc : ∀ F', F' < F0 → CallOk E F') (hin : s0.ins + F0 < 100000) (hol : s0.out.length + F0 < 100000) (hS : S.length < 5000) {D : Nat} (hD : 3 * F0 + 9 ≤ D) :
    ∃ A', (iterN LB (s19.l1 (evCall Try.prog C D 1) 1) [.ptr 0 E.ri 0, .ptr 0 pi 0, .ptr 0 fi 0, vi 0] (A :: H) = some (.ret, [vw 0, vb false], A' :: H) ∧ Stopped E A0 o0 F0 s0 c0 A') ∨
      (∃ v, iterN LB (s19.l1 (evCall Try.prog C D 1) 1) [.ptr 0 E.ri 0, .ptr 0 pi 0, .ptr 0 fi 0, vi 0] (A :: H) = some (.ret, [vw v, vb true], A' :: H) ∧ Returned E A0 o0 F0 s0 c0 S v A') := by
  have hFF := h.hF
  have hFi := h.hin
  have key : Gives (iterN LB (s19.l1 (evCall Try.prog C D 1) 1) [.ptr 0 E.ri 0, .ptr 0 pi 0, .ptr 0 fi 0, vi 0] (A :: H)) (fun r => ∃ A', (r = (.ret, [vw 0, vb false], A' :: H) ∧ Stopped E A0 o0 F0 s0 c0 A') ∨ ∃ v, r = (.ret, [vw v, vb true], A' :: H) ∧ Returned E A0 o0 F0 s0 c0 S v A') := by
    refine iter_gives (Inv := fun k st H' => ∃ A' o' regs' s' F' b', st = [.ptr 0 E.ri 0, .ptr 0 pi 0, .ptr 0 fi 0, vi (b' : Nat)] ∧ H' = A' :: H ∧ Mid E A0 o0 F0 s0 c0 S n low pi fi R A' o' regs' s' F' b' 0 ∧ F' + k ≤ F) F (big_lt (by omega)) (fun k hk st H' hv => ?_) ⟨A, o, regs, s, F, 0, rfl, rfl, h, by omega⟩
    obtain ⟨A1, o1, regs1, s1, F1, b1, rfl, rfl, h1, hF1⟩ := hv
    obtain ⟨A', ⟨o', regs', s', F', b', hr, hm, hF⟩ | ⟨hr, hs⟩ | ⟨v, hr, hs⟩⟩ := blk19 (H := H) hE hM hI h1 hc hin hol hS hD
    · exact .inl ⟨_, _, by omega, hr, A', o', regs', s', F', b', rfl, rfl, hm, by omega⟩
    · exact .inr ⟨_, hr, by simp, A', .inl ⟨rfl, hs⟩⟩
    · exact .inr ⟨_, hr, by simp, A', .inr ⟨v, rfl, hs⟩⟩
  obtain ⟨r, hr, A', ⟨rfl, hs⟩ | ⟨v, rfl, hs⟩⟩ := key
  · exact ⟨A', .inl ⟨hr, hs⟩⟩
  · exact ⟨A', .inr ⟨v, hr, hs⟩⟩
theorem call19 (hE : PlOk E) (hM : MdOk E.m) (hI : InOk E.inputs) : ∀ F, CallOk E F := by
  intro F
  induction F using Nat.strongRecOn with
  | ind F ih =>
  intro D A H s o S n args av top hD h hn ha hw hav ht0 ht1 hin hol hS
  obtain ⟨D, rfl⟩ : ∃ D', D = D' + 3 := ⟨D - 3, by omega⟩
  rw [evCall_inEq (fi := fi19) rfl rfl (b19 _ _ _ _ _ _ _)]
  unfold s19
  obtain ⟨q, qs, rr⟩ := seq_row (nl := E.m.pnl) (f := pD) (s := 6) (fun _ => rfl) (getP_of hn)
  have hix := rr.ix
  have hall := rr.all
  have jr := join_of h.run
  have c2 : (E.cells s o 0 F S.length)[2]? = some (.d (seqD E.m.pnl E.m.procs pD)) := rfl
  have hst := stA_new (n := 6) (lim := 1) (A := A) (H := H) (cs := (pD (getP E.m n)).map .d) (c := [.d (.str ⟨#[]⟩), .d (.bool false), .d (.int .i64 0), .d (.int .i64 0), .d (.seq true 0 []), .d (.seq true 0 [])]) (by decide) (all_leaf_d _) rfl rfl
  have h1 := h.push hE [some ((pD (getP E.m n)).map AV.d)]
  have hp1 : (A ++ [some ((pD (getP E.m n)).map AV.d)])[A.length]? = some (some ((pD (getP E.m n)).map AV.d)) := by simp
  have hk1 := Keep.push E.X A [some ((pD (getP E.m n)).map AV.d)] o
  have hob := h.out.blk (Nat.le_refl A.length)
  have hav1 := hav.more [some ((pD (getP E.m n)).map AV.d)]
  have hlen1 : (A ++ [some ((pD (getP E.m n)).map AV.d)]).length = A.length + 1 := by simp
  generalize A ++ [some ((pD (getP E.m n)).map AV.d)] = A1 at *
  have hpl : evCall Try.prog C (D + 2) 1 14 [.d (seqD (getP E.m n).onl (getP E.m n).objs sD)] (A1 :: H) = some (.tup [plV (getP E.m n).objs, vi (longP (getP E.m n))], A1 :: H) := place14 (d := D) (hM.small hn)
  have hrg := hM.regs hn
  have hlg := long_ok hM hn
  have heg := endG_ok hM
  have hmk := mkS_one (z := vw 0) (bytes := 4) (A := A1) (H := H) (n := (getP E.m n).regs) (by omega) (by omega) (by omega)
  have jp1 := join_of hp1
  have h2 := h1.push hE [some (List.replicate (getP E.m n).regs.toNat (vw 0))]
  have hk2 := hk1.trans (Keep.push E.X A1 [some (List.replicate (getP E.m n).regs.toNat (vw 0))] o)
  have hR2 : (A1 ++ [some (List.replicate (getP E.m n).regs.toNat (vw 0))])[A1.length]? = some (some (List.replicate (getP E.m n).regs.toNat (vw 0))) := by simp
  have hp2 : (A1 ++ [some (List.replicate (getP E.m n).regs.toNat (vw 0))])[A.length]? = some (some ((pD (getP E.m n)).map AV.d)) := by rw [List.getElem?_append_left (by omega)]; exact hp1
  have hav2 := hav1.more [some (List.replicate (getP E.m n).regs.toNat (vw 0))]
  have hlen2 : (A1 ++ [some (List.replicate (getP E.m n).regs.toNat (vw 0))]).length = A.length + 2 := by simp [hlen1]
  generalize A1 ++ [some (List.replicate (getP E.m n).regs.toNat (vw 0))] = A2 at *
  have jp2 := join_of hp2
  have hcut := cut_data (r := pD (getP E.m n)) (n := 6) rfl
  have w1 := wrap_ok (top - longP (getP E.m n)) (by omega) (by omega)
  have hbld1 : bld [(0, 1)] [.d (.seq true 0 [])] [(0, .sl 0 A1.length 0 (getP E.m n).regs.toNat 1)] = some (.agg [.sl 0 A1.length 0 (getP E.m n).regs.toNat 1]) := rfl
  have hbld2 : bld [(0, 1), (1, 6), (7, 1), (8, 1)] [.d (.seq true 0 []), .d (.str ⟨#[]⟩), .d (.bool false), .d (.int .i64 0), .d (.int .i64 0), .d (.seq true 0 []), .d (.seq true 0 []), .d (.seq true 0 []), .d (.int .i64 0)]
      [(0, .agg [.sl 0 A1.length 0 (getP E.m n).regs.toNat 1]), (1, .agg ((pD (getP E.m n)).map .d)), (2, plV (getP E.m n).objs), (3, vi (top - longP (getP E.m n)))] = some (.agg (frCells A1.length (getP E.m n) (top - longP (getP E.m n)))) := by
    obtain ⟨x, hx⟩ := plV_d (getP E.m n).objs
    unfold frCells
    rw [hx]
    rfl
  have hbx := bx_agg (cs := frCells A1.length (getP E.m n) (top - longP (getP E.m n))) (A := A2) (H := H) (by obtain ⟨x, hx⟩ := plV_d (getP E.m n).objs; unfold frCells; rw [hx]; rfl)
  have h3 := h2.push hE [some (frCells A1.length (getP E.m n) (top - longP (getP E.m n)))]
  have hk3 := hk2.trans (Keep.push E.X A2 [some (frCells A1.length (getP E.m n) (top - longP (getP E.m n)))] o)
  have hf3 : (A2 ++ [some (frCells A1.length (getP E.m n) (top - longP (getP E.m n)))])[A2.length]? = some (some (frCells A1.length (getP E.m n) (top - longP (getP E.m n)))) := by simp
  have hR3 : (A2 ++ [some (frCells A1.length (getP E.m n) (top - longP (getP E.m n)))])[A1.length]? = some (some (List.replicate (getP E.m n).regs.toNat (vw 0))) := by rw [List.getElem?_append_left (by omega)]; exact hR2
  have hp3 : (A2 ++ [some (frCells A1.length (getP E.m n) (top - longP (getP E.m n)))])[A.length]? = some (some ((pD (getP E.m n)).map AV.d)) := by rw [List.getElem?_append_left (by omega)]; exact hp2
  have hav3 := hav2.more [some (frCells A1.length (getP E.m n) (top - longP (getP E.m n)))]
  have hlen3 : (A2 ++ [some (frCells A1.length (getP E.m n) (top - longP (getP E.m n)))]).length = A.length + 3 := by simp [hlen2]
  generalize A2 ++ [some (frCells A1.length (getP E.m n) (top - longP (getP E.m n)))] = A3 at *
  have jr3 := join_of h3.run
  have jf3 := join_of hf3
  have f8 : (frCells A1.length (getP E.m n) (top - longP (getP E.m n)))[8]? = some (vi (top - longP (getP E.m n))) := rfl
  have f0 : (frCells A1.length (getP E.m n) (top - longP (getP E.m n)))[0]? = some (.sl 0 A1.length 0 (getP E.m n).regs.toNat 1) := rfl
  have c6 : (E.cells s o 0 F S.length)[6]? = some (vi (endG E.m)) := rfl
  have c13 : (E.cells s o 0 F S.length)[13]? = some (vi S.length) := rfl
  have p3 : (pD (getP E.m n))[3]? = some (.int .i64 (getP E.m n).regs) := rfl
  have p4 : (pD (getP E.m n))[4]? = some (seqD (getP E.m n).onl (getP E.m n).objs sD) := rfl
  by_cases hfull : top - longP (getP E.m n) < endG E.m ∨ 5000 ≤ S.length
  · have hent : entR E.m n args top S s = .stop 8 s := by unfold entR; rw [if_pos hfull]
    have h39 := stop39 (d := D + 1) (H := H) (e' := 8) h3
    refine ⟨_, o, 0, false, s, F, 8, S.length, ?_, hk3.trans (Keep.set (j := E.ri) (by simp [Rn.X])), Nat.le_refl _, Nat.le_refl _, Nat.le_refl _, h3.cellsAt hE (e' := 8) (F' := F) (dp' := S.length) (n' := s.ins), fun e => (by cases e), fun _ => ?_⟩
    · generalize pD (getP E.m n) = PD at *
      by_cases c : top - longP (getP E.m n) < endG E.m
      · simp -implicitDefEqProofs [jr, c2, hix, hall, hst, jp1, p4, hpl, p3, hmk, hbld1, jp2, hcut, abin_sub, w1, hbld2, hbx, jf3, f8, jr3, c6, abin_lss, c, h39]
      · have hS5 : (S.length : Int) = 5000 := by omega
        simp -implicitDefEqProofs [jr, c2, hix, hall, hst, jp1, p4, hpl, p3, hmk, hbld1, jp2, hcut, abin_sub, w1, hbld2, hbx, jf3, f8, jr3, c6, abin_lss, c, c13, abin_eql, hS5, h39]
    · rw [hent]
      cases F <;> rfl
  · have hc : ¬ (top - longP (getP E.m n) < endG E.m) := fun e => hfull (.inl e)
    have hS5 : ¬ ((S.length : Int) = 5000) := by omega
    have hent : entR E.m n args top S s = .go (⟨n, newRegs (getP E.m n) args, top - longP (getP E.m n), 0, 0⟩ :: S) s := by unfold entR; rw [if_neg hfull]
    have hcpy := cpy_here (H := H) (k := args.length) (cs := args.map vw) hR3 (by simp [leaf_d]) (by simp) (show args.length ≤ (getP E.m n).regs.toNat by omega) (by simp)
    have hnr : args.map vw ++ (List.replicate (getP E.m n).regs.toNat (vw 0)).drop args.length = (newRegs (getP E.m n) args).map vw := by simp [newRegs]
    rw [hnr] at hcpy
    have hel := elS_out (H := H) hav3
    have h4 := h3.setReg hE (some ((newRegs (getP E.m n) args).map vw)) (show E.k0 ≤ A1.length by have := h.k0; omega) (h.out.blk (by omega))
    have hkk : Keep (A1.length :: E.X) A3 (A3.set A1.length (some ((newRegs (getP E.m n) args).map vw))) o o := Keep.set (by simp)
    have hk4 := hk3.under hkk (by omega)
    have hR4 : (A3.set A1.length (some ((newRegs (getP E.m n) args).map vw)))[A1.length]? = some (some ((newRegs (getP E.m n) args).map vw)) := by rw [List.getElem?_set_self (by omega)]
    have hp4 : (A3.set A1.length (some ((newRegs (getP E.m n) args).map vw)))[A.length]? = some (some ((pD (getP E.m n)).map AV.d)) := by rw [List.getElem?_set_ne (by omega)]; exact hp3
    have hf4 : (A3.set A1.length (some ((newRegs (getP E.m n) args).map vw)))[A2.length]? = some (some (frCells A1.length (getP E.m n) (top - longP (getP E.m n)))) := by rw [List.getElem?_set_ne (by omega)]; exact hf3
    generalize A3.set A1.length (some ((newRegs (getP E.m n) args).map vw)) = A4 at *
    have jr4 := join_of h4.run
    have w2 : IntKind.i64.wrap ((S.length : Int) + 1) = ((S.length + 1 : Nat) : Int) := wrap_ok _ (by omega) (by omega)
    have hst5 := stA_leaf (lim := 1) (A := A4) (H := H) (i := E.ri) (o := 13) (v := vi ((S.length + 1 : Nat) : Int)) (c := E.cells s o 0 F S.length) (by decide) rfl jr4 (by simp [Rn.cells])
    have hce : (E.cells s o 0 F S.length).set 13 (vi ((S.length + 1 : Nat) : Int)) = E.cells s o 0 F (S.length + 1) := rfl
    rw [hce] at hst5
    have hk5s := Keep.set (X := E.X) (A := A4) (o := o) (j := E.ri) (c := some (E.cells s o 0 F (S.length + 1))) (by simp [Rn.X])
    have h5 := h4.cellsAt hE (e' := 0) (F' := F) (dp' := S.length + 1) (n' := s.ins)
    have hk0 := h.k0
    have f4 : FrAt E A4 o (getP E.m n) A2.length A1.length (newRegs (getP E.m n) args) (top - longP (getP E.m n)) := ⟨hf4, hR4, by omega, by omega, by omega, h.out.blk (by omega), h.out.blk (by omega)⟩
    have l4 : Loc E A4 o A1.length A.length ((pD (getP E.m n)).map AV.d) := ⟨hp4, hk0, by omega, hob⟩
    have f5 := f4.keep hE hk5s
    have l5 := l4.keep hE (hk5s.mono (Y := A1.length :: E.X) fun j hj => List.mem_cons_of_mem _ hj)
    generalize A4.set E.ri (some (E.cells s o 0 F (S.length + 1))) = A5 at *
    have hmid : Mid E A o F s (play E.m E.inputs F (entR E.m n args top S s)) S n (top - longP (getP E.m n)) A.length A2.length A1.length A5 o (newRegs (getP E.m n) args) s F 0 0 :=
      ⟨h5, f5, l5, hk4.trans hk5s, by omega, newFr_ok hM hn ha hw ht1 (by omega), Nat.le_refl _, Nat.le_refl _, Nat.le_refl _, by rw [hent]⟩
    have hic : ((S.length + 1 : Nat) : Int) = (S.length : Int) + 1 := by omega
    generalize ((S.length + 1 : Nat) : Int) = dq at *
    obtain ⟨A6, ⟨hr, o6, s6, F6, e6, dp6, q1, q2, q3, q4, q5, q6⟩ | ⟨v, hr, o6, s6, F6, q1, q2, q3, q4, q5, q6, q7⟩⟩ := blks19 (H := H) hE hM hI hmid ih hin hol (by omega) (D := D + 2) (by omega)
    · refine ⟨A6, o6, 0, false, s6, F6, e6, dp6, ?_, q1, q2, q3, q4, q5, fun e => (by cases e), fun _ => q6⟩
      generalize pD (getP E.m n) = PD at *
      unfold lp
      simp -implicitDefEqProofs [jr, c2, hix, hall, hst, jp1, p4, hpl, p3, hmk, hbld1, jp2, hcut, abin_sub, w1, hbld2, hbx, jf3, f8, f0, jr3, c6, abin_lss, hc, c13, abin_eql, hS5, hel, hcpy, jr4, abin_add, w2, hst5, hr, bnd_eq]
    · refine ⟨A6, o6, v, true, s6, F6, 0, S.length, ?_, q1, q2, q3, q4, q5, fun _ => ⟨rfl, rfl, q6, q7⟩, fun e => (by cases e)⟩
      generalize pD (getP E.m n) = PD at *
      unfold lp
      simp -implicitDefEqProofs [jr, c2, hix, hall, hst, jp1, p4, hpl, p3, hmk, hbld1, jp2, hcut, abin_sub, w1, hbld2, hbx, jf3, f8, f0, jr3, c6, abin_lss, hc, c13, abin_eql, hS5, hel, hcpy, jr4, abin_add, w2, hst5, hr, bnd_eq]
end
end Go.Ev.Try

/- The program's run of a module. -/
set_option maxRecDepth 100000
namespace Go.Ev.Try
open Go Go.Ev Go.Proofs
/-- The first bytes of the memory: the data of the first globals. -/
def putAt (mem : List Int) (at' : Nat) (bs : List Int) : List Int := mem.take at' ++ bs ++ mem.drop (at' + bs.length)
def datK (m : Mdl) (k : Nat) : List Int := ((m.datas[k]?).map (·.2)).getD []
def memG (m : Mdl) : Nat → List Int
  | 0 => List.replicate 65536 0
  | k + 1 => putAt (memG m k) (4096 + plAt m.globs k).toNat (datK m k)
def run0 (m : Mdl) : Ms := ⟨memG m m.globs.length, [], 0⟩
/-- What comes of a module. -/
def runO (m : Mdl) (inputs : List Int) (fuel : Int) : Outc :=
  if modE m ≠ 0 then ⟨[], 0, 0, modE m⟩
  else if 65536 < endG m then ⟨[], 0, 0, 8⟩
  else play m inputs fuel.toNat (entR m m.main.toNat [] 65536 [] (run0 m))
theorem plAt_mono {L : List Slt} (h : ∀ s ∈ L, 0 ≤ s.size ∧ s.size ≤ 40000) {j k : Nat} (hjk : j ≤ k) : plAt L j ≤ plAt L k := by
  induction k with
  | zero =>
    have h0 : j = 0 := by omega
    rw [h0]
    exact Int.le_refl _
  | succ k ih =>
    rcases Nat.lt_or_ge j (k + 1) with hlt | hge
    · have h1 := ih (by omega)
      have h2 := sizeAt_ok h k
      have h3 : plAt L (k + 1) = up4 (plAt L k + sizeAt L k) := rfl
      rw [h3]
      unfold up4
      omega
    · have h0 : j = k + 1 := by omega
      rw [h0]
      exact Int.le_refl _
section
variable {m : Mdl}
theorem datK_len (hM : MdOk m) {k : Nat} (hk : k < m.globs.length) : ((datK m k).length : Int) = sizeAt m.globs k := by
  have h1 := hM.data k (by rw [hM.dlen]; exact hk)
  rw [← h1]
  unfold datK dataLen
  cases m.datas[k]? <;> rfl
theorem datK_fit (hM : MdOk m) {k : Nat} (hk : k < m.globs.length) : 4096 + plAt m.globs k + (datK m k).length ≤ endG m := by
  rw [datK_len hM hk]
  have h2 := plAt_mono hM.smallG.2 (show k + 1 ≤ m.globs.length by omega)
  have h3 : plAt m.globs (k + 1) = up4 (plAt m.globs k + sizeAt m.globs k) := rfl
  rw [h3] at h2
  unfold endG
  unfold up4 at h2
  omega
theorem memG_len (hM : MdOk m) (he : endG m ≤ 65536) : ∀ k, k ≤ m.globs.length → (memG m k).length = 65536 := by
  intro k
  induction k with
  | zero => intro _; exact List.length_replicate
  | succ k ih =>
    intro hk
    have h1 := ih (by omega)
    have h2 := datK_fit hM (show k < m.globs.length by omega)
    have h3 := plAt_ok hM.smallG.2 k
    simp only [memG, putAt, List.length_append, List.length_take, List.length_drop, h1]
    omega
theorem memG_byte (hM : MdOk m) : ∀ k, ∀ x ∈ memG m k, 0 ≤ x ∧ x < 256 := by
  intro k
  induction k with
  | zero =>
    intro x hx
    simp only [memG, List.mem_replicate] at hx
    omega
  | succ k ih =>
    intro x hx
    simp only [memG, putAt, List.mem_append] at hx
    rcases hx with (hx | hx) | hx
    · exact ih x (List.mem_of_mem_take hx)
    · unfold datK at hx
      cases hd : m.datas[k]? with
      | none => rw [hd] at hx; simp at hx
      | some y =>
        rw [hd] at hx
        exact hM.byte y (List.mem_of_getElem? hd) x hx
    · exact ih x (List.mem_of_mem_drop hx)
theorem run0_ok (hM : MdOk m) (he : endG m ≤ 65536) : MsOk (run0 m) := ⟨memG_len hM he _ (Nat.le_refl _), memG_byte hM _⟩
theorem wD_map (l : List Int) : l.flatMap wD = l.map (D.int .u32) := by
  induction l with
  | nil => rfl
  | cons y l ih => rw [List.flatMap_cons, ih]; rfl
theorem byD_map (l : List Int) : l.flatMap byD = l.map (D.int .u8) := by
  induction l with
  | nil => rfl
  | cons y l ih => rw [List.flatMap_cons, ih]; rfl
theorem out_leave {k0 : Nat} {A : Arena} {o : AV} {l : List Int} (h : OutAt k0 A o (l.map vw) l.length 1) : ∃ x, AV.leave A o = some (.d (seqD x l wD)) := by
  have hf := wD_map l
  have hm : l.map vw = (l.map (D.int .u32)).map AV.d := by simp
  rw [hm] at h
  by_cases hn : l.length = 0
  · obtain rfl : l = [] := List.length_eq_zero_iff.1 hn
    simp only [List.map_nil, List.length_nil] at h
    generalize hc : ([] : List AV) = cs at h
    generalize hz : 0 = z at h
    cases h with
    | nil => exact ⟨true, leave_d _ _⟩
    | row hb hA hl =>
      subst hz hc
      exact ⟨false, leave_row (c := []) (by rw [hA]; rfl) rfl⟩
  · exact ⟨false, by rw [h.leave hn]; unfold seqD; rw [hf]⟩
theorem and255 {v : Int} (h : W v) (t : TypeId) : abin Try.prog .and t (vw v) (vw 255) = some (vw (v % 256)) := by
  rw [abin_and]
  obtain ⟨h0, h1⟩ := h
  obtain ⟨v, rfl⟩ : ∃ n : Nat, v = n := ⟨v.toNat, by omega⟩
  have key : ∀ y : Nat, y < 4294967296 → (BitVec.ofInt IntKind.u32.bits (y : Int)).toNat = y := by
    intro y hy
    show (BitVec.ofInt 32 (y : Int)).toNat = y
    rw [BitVec.ofInt_natCast, BitVec.toNat_ofNat]
    omega
  have e : andW v 255 = (v : Int) % 256 := by
    unfold andW
    have k2 := key 255 (by decide)
    rw [BitVec.toNat_and, key v (by omega), show (255 : Int) = ((255 : Nat) : Int) from rfl, k2]
    have : v &&& 255 = v % 256 := Nat.and_two_pow_sub_one_eq_mod v 8
    rw [this, wrap_u]
    omega
  rw [e]
/-- The cells of a run that begins. -/
def cells0 (m : Mdl) (inl : Bool) (inputs : List Int) (mem at' : AV) (en F : Int) : List AV :=
  [.d (seqD m.gnl m.globs sD), .d (seqD m.dnl m.datas yD), .d (seqD m.pnl m.procs pD), vi m.main, mem, at', vi en, .d (seqD inl inputs wD), .d (.seq true 0 []), vi 0, vw 0, vi 0, vi F, vi 0]
def outZ : List AV := [.d (.seq true 0 []), vi 0, vw 0, vi 0]
def byteD (n : Int) : D := .int .u8 n
theorem cpy_at {A : Arena} {H : Heap} {R x m k : Nat} {c cs : List AV} (hA : A[R]? = some (some c)) (hc : cs.all AV.leaf = true) (hk : cs.length = k) (hm : k ≤ m) (hl : x + k ≤ c.length) :
    cpy 1 1 (A :: H) (.sl 0 R x m 1) (some (k, cs)) = some (vi k, A.set R (some (c.take x ++ cs ++ c.drop (x + k))) :: H) := by
  have e1 : min k m = k := by omega
  have e2 : cs.take (k * 1) = cs := by simp [← hk]
  have e3 : setMany c x cs = c.take x ++ cs ++ c.drop (x + k) := by
    rw [setMany_eq _ _ _ (by omega)]
    simp [hk]
  have e4 : Nat.ble (x + cs.length) c.length = true := Nat.ble_eq_true_of_le (by omega)
  simp only [cpy, Option.bind_some, e1, e2, downN_zero, getB_zero, join_of hA, hc, cond_true, e4, e3, setB_zero]
  rfl
variable {m : Mdl}
/-- The globals are laid. -/
theorem lay10 (hM : MdOk m) (he : endG m ≤ 65536) {inl : Bool} {inputs : List Int} {F : Int} {H : Heap} {call : ACall} {A : Arena} (a0 : A[0]? = some (some ((mD m).map .d))) (a1 : A[1]? = some (some outZ))
    (a2 : A[2]? = some (some (cells0 m inl inputs (.sl 0 3 0 65536 1) (.d (.seq true 0 [])) (endG m) F))) (a3 : A[3]? = some (some ((memG m 0).map vy))) :
    Gives (iterN LB (s10.l0 call 1) [.ptr 0 0 0, .ptr 0 1 0, .ptr 0 2 0, plV m.globs, vi m.globs.length, vi 0] (A :: H)) (fun r => ∃ A' v, r = (.exit 0, [.ptr 0 0 0, .ptr 0 1 0, .ptr 0 2 0], A' :: H) ∧
      A'[0]? = some (some ((mD m).map .d)) ∧ A'[1]? = some (some outZ) ∧ A'[2]? = some (some (cells0 m inl inputs (.sl 0 3 0 65536 1) v (endG m) F)) ∧ A'[3]? = some (some ((memG m m.globs.length).map vy)) ∧
      OutAt 4 A' v ((List.range m.globs.length).map fun k => vi (4096 + plAt m.globs k)) m.globs.length 1) := by
  have h20 := hM.few.globs
  refine iter_gives (Inv := fun k st H' => ∃ A' v, st = [.ptr 0 0 0, .ptr 0 1 0, .ptr 0 2 0, plV m.globs, vi m.globs.length, vi k] ∧ H' = A' :: H ∧
      A'[0]? = some (some ((mD m).map .d)) ∧ A'[1]? = some (some outZ) ∧ A'[2]? = some (some (cells0 m inl inputs (.sl 0 3 0 65536 1) v (endG m) F)) ∧ A'[3]? = some (some ((memG m k).map vy)) ∧
      OutAt 4 A' v ((List.range k).map fun k => vi (4096 + plAt m.globs k)) k 1) m.globs.length (big_lt (by omega)) (fun k hk st H' h => ?_) ⟨A, _, rfl, rfl, a0, a1, a2, a3, .nil 1⟩
  obtain ⟨A', v, rfl, rfl, b0, b1, b2, b3, ho⟩ := h
  rcases Nat.lt_or_ge k m.globs.length with hlt | hge
  · left
    have hi : (k : Int) < m.globs.length := by omega
    obtain ⟨q, hq1, hq2⟩ := plV_read hlt
    have hp := plAt_ok hM.smallG.2 k
    have hfit := datK_fit hM hlt
    have w1 := wrap_ok (4096 + plAt m.globs k) (by omega) (by omega)
    have w2 := wrap_ok ((k : Int) + 1) (by omega) (by omega)
    have hbl := bldS_onev (z := vi 0) (v := vi (4096 + plAt m.globs k)) (A := A') (H := H) rfl
    have h3l := lt_of_get b3
    obtain ⟨v', A2, happ, ho2, hle2, hs2⟩ := ho.append (H := H) (bytes := 8) (lim := 1) (cs := [vi (4096 + plAt m.globs k)]) (by omega) (by decide) rfl rfl (by omega) (by omega)
    have d0 : A2[0]? = some (some ((mD m).map .d)) := by rw [hs2 0 (by omega)]; exact b0
    have d1 : A2[1]? = some (some outZ) := by rw [hs2 1 (by omega)]; exact b1
    have d2 : A2[2]? = some (some (cells0 m inl inputs (.sl 0 3 0 65536 1) v (endG m) F)) := by rw [hs2 2 (by omega)]; exact b2
    have d3 : A2[3]? = some (some ((memG m k).map vy)) := by rw [hs2 3 (by omega)]; exact b3
    have hst := stA_leaf (lim := 1) (A := A2) (H := H) (i := 2) (o := 5) (v := v') (c := cells0 m inl inputs (.sl 0 3 0 65536 1) v (endG m) F) (by decide) ho2.leaf (join_of d2) (by simp [cells0])
    have hce : (cells0 m inl inputs (.sl 0 3 0 65536 1) v (endG m) F).set 5 v' = cells0 m inl inputs (.sl 0 3 0 65536 1) v' (endG m) F := rfl
    rw [hce] at hst
    have l2 := lt_of_get d2
    have e0 : (A2.set 2 (some (cells0 m inl inputs (.sl 0 3 0 65536 1) v' (endG m) F)))[0]? = some (some ((mD m).map .d)) := by rw [List.getElem?_set_ne (by omega)]; exact d0
    have e1 : (A2.set 2 (some (cells0 m inl inputs (.sl 0 3 0 65536 1) v' (endG m) F)))[1]? = some (some outZ) := by rw [List.getElem?_set_ne (by omega)]; exact d1
    have e2 : (A2.set 2 (some (cells0 m inl inputs (.sl 0 3 0 65536 1) v' (endG m) F)))[2]? = some (some (cells0 m inl inputs (.sl 0 3 0 65536 1) v' (endG m) F)) := by rw [List.getElem?_set_self l2]
    have e3 : (A2.set 2 (some (cells0 m inl inputs (.sl 0 3 0 65536 1) v' (endG m) F)))[3]? = some (some ((memG m k).map vy)) := by rw [List.getElem?_set_ne (by omega)]; exact d3
    have ho3 := ho2.move (A' := A2.set 2 (some (cells0 m inl inputs (.sl 0 3 0 65536 1) v' (endG m) F))) fun j _ hj _ => List.getElem?_set_ne (by omega)
    generalize A2.set 2 (some (cells0 m inl inputs (.sl 0 3 0 65536 1) v' (endG m) F)) = A3 at *
    obtain ⟨x, hx⟩ : ∃ x : Nat, 4096 + plAt m.globs k = x := ⟨(4096 + plAt m.globs k).toNat, by omega⟩
    rw [hx] at w1 hbl happ hfit
    have hsl : slS 1 (.sl 0 3 0 65536 1) (some (vi x)) none = some (.sl 0 3 x (65536 - x) 1) := by
      have hb : inB (vi x) (65536 + 1) = some x := inB_nat (by omega)
      simp only [slS, bounds, Option.bind_some, hb, Option.map_some, Nat.zero_add, Nat.mul_one]
      rfl
    obtain ⟨y, hy⟩ : ∃ y, m.datas[k]? = some y := ⟨_, List.getElem?_eq_getElem (by rw [hM.dlen]; exact hlt)⟩
    have hyk : datK m k = y.2 := by unfold datK; rw [hy]; rfl
    obtain ⟨q2, hr1, hr2⟩ := seq_one (nl := m.dnl) (f := fun z : Bool × List Int => seqD z.1 z.2 byD) hy
    have hr1' : ixS 1 (.d (seqD m.dnl m.datas yD)) (vi k) = some q2 := hr1
    have hfm : y.2.flatMap byD = y.2.map byteD := byD_map _
    have hel : ∀ H, elS 1 H (.d (seqD y.1 y.2 byD)) = some (y.2.length, (y.2.map byteD).map .d) := fun H => by unfold seqD; rw [hfm, elS_d (by simp)]
    have hcp := cpy_at (A := A3) (H := H) (R := 3) (x := x) (m := 65536 - x) (k := y.2.length) (cs := (y.2.map byteD).map .d) e3 (all_leaf_d _) (by simp) (by rw [hyk] at hfit; omega) (by rw [hyk] at hfit; rw [List.length_map, memG_len hM he k (by omega)]; omega)
    have hmem : (((memG m k).map vy).take x ++ (y.2.map byteD).map .d ++ ((memG m k).map vy).drop (x + y.2.length)) = (memG m (k + 1)).map vy := by
      simp [memG, putAt, hx, hyk, byteD, Function.comp_def]
    rw [hmem] at hcp
    simp only [List.map_map] at hel hcp
    have g5 : ((cells0 m inl inputs (.sl 0 3 0 65536 1) v (endG m) F))[5]? = some v := rfl
    have g4 : ((cells0 m inl inputs (.sl 0 3 0 65536 1) v' (endG m) F))[4]? = some (.sl 0 3 0 65536 1) := rfl
    have g1 : (mD m)[1]? = some (seqD m.dnl m.datas yD) := rfl
    have jb2 := join_of b2
    have je2 := join_of e2
    have je0 := join_of e0
    have hl3 := lt_of_get e3
    refine ⟨[.ptr 0 0 0, .ptr 0 1 0, .ptr 0 2 0, plV m.globs, vi m.globs.length, vi (k + 1 : Nat)], A3.set 3 (some ((memG m (k + 1)).map vy)) :: H, hlt, ?_, A3.set 3 (some ((memG m (k + 1)).map vy)), v', rfl, rfl, by rw [List.getElem?_set_ne (by omega)]; exact e0, by rw [List.getElem?_set_ne (by omega)]; exact e1,
      by rw [List.getElem?_set_ne (by omega)]; exact e2, by rw [List.getElem?_set_self hl3], ?_⟩
    · generalize mD m = MD at *
      generalize cells0 m inl inputs (.sl 0 3 0 65536 1) v (endG m) F = C1 at *
      generalize cells0 m inl inputs (.sl 0 3 0 65536 1) v' (endG m) F = C2 at *
      generalize memG m k = M1 at *
      generalize memG m (k + 1) = M2 at *
      unfold s10.l0
      simp -implicitDefEqProofs [abin_lss, hi, hq1, hq2, jb2, g5, abin_add, hx, w1, hbl, happ, hst, je2, g4, hsl, je0, g1, hr1', hr2, hel, hcp, w2]
    · rw [List.range_succ, List.map_append]
      exact ho3.move fun j _ hj _ => List.getElem?_set_ne (by omega)
  · right
    obtain rfl : k = m.globs.length := by omega
    refine ⟨_, ?_, ?_, A', v, rfl, b0, b1, b2, b3, ho⟩
    · unfold s10.l0
      simp -implicitDefEqProofs [abin_lss]
    · simp
end
end Go.Ev.Try

/- The program's run of a module, whole. -/
set_option maxRecDepth 100000
namespace Go.Ev.Try
open Go Go.Ev Go.Proofs
section
variable {d lim : Nat} {H : Heap} {m : Mdl}
def mainP (m : Mdl) (inputs : List Int) (F : Nat) : Outc := play m inputs F (entR m m.main.toNat [] 65536 [] (run0 m))
theorem runO_ok {inputs : List Int} {fuel : Int} (h0 : modE m = 0) (h1 : endG m ≤ 65536) : runO m inputs fuel = mainP m inputs fuel.toNat := by
  unfold runO mainP
  rw [if_neg (by simp [h0]), if_neg (by omega)]
theorem amax_i (a b : Int) : amax (vi a) (vi b) = some (vi (if b > a then b else a)) := rfl
theorem amin_i (a b : Int) : amin (vi a) (vi b) = some (vi (if b < a then b else a)) := rfl
theorem mdl_lens (hM : MdOk m) : m.main = (m.main.toNat : Int) := by have := hM.main0; omega
/-- The cells that an outcome has in the run's own cells. -/
def oCells (s : Ms) (o : AV) (x e : Int) : List AV := [o, vi s.ins, vw x, vi e]
theorem run10 (hF : FewM m) (hm : modE m = 0 → MdOk m) {inl : Bool} {inputs : List Int} (hI : InOk inputs) {fuel : Int} (hf : fuel ≤ 3000) {D : Nat} (hD : 10000 ≤ D) :
    ∃ x, evCall Try.prog C D lim 10 [.agg ((mD m).map .d), .d (seqD inl inputs wD), vi fuel] H = some (.agg ((oD x (runO m inputs fuel)).map .d), H) := by
  obtain ⟨D, rfl⟩ : ∃ D', D = D' + 9 := ⟨D - 9, by omega⟩
  obtain ⟨Fn, hFn⟩ : ∃ n, n = fuel.toNat := ⟨_, rfl⟩
  rw [evCall_pureEq (fi := fi10) rfl rfl (b10 _ _ _ _ _ _), up_data]
  unfold s10
  have hb := bx_data (r := mD m) (A := []) (H := H)
  have hcut := cut_data (r := mD m) (n := 4) rfl
  have hbl : bld [(0, 4), (4, 1), (5, 1), (6, 1), (7, 1), (8, 4), (12, 1), (13, 1)] [.d (.seq true 0 []), .d (.seq true 0 []), .d (.seq true 0 []), .d (.int .i64 0), .d (.seq true 0 []), .d (.seq true 0 []), .d (.int .i64 0), .d (.seq true 0 []), .d (.seq true 0 []), .d (.int .i64 0), .d (.int .u32 0), .d (.int .i64 0), .d (.int .i64 0), .d (.int .i64 0)]
      [(0, .agg ((mD m).map .d)), (4, .d (seqD inl inputs wD)), (6, vi Fn)] = some (.agg (cells0 m inl inputs (.d (.seq true 0 [])) (.d (.seq true 0 [])) 0 Fn)) := rfl
  have hbx := bx_agg (cs := cells0 m inl inputs (.d (.seq true 0 [])) (.d (.seq true 0 [])) 0 Fn) (A := [some ((mD m).map AV.d), some outZ]) (H := H) rfl
  have hck := fun H => check18 (d := D + 1) (lim := 1) (H := H) hF
  have hmax : (if (10000000 : Int) < (if (0 : Int) > fuel then 0 else fuel) then 10000000 else (if (0 : Int) > fuel then 0 else fuel)) = Fn := by split <;> split <;> omega
  have m0 : (mD m)[0]? = some (seqD m.gnl m.globs sD) := rfl
  have m3 : (mD m)[3]? = some (.int .i64 m.main) := rfl
  by_cases he : modE m = 0
  rotate_left
  · have ho : runO m inputs fuel = ⟨[], 0, 0, modE m⟩ := by unfold runO; rw [if_pos he]
    have hod : (oD true ⟨[], 0, 0, modE m⟩).map AV.d = [.d (.seq true 0 []), vi 0, vw 0, vi (modE m)] := rfl
    rw [ho]
    refine ⟨true, ?_⟩
    rw [hod]
    have hst := stA_leaf (lim := 1) (A := [some ((mD m).map AV.d), some outZ, some (cells0 m inl inputs (.d (.seq true 0 [])) (.d (.seq true 0 [])) 0 Fn)]) (H := H) (i := 2) (o := 11) (v := vi (modE m)) (c := cells0 m inl inputs (.d (.seq true 0 [])) (.d (.seq true 0 [])) 0 Fn) (by decide) rfl rfl (by simp [cells0])
    have c8 : cut ((cells0 m inl inputs (.d (.seq true 0 [])) (.d (.seq true 0 [])) 0 Fn).set 11 (vi (modE m))) 8 4 = some [.d (.seq true 0 []), vi 0, vw 0, vi (modE m)] := rfl
    have hst2 := fun X Y => stA_at (n := 4) (lim := 1) (A := [X, some outZ, Y]) (H := H) (i := 1) (cs := [.d (.seq true 0 []), vi 0, vw 0, vi (modE m)]) outZ (by decide) rfl rfl rfl rfl
    generalize (cells0 m inl inputs (.d (.seq true 0 [])) (.d (.seq true 0 [])) 0 Fn).set 11 (vi (modE m)) = C2 at *
    generalize cells0 m inl inputs (.d (.seq true 0 [])) (.d (.seq true 0 [])) 0 Fn = C1 at *
    generalize mD m = MD at *
    have hz : outZ = [.d (.seq true 0 []), .d (.int .i64 0), .d (.int .u32 0), .d (.int .i64 0)] := rfl
    rw [hz] at hbx hst hst2
    have hc4 : ∀ e : AV, cut [.d (.seq true 0 []), vi 0, vw 0, e] 0 4 = some [.d (.seq true 0 []), vi 0, vw 0, e] := fun e => rfl
    simp only [List.set_cons_succ, List.set_cons_zero] at hst hst2
    simp -implicitDefEqProofs [hb, hcut, amax_i, amin_i, hmax, hbl, hbx, hck, abin_neq, he, hst, c8, hst2, rs, rsL, one, hc4, leave_agg, AV.leaveL]
  · have hM := hm he
    have heg := endG_ok hM
    have w1 := wrap_ok (endG m) (by omega) (by omega)
    have hpl : ∀ H, evCall Try.prog C (D + 8) 1 14 [.d (seqD m.gnl m.globs sD)] H = some (.tup [plV m.globs, vi (plAt m.globs m.globs.length)], H) := fun H => place14 (d := D + 6) hM.smallG
    have hadd : 4096 + plAt m.globs m.globs.length = endG m := rfl
    have hst := stA_leaf (lim := 1) (A := [some ((mD m).map AV.d), some outZ, some (cells0 m inl inputs (.d (.seq true 0 [])) (.d (.seq true 0 [])) 0 Fn)]) (H := H) (i := 2) (o := 6) (v := vi (endG m)) (c := cells0 m inl inputs (.d (.seq true 0 [])) (.d (.seq true 0 [])) 0 Fn) (by decide) rfl rfl (by simp [cells0])
    have hce : (cells0 m inl inputs (.d (.seq true 0 [])) (.d (.seq true 0 [])) 0 Fn).set 6 (vi (endG m)) = cells0 m inl inputs (.d (.seq true 0 [])) (.d (.seq true 0 [])) (endG m) Fn := rfl
    rw [hce] at hst
    have g6 : (cells0 m inl inputs (.d (.seq true 0 [])) (.d (.seq true 0 [])) (endG m) Fn)[6]? = some (vi (endG m)) := rfl
    by_cases hfull : 65536 < endG m
    · have ho : runO m inputs fuel = ⟨[], 0, 0, 8⟩ := by unfold runO; rw [if_neg (by simp [he]), if_pos hfull]
      have hod : (oD true ⟨[], 0, 0, 8⟩).map AV.d = [.d (.seq true 0 []), vi 0, vw 0, vi 8] := rfl
      rw [ho]
      refine ⟨true, ?_⟩
      rw [hod]
      have hst3 := stA_leaf (lim := 1) (A := [some ((mD m).map AV.d), some outZ, some (cells0 m inl inputs (.d (.seq true 0 [])) (.d (.seq true 0 [])) (endG m) Fn)]) (H := H) (i := 2) (o := 11) (v := vi 8) (c := cells0 m inl inputs (.d (.seq true 0 [])) (.d (.seq true 0 [])) (endG m) Fn) (by decide) rfl rfl (by simp [cells0])
      have c8 : cut ((cells0 m inl inputs (.d (.seq true 0 [])) (.d (.seq true 0 [])) (endG m) Fn).set 11 (vi 8)) 8 4 = some [.d (.seq true 0 []), vi 0, vw 0, vi 8] := rfl
      have hst2 := fun X Y => stA_at (n := 4) (lim := 1) (A := [X, some outZ, Y]) (H := H) (i := 1) (cs := [.d (.seq true 0 []), vi 0, vw 0, vi 8]) outZ (by decide) rfl rfl rfl rfl
      generalize (cells0 m inl inputs (.d (.seq true 0 [])) (.d (.seq true 0 [])) (endG m) Fn).set 11 (vi 8) = C3 at *
      generalize cells0 m inl inputs (.d (.seq true 0 [])) (.d (.seq true 0 [])) (endG m) Fn = C2 at *
      generalize cells0 m inl inputs (.d (.seq true 0 [])) (.d (.seq true 0 [])) 0 Fn = C1 at *
      generalize mD m = MD at *
      have hz : outZ = [.d (.seq true 0 []), .d (.int .i64 0), .d (.int .u32 0), .d (.int .i64 0)] := rfl
      rw [hz] at hbx hst hst2 hst3
      have hc4 : ∀ e : AV, cut [.d (.seq true 0 []), vi 0, vw 0, e] 0 4 = some [.d (.seq true 0 []), vi 0, vw 0, e] := fun e => rfl
      simp only [List.set_cons_succ, List.set_cons_zero] at hst hst2 hst3
      simp -implicitDefEqProofs [hb, hcut, amax_i, amin_i, hmax, hbl, hbx, hck, abin_neq, he, m0, hpl, abin_add, hadd, w1, hst, g6, abin_gtr, hfull, hst3, c8, hst2, rs, rsL, one, hc4, leave_agg, AV.leaveL]
    · have hle : endG m ≤ 65536 := by omega
      have ho := runO_ok (inputs := inputs) (fuel := fuel) he hle
      rw [ho, ← hFn]
      have hmk : mkS 1 1 [.d (.int .u8 0)] ([some ((mD m).map AV.d), some outZ, some (cells0 m inl inputs (.d (.seq true 0 [])) (.d (.seq true 0 [])) (endG m) Fn)] :: H) (vi 65536) (vi 65536) =
          some (.sl 0 3 0 65536 1, [some ((mD m).map AV.d), some outZ, some (cells0 m inl inputs (.d (.seq true 0 [])) (.d (.seq true 0 [])) (endG m) Fn), some ((memG m 0).map vy)] :: H) := by
        rw [mkS_one (by decide) (by decide) (by decide)]
        unfold memG
        rw [List.map_replicate]
        rfl
      have hst4 := stA_leaf (lim := 1) (A := [some ((mD m).map AV.d), some outZ, some (cells0 m inl inputs (.d (.seq true 0 [])) (.d (.seq true 0 [])) (endG m) Fn), some ((memG m 0).map vy)]) (H := H) (i := 2) (o := 4) (v := .sl 0 3 0 65536 1) (c := cells0 m inl inputs (.d (.seq true 0 [])) (.d (.seq true 0 [])) (endG m) Fn) (by decide) rfl rfl (by simp [cells0])
      have hce4 : (cells0 m inl inputs (.d (.seq true 0 [])) (.d (.seq true 0 [])) (endG m) Fn).set 4 (.sl 0 3 0 65536 1) = cells0 m inl inputs (.sl 0 3 0 65536 1) (.d (.seq true 0 [])) (endG m) Fn := rfl
      rw [hce4] at hst4
      simp only [List.set_cons_succ, List.set_cons_zero] at hst hst4
      have hln := plV_len m.globs
      obtain ⟨r, hr, A, at', rfl, a0, a1, a2, a3, hat⟩ := lay10 (H := H) (call := evCall Try.prog C (D + 8) 1) (inl := inl) (inputs := inputs) (F := Fn) hM hle
        (A := [some ((mD m).map AV.d), some outZ, some (cells0 m inl inputs (.sl 0 3 0 65536 1) (.d (.seq true 0 [])) (endG m) Fn), some ((memG m 0).map vy)]) rfl rfl rfl rfl
      have l3 := lt_of_get a3
      obtain ⟨ai, hai, hai4, haig⟩ : ∃ ai, ai < A.length ∧ (ai ≠ 2 ∧ ai ≠ 3) ∧ (0 < m.globs.length → at' = .sl 0 ai 0 m.globs.length 1 ∧ A[ai]? = some (some (atCells m))) := by
        by_cases hg : m.globs.length = 0
        · exact ⟨0, by omega, by omega, fun h => by omega⟩
        · obtain ⟨b, hb1, hb2, hb3, _⟩ := hat.sl hg
          exact ⟨b, lt_of_get hb3, by omega, fun _ => ⟨hb1, hb3⟩⟩
      have hE : PlOk ⟨m, inputs, inl, 2, 3, ai, A.length, at'⟩ := ⟨by show (2 : Nat) ≠ 3; decide, Ne.symm hai4.1, Ne.symm hai4.2, by show 2 < A.length; omega, by show 3 < A.length; omega, hai⟩
      have hrun : RunAt ⟨m, inputs, inl, 2, 3, ai, A.length, at'⟩ A (run0 m) (.d (.seq true 0 [])) 0 Fn ([] : List Fr).length :=
        ⟨a2, a3, .nil 1, haig, Nat.le_refl _, run0_ok hM hle⟩
      have hmn : m.main.toNat < m.procs.length := by have := hM.main0; have := hM.main1; omega
      obtain ⟨A2, o2, v, ok, s2, F2, e2, dp2, hcall, hk2, _, _, _, hr2, hgood, hbad⟩ := call19 hE hM hI Fn (D + 8) A H (run0 m) (.d (.seq true 0 [])) [] m.main.toNat [] (.d (.seq true 0 [])) 65536 (by omega) hrun hmn
        (by rw [hM.mpar]; rfl) (fun x hx => by cases hx) (.nil 1) (by decide) (by decide) (by show 0 + Fn < 100000; omega) (by show 0 + Fn < 100000; omega) (by decide)
      have hmm : (m.main.toNat : Int) = m.main := by have := hM.main0; omega
      rw [hmm] at hcall
      have hX0 : (0 : Nat) ∉ (Rn.X ⟨m, inputs, inl, 2, 3, ai, A.length, at'⟩) := by simp [Rn.X]
      have hX1 : (1 : Nat) ∉ (Rn.X ⟨m, inputs, inl, 2, 3, ai, A.length, at'⟩) := by simp [Rn.X]
      have b1 := hk2.get hX1 (by simp [blkOf]) a1
      have b2 : A2[2]? = some (some (Rn.cells ⟨m, inputs, inl, 2, 3, ai, A.length, at'⟩ s2 o2 e2 F2 dp2)) := hr2.run
      have j0 := join_of a0
      have o2k := hr2.out
      have l2 := lt_of_get b2
      have hz : outZ = [.d (.seq true 0 []), .d (.int .i64 0), .d (.int .u32 0), .d (.int .i64 0)] := rfl
      have key : ∀ (x : Int) (CC : List AV), ∃ y, AV.leave ((A2.set 2 (some CC)).set 1 (some [o2, vi s2.ins, vw x, vi e2])) o2 = some (.d (seqD y s2.out wD)) := fun x CC =>
        out_leave (k0 := A.length) (o2k.move fun j _ hj _ => by
          have hj' : A.length ≤ j := hj
          rw [List.getElem?_set_ne (by omega), List.getElem?_set_ne (by omega)])
      cases ok with
      | false =>
        have hb' : mainP m inputs Fn = outc s2 0 e2 := hbad rfl
        obtain ⟨y, hy⟩ := key 0 (Rn.cells ⟨m, inputs, inl, 2, 3, ai, A.length, at'⟩ s2 o2 e2 F2 dp2)
        have hsame : A2.set 2 (some (Rn.cells ⟨m, inputs, inl, 2, 3, ai, A.length, at'⟩ s2 o2 e2 F2 dp2)) = A2 := by
          apply List.ext_getElem?
          intro i
          rw [List.getElem?_set]
          split
          · rename_i h2
            subst h2
            first
              | exact b2.symm
              | (rw [if_pos l2]; exact b2.symm)
          · rfl
        rw [hsame] at hy
        refine ⟨y, ?_⟩
        have hod : (oD y (outc s2 0 e2)).map AV.d = [.d (seqD y s2.out wD), vi s2.ins, vw 0, vi e2] := rfl
        rw [hb', hod]
        have jb2 := join_of b2
        have c8 : cut (Rn.cells ⟨m, inputs, inl, 2, 3, ai, A.length, at'⟩ s2 o2 e2 F2 dp2) 8 4 = some [o2, vi s2.ins, vw 0, vi e2] := rfl
        have hst5 := stA_at (n := 4) (lim := 1) (A := A2) (H := H) (i := 1) (cs := [o2, vi s2.ins, vw 0, vi e2]) outZ (by decide) (by simp [o2k.leaf, leaf_d]) rfl rfl (join_of b1)
        have l1 := lt_of_get b1
        have jb1 : ((A2.set 1 (some [o2, vi s2.ins, vw 0, vi e2]))[1]?).join = some [o2, vi s2.ins, vw 0, vi e2] := by rw [List.getElem?_set_self l1]; rfl
        have hc4 : cut [o2, vi s2.ins, vw 0, vi e2] 0 4 = some [o2, vi s2.ins, vw 0, vi e2] := rfl
        generalize Rn.cells ⟨m, inputs, inl, 2, 3, ai, A.length, at'⟩ s2 o2 e2 F2 dp2 = CX at *
        generalize A2.set 1 (some [o2, vi s2.ins, vw 0, vi e2]) = A5 at *
        generalize cells0 m inl inputs (.sl 0 3 0 65536 1) (.d (.seq true 0 [])) (endG m) Fn = C4 at *
        generalize cells0 m inl inputs (.d (.seq true 0 [])) (.d (.seq true 0 [])) (endG m) Fn = C2 at *
        generalize cells0 m inl inputs (.d (.seq true 0 [])) (.d (.seq true 0 [])) 0 Fn = C1 at *
        generalize mD m = MD at *
        generalize memG m 0 = M0 at *
        rw [hz] at hbx hst hst4 hmk hr
        unfold lp
        simp -implicitDefEqProofs [hb, hcut, amax_i, amin_i, hmax, hbl, hbx, hck, abin_neq, he, m0, hpl, abin_add, hadd, w1, hst, g6, abin_gtr, hfull, hmk, hst4, hln, hr, bnd_eq, j0, m3, hcall, jb2, c8, hst5, rs, rsL, one, jb1, hc4, hy, leave_agg, AV.leaveL]
      | true =>
        obtain ⟨g1, g2, g3, g4⟩ := hgood rfl
        have hb' : mainP m inputs Fn = outc s2 (v % 256) 0 := by
          show play m inputs Fn _ = _
          rw [g4]
          cases F2 <;> rfl
        subst g1
        obtain ⟨y, hy⟩ := key (v % 256) ((Rn.cells ⟨m, inputs, inl, 2, 3, ai, A.length, at'⟩ s2 o2 0 F2 dp2).set 10 (vw (v % 256)))
        refine ⟨y, ?_⟩
        have hod : (oD y (outc s2 (v % 256) 0)).map AV.d = [.d (seqD y s2.out wD), vi s2.ins, vw (v % 256), vi 0] := rfl
        rw [hb', hod]
        have hand := fun t => and255 g3 t
        have hst6 := stA_leaf (lim := 1) (A := A2) (H := H) (i := 2) (o := 10) (v := vw (v % 256)) (c := Rn.cells ⟨m, inputs, inl, 2, 3, ai, A.length, at'⟩ s2 o2 0 F2 dp2) (by decide) rfl (join_of b2) (by simp [Rn.cells])
        have c8 : cut ((Rn.cells ⟨m, inputs, inl, 2, 3, ai, A.length, at'⟩ s2 o2 0 F2 dp2).set 10 (vw (v % 256))) 8 4 = some [o2, vi s2.ins, vw (v % 256), vi 0] := rfl
        generalize (Rn.cells ⟨m, inputs, inl, 2, 3, ai, A.length, at'⟩ s2 o2 0 F2 dp2).set 10 (vw (v % 256)) = CX at *
        have b1' : (A2.set 2 (some CX))[1]? = some (some outZ) := by rw [List.getElem?_set_ne (by omega)]; exact b1
        have jb2 : ((A2.set 2 (some CX))[2]?).join = some CX := by rw [List.getElem?_set_self l2]; rfl
        generalize A2.set 2 (some CX) = A3 at *
        have hst5 := stA_at (n := 4) (lim := 1) (A := A3) (H := H) (i := 1) (cs := [o2, vi s2.ins, vw (v % 256), vi 0]) outZ (by decide) (by simp [o2k.leaf, leaf_d]) rfl rfl (join_of b1')
        have l1 := lt_of_get b1'
        have jb1 : ((A3.set 1 (some [o2, vi s2.ins, vw (v % 256), vi 0]))[1]?).join = some [o2, vi s2.ins, vw (v % 256), vi 0] := by rw [List.getElem?_set_self l1]; rfl
        have hc4 : cut [o2, vi s2.ins, vw (v % 256), vi 0] 0 4 = some [o2, vi s2.ins, vw (v % 256), vi 0] := rfl
        generalize v % 256 = v' at *
        generalize A3.set 1 (some [o2, vi s2.ins, vw v', vi 0]) = A5 at *
        generalize cells0 m inl inputs (.sl 0 3 0 65536 1) (.d (.seq true 0 [])) (endG m) Fn = C4 at *
        generalize cells0 m inl inputs (.d (.seq true 0 [])) (.d (.seq true 0 [])) (endG m) Fn = C2 at *
        generalize cells0 m inl inputs (.d (.seq true 0 [])) (.d (.seq true 0 [])) 0 Fn = C1 at *
        generalize mD m = MD at *
        generalize memG m 0 = M0 at *
        rw [hz] at hbx hst hst4 hmk hr
        unfold lp
        simp -implicitDefEqProofs [hb, hcut, amax_i, amin_i, hmax, hbl, hbx, hck, abin_neq, he, m0, hpl, abin_add, hadd, w1, hst, g6, abin_gtr, hfull, hmk, hst4, hln, hr, bnd_eq, j0, m3, hcall, hand, hst6, jb2, c8, hst5, rs, rsL, one, jb1, hc4, hy, leave_agg, AV.leaveL]
end
end Go.Ev.Try
