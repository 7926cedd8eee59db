import Derived.Test.YtkbimbpaaikkeaaK7
set_option linter.unusedSimpArgs false
set_option linter.unusedVariables false
/- The document's run in memory: where it lies. -/
set_option maxRecDepth 100000
namespace Go.Ev.Try
open Go Go.Ev Go.Proofs
structure Rf where
  m : Mdl
  inputs : List Int
  inl : Bool
  ri : Nat
  mi : Nat
  zi : Nat
  k0 : Nat
def Rf.cells (E : Rf) (s : Ms) (o tv : AV) (x e : Int) (dn : Bool) : List AV :=
  [.d (seqD E.m.gnl E.m.globs sD), .d (seqD E.m.dnl E.m.datas yD), .d (seqD E.m.pnl E.m.procs pD), vi E.m.main, .sl 0 E.mi 0 65536 1, tv, vi (endG E.m), .d (seqD E.inl E.inputs wD), o, vi s.ins, vw x, vi e, vb dn]
def row (y : Nat × Fr) : List AV := [vi y.2.n, .sl 0 y.1 0 y.2.regs.length 1, vi y.2.low, vi y.2.b, vi y.2.i]
def rows (S : List (Nat × Fr)) : List AV := S.reverse.flatMap row
/-- The blocks of the run's own slices. -/
def blks (o tv : AV) (S : List (Nat × Fr)) : List Nat := (blkOf o).toList ++ ((blkOf tv).toList ++ S.map (·.1))
structure TopAt (k0 : Nat) (A : Arena) (tv : AV) (S : List (Nat × Fr)) : Prop where
  val : (S = [] ∧ tv = .d (.seq true 0 [])) ∨ ∃ b cells, tv = .sl 0 b 0 S.length 5 ∧ k0 ≤ b ∧ A[b]? = some (some cells) ∧ S.length * 5 ≤ cells.length ∧ cells.take (S.length * 5) = rows S
structure RefAt (E : Rf) (A : Arena) (S : List (Nat × Fr)) (s : Ms) (o tv : AV) (x e : Int) (dn : Bool) : Prop where
  run : A[E.ri]? = some (some (E.cells s o tv x e dn))
  mem : A[E.mi]? = some (some (s.mem.map vy))
  out : OutAt E.k0 A o (s.out.map vw) s.out.length 1
  top : TopAt E.k0 A tv S
  regs : ∀ y ∈ S, E.k0 ≤ y.1 ∧ A[y.1]? = some (some (y.2.regs.map vw))
  nd : (blks o tv S).Nodup
  k0 : E.k0 ≤ A.length
  ok : MsOk s
  fix : A[E.zi]? = some (some outZ)
structure RfOk (E : Rf) : Prop where
  rm : E.ri ≠ E.mi
  rz : E.ri ≠ E.zi
  mz : E.mi ≠ E.zi
  z : E.zi < E.k0
  r : E.ri < E.k0
  m : E.mi < E.k0
theorem row_len (y : Nat × Fr) : (row y).length = 5 := rfl
theorem rows_cons (y : Nat × Fr) (S : List (Nat × Fr)) : rows (y :: S) = rows S ++ row y := by
  unfold rows
  simp
theorem rows_len : ∀ S : List (Nat × Fr), (rows S).length = S.length * 5
  | [] => rfl
  | y :: S => by rw [rows_cons, List.length_append, rows_len S, row_len, List.length_cons]; omega
theorem TopAt.move {k0 : Nat} {A A' : Arena} {tv : AV} {S : List (Nat × Fr)} (h : TopAt k0 A tv S) (hm : ∀ j, blkOf tv = some j → k0 ≤ j → j < A.length → A'[j]? = A[j]?) : TopAt k0 A' tv S := by
  rcases h.val with h | ⟨b, cells, h1, h2, h3, h4, h5⟩
  · exact ⟨.inl h⟩
  · exact ⟨.inr ⟨b, cells, h1, h2, by rw [hm b (by rw [h1]; rfl) h2 (lt_of_get h3)]; exact h3, h4, h5⟩⟩
theorem TopAt.get {k0 : Nat} {A : Arena} {tv : AV} {y : Nat × Fr} {S : List (Nat × Fr)} (h : TopAt k0 A tv (y :: S)) : ∃ b cells, tv = .sl 0 b 0 (S.length + 1) 5 ∧ k0 ≤ b ∧ A[b]? = some (some cells) ∧ (S.length + 1) * 5 ≤ cells.length ∧ cells.take ((S.length + 1) * 5) = rows S ++ row y := by
  rcases h.val with ⟨h, _⟩ | ⟨b, cells, h1, h2, h3, h4, h5⟩
  · cases h
  · exact ⟨b, cells, h1, h2, h3, h4, by rw [← rows_cons]; exact h5⟩
theorem TopAt.blk {k0 : Nat} {A : Arena} {tv : AV} {S : List (Nat × Fr)} (h : TopAt k0 A tv S) {j : Nat} (hj : j < k0 ∨ A.length ≤ j) : blkOf tv ≠ some j := by
  rcases h.val with ⟨_, h⟩ | ⟨b, cells, h1, h2, h3, _⟩
  · rw [h]; simp [blkOf]
  · rw [h1]
    have := lt_of_get h3
    simp [blkOf]
    omega
theorem TopAt.leaf {k0 : Nat} {A : Arena} {tv : AV} {S : List (Nat × Fr)} (h : TopAt k0 A tv S) : tv.leaf = true := by
  rcases h.val with ⟨_, h⟩ | ⟨b, cells, h1, _⟩
  · rw [h]; rfl
  · rw [h1]; rfl
theorem TopAt.len {k0 : Nat} {A : Arena} {tv : AV} {S : List (Nat × Fr)} (h : TopAt k0 A tv S) : lnS tv = some (vi S.length) := by
  rcases h.val with ⟨h0, h⟩ | ⟨b, cells, h1, _⟩
  · rw [h, h0]; rfl
  · rw [h1]; rfl
section
variable {E : Rf} {A : Arena} {S : List (Nat × Fr)} {s : Ms} {o tv : AV} {x e : Int} {dn : Bool}
theorem RefAt.blkR (h : RefAt E A S s o tv x e dn) {y : Nat × Fr} (hy : y ∈ S) : blkOf o ≠ some y.1 ∧ blkOf tv ≠ some y.1 := by
  have hn := h.nd
  unfold blks at hn
  rw [List.nodup_append] at hn
  obtain ⟨_, h2, h3⟩ := hn
  rw [List.nodup_append] at h2
  obtain ⟨_, _, h5⟩ := h2
  have hm : y.1 ∈ S.map (·.1) := List.mem_map_of_mem hy
  refine ⟨fun e => ?_, fun e => ?_⟩
  · exact h3 y.1 (by rw [e]; simp) y.1 (by simp only [List.mem_append]; exact .inr hm) rfl
  · exact h5 y.1 (by rw [e]; simp) y.1 hm rfl
theorem RefAt.oT (h : RefAt E A S s o tv x e dn) {j : Nat} (ho : blkOf o = some j) : blkOf tv ≠ some j := by
  have hn := h.nd
  unfold blks at hn
  rw [List.nodup_append] at hn
  exact fun e => hn.2.2 j (by rw [ho]; simp) j (by rw [e]; simp) rfl
theorem RefAt.lt (h : RefAt E A S s o tv x e dn) {j : Nat} (hj : j ∈ blks o tv S) : E.k0 ≤ j ∧ j < A.length := by
  unfold blks at hj
  simp only [List.mem_append, Option.mem_toList] at hj
  rcases hj with hj | hj | hj
  · have h1 := h.out
    refine ⟨?_, ?_⟩
    · rcases Nat.lt_or_ge j E.k0 with hlt | hge
      · exact absurd hj (outAt_k0 h1 hlt)
      · exact hge
    · rcases Nat.lt_or_ge j A.length with hlt | hge
      · exact hlt
      · exact absurd hj (h1.blk hge)
  · refine ⟨?_, ?_⟩
    · rcases Nat.lt_or_ge j E.k0 with hlt | hge
      · exact absurd hj (h.top.blk (.inl hlt))
      · exact hge
    · rcases Nat.lt_or_ge j A.length with hlt | hge
      · exact hlt
      · exact absurd hj (h.top.blk (.inr hge))
  · obtain ⟨y, hy, rfl⟩ := List.mem_map.1 hj
    exact ⟨(h.regs y hy).1, lt_of_get (h.regs y hy).2⟩
/-- The run's own cells change. -/
theorem RefAt.cellsAt (hE : RfOk E) (h : RefAt E A S s o tv x e dn) (n' : Nat) (x' e' : Int) (dn' : Bool) : RefAt E (A.set E.ri (some (E.cells ⟨s.mem, s.out, n'⟩ o tv x' e' dn'))) S ⟨s.mem, s.out, n'⟩ o tv x' e' dn' := by
  have g : ∀ j, E.k0 ≤ j → (A.set E.ri (some (E.cells ⟨s.mem, s.out, n'⟩ o tv x' e' dn')))[j]? = A[j]? := fun j hj => List.getElem?_set_ne (by have := hE.r; omega)
  exact ⟨by rw [List.getElem?_set_self (lt_of_get h.run)], by rw [List.getElem?_set_ne hE.rm]; exact h.mem, h.out.move fun j _ hj _ => g j hj, h.top.move fun j _ hj _ => g j hj,
    fun y hy => ⟨(h.regs y hy).1, by rw [g _ (h.regs y hy).1]; exact (h.regs y hy).2⟩, h.nd, by simp [h.k0], ⟨h.ok.len, h.ok.byte⟩, by rw [List.getElem?_set_ne hE.rz]; exact h.fix⟩
theorem RefAt.keep (hE : RfOk E) (h : RefAt E A S s o tv x e dn) {A' : Arena} (hl : A.length ≤ A'.length) (hj : ∀ j, j < A.length → (j < E.k0 ∨ j ∈ blks o tv S) → A'[j]? = A[j]?) : RefAt E A' S s o tv x e dn := by
  have g : ∀ j c, j < E.k0 → A[j]? = some c → A'[j]? = some c := fun j c hk hc => by rw [hj j (lt_of_get hc) (.inl hk), hc]
  refine ⟨g _ _ hE.r h.run, g _ _ hE.m h.mem, h.out.move fun j ho _ hl => hj j hl (.inr (by unfold blks; simp [ho])), h.top.move fun j ho _ hl => hj j hl (.inr (by unfold blks; simp [ho])), fun y hy => ⟨(h.regs y hy).1, ?_⟩, h.nd, Nat.le_trans h.k0 hl, h.ok, g _ _ hE.z h.fix⟩
  rw [hj y.1 (lt_of_get (h.regs y hy).2) (.inr (by unfold blks; simp only [List.mem_append]; exact .inr (.inr (List.mem_map_of_mem hy))))]
  exact (h.regs y hy).2
theorem RefAt.push (hE : RfOk E) (h : RefAt E A S s o tv x e dn) (B : Arena) : RefAt E (A ++ B) S s o tv x e dn := h.keep hE (by simp) fun _ hj _ => List.getElem?_append_left hj
/-- A block that is none of the run's changes. -/
theorem RefAt.other (hE : RfOk E) (h : RefAt E A S s o tv x e dn) {j : Nat} (c : Option (List AV)) (hj : E.k0 ≤ j) (hn : j ∉ blks o tv S) : RefAt E (A.set j c) S s o tv x e dn :=
  h.keep hE (by simp) fun k _ hx => List.getElem?_set_ne fun e => by
    subst e
    rcases hx with hx | hx
    · omega
    · exact hn hx
theorem row_regs {R : Nat} {f : Fr} {r : List Int} (hr : r.length = f.regs.length) : row (R, ⟨f.n, r, f.low, f.b, f.i⟩) = row (R, f) := by unfold row; simp [hr]
/-- The topmost call's registers change. -/
theorem RefAt.setRegs (hE : RfOk E) {R : Nat} {f : Fr} (h : RefAt E A ((R, f) :: S) s o tv x e dn) {r : List Int} (hr : r.length = f.regs.length) : RefAt E (A.set R (some (r.map vw))) ((R, ⟨f.n, r, f.low, f.b, f.i⟩) :: S) s o tv x e dn := by
  have hR := h.regs (R, f) (by simp)
  have hb := h.blkR (y := (R, f)) (by simp)
  simp only at hR hb
  have hr1 := hE.r
  have hm1 := hE.m
  have hz1 := hE.z
  refine ⟨by rw [List.getElem?_set_ne (by omega)]; exact h.run, by rw [List.getElem?_set_ne (by omega)]; exact h.mem, h.out.move fun j hj _ _ => List.getElem?_set_ne (fun e => hb.1 (by rw [e]; exact hj)), ?_, fun y hy => ?_, h.nd, by simp [h.k0], h.ok, by rw [List.getElem?_set_ne (by omega)]; exact h.fix⟩
  · have ht := h.top.move (A' := A.set R (some (r.map vw))) fun j hj _ _ => List.getElem?_set_ne (fun e => hb.2 (by rw [e]; exact hj))
    rcases ht.val with ⟨h0, _⟩ | ⟨b, cells, h1, h2, h3, h4, h5⟩
    · cases h0
    · exact ⟨.inr ⟨b, cells, h1, h2, h3, h4, by rw [rows_cons, row_regs hr, ← rows_cons]; exact h5⟩⟩
  · rcases List.mem_cons.1 hy with rfl | hy'
    · exact ⟨hR.1, by simp only; rw [List.getElem?_set_self (lt_of_get hR.2)]⟩
    · have hne : y.1 ≠ R := by
        have hn := h.nd
        unfold blks at hn
        rw [List.nodup_append] at hn
        have h2 := hn.2.1
        rw [List.nodup_append] at h2
        have h3 := h2.2.1
        simp only [List.map_cons, List.nodup_cons] at h3
        exact fun e => h3.1 (by rw [← e]; exact List.mem_map_of_mem hy')
      have hy2 := h.regs y (by simp [hy'])
      exact ⟨hy2.1, by rw [List.getElem?_set_ne (Ne.symm hne)]; exact hy2.2⟩
/-- The topmost call goes on elsewhere. -/
theorem RefAt.setTop (hE : RfOk E) {R : Nat} {f f' : Fr} (h : RefAt E A ((R, f) :: S) s o tv x e dn) (hf : f'.regs = f.regs) {b : Nat} {cells cells' : List AV} (hb : tv = .sl 0 b 0 (S.length + 1) 5) (hA : A[b]? = some (some cells))
    (hl : (S.length + 1) * 5 ≤ cells'.length) (hc : cells'.take ((S.length + 1) * 5) = rows S ++ row (R, f')) : RefAt E (A.set b (some cells')) ((R, f') :: S) s o tv x e dn := by
  have hbm : b ∈ blks o tv ((R, f) :: S) := by unfold blks; rw [hb]; simp [blkOf]
  have hbl := h.lt hbm
  have hr1 := hE.r
  have hm1 := hE.m
  have hz1 := hE.z
  have ho : blkOf o ≠ some b := fun e => h.oT e (by rw [hb]; rfl)
  refine ⟨by rw [List.getElem?_set_ne (by omega)]; exact h.run, by rw [List.getElem?_set_ne (by omega)]; exact h.mem, h.out.move fun j hj _ _ => List.getElem?_set_ne (fun e => ho (by rw [e]; exact hj)), ?_, fun y hy => ?_, ?_, by simp [h.k0], h.ok, by rw [List.getElem?_set_ne (by omega)]; exact h.fix⟩
  · exact ⟨.inr ⟨b, cells', hb, hbl.1, by rw [List.getElem?_set_self hbl.2], hl, by rw [rows_cons]; exact hc⟩⟩
  · have hy2 : ∃ z ∈ (R, f) :: S, z.1 = y.1 ∧ z.2.regs = y.2.regs := by
      rcases List.mem_cons.1 hy with rfl | hy'
      · exact ⟨(R, f), by simp, rfl, hf.symm⟩
      · exact ⟨y, by simp [hy'], rfl, rfl⟩
    obtain ⟨z, hz, e1, e2⟩ := hy2
    have hz2 := h.regs z hz
    have hzb := (h.blkR hz).2
    rw [← e1, ← e2]
    exact ⟨hz2.1, by rw [List.getElem?_set_ne (fun e => hzb (by rw [hb, ← e]; rfl))]; exact hz2.2⟩
  · have := h.nd
    unfold blks at this ⊢
    simpa using this
theorem RefAt.memAt' (hE : RfOk E) (h : RefAt E A S s o tv x e dn) (mem : List Int) (hl : mem.length = 65536) (hb : ∀ x ∈ mem, 0 ≤ x ∧ x < 256) : RefAt E (A.set E.mi (some (mem.map vy))) S ⟨mem, s.out, s.ins⟩ o tv x e dn := by
  have g : ∀ j, E.k0 ≤ j → (A.set E.mi (some (mem.map vy)))[j]? = A[j]? := fun j hj => List.getElem?_set_ne (by have := hE.m; omega)
  exact ⟨by rw [List.getElem?_set_ne (Ne.symm hE.rm)]; exact h.run, by rw [List.getElem?_set_self (lt_of_get h.mem)], h.out.move fun j _ hj _ => g j hj, h.top.move fun j _ hj _ => g j hj,
    fun y hy => ⟨(h.regs y hy).1, by rw [g _ (h.regs y hy).1]; exact (h.regs y hy).2⟩, h.nd, by simp [h.k0], ⟨hl, hb⟩, by rw [List.getElem?_set_ne hE.mz]; exact h.fix⟩
/-- An output more. -/
theorem RefAt.outAt' {A2 : Arena} {o' : AV} {w : Int} (hE : RfOk E) (h : RefAt E A S s o tv x e dn) (hk : Keep [] A A2 o o') (ho : OutAt E.k0 A2 o' (s.out.map vw ++ [vw w]) (s.out.length + 1) 1) :
    RefAt E (A2.set E.ri (some (E.cells ⟨s.mem, s.out ++ [w], s.ins⟩ o' tv x e dn))) S ⟨s.mem, s.out ++ [w], s.ins⟩ o' tv x e dn := by
  have g : ∀ j c, blkOf o ≠ some j → A[j]? = some c → A2[j]? = some c := fun j c hj hc => hk.get (by simp) hj hc
  have g2 : ∀ j, E.k0 ≤ j → (A2.set E.ri (some (E.cells ⟨s.mem, s.out ++ [w], s.ins⟩ o' tv x e dn)))[j]? = A2[j]? := fun j hj => List.getElem?_set_ne (by have := hE.r; omega)
  refine ⟨by rw [List.getElem?_set_self (lt_of_get (g _ _ (outAt_k0 h.out hE.r) h.run))], by rw [List.getElem?_set_ne hE.rm]; exact g _ _ (outAt_k0 h.out hE.m) h.mem, ?_, ?_, fun y hy => ⟨(h.regs y hy).1, by rw [g2 _ (h.regs y hy).1]; exact g _ _ (h.blkR hy).1 (h.regs y hy).2⟩, ?_, by have := hk.len; have := h.k0; simp; omega, ⟨h.ok.len, h.ok.byte⟩, by rw [List.getElem?_set_ne hE.rz]; exact g _ _ (outAt_k0 h.out hE.z) h.fix⟩
  · have := ho.move (A' := A2.set E.ri (some (E.cells ⟨s.mem, s.out ++ [w], s.ins⟩ o' tv x e dn))) fun j _ hj _ => g2 j hj
    simpa using this
  · refine h.top.move fun j hj hjk hjl => ?_
    rw [g2 j hjk]
    exact hk.same j hjl (by simp) (fun e => h.oT e hj)
  · have hn := h.nd
    unfold blks at hn ⊢
    rw [List.nodup_append] at hn ⊢
    refine ⟨by cases blkOf o' <;> simp, hn.2.1, fun a ha b hb => ?_⟩
    have hbl := h.lt (j := b) (by unfold blks; simp only [List.mem_append]; exact .inr (List.mem_append.1 hb))
    intro hab
    subst hab
    have ha' : blkOf o' = some a := by simpa using ha
    have := hk.outb a hbl.2 ha'
    exact hn.2.2 a (by rw [this]; simp) a hb rfl
end
end Go.Ev.Try

/- The document's bytes, and how a call ends. -/
set_option maxRecDepth 100000
namespace Go.Ev.Try
open Go Go.Ev Go.Proofs
/-- What a step comes to in memory. -/
def RefR (E : Rf) (A : Arena) : StepR → Prop
  | .stop e s => ∃ S o tv, RefAt E A S s o tv 0 e true
  | .fin v s => ∃ S o tv, RefAt E A S s o tv (v % 256) 0 true
  | .go S' s => ∃ S o tv, S.map (·.2) = S' ∧ RefAt E A S s o tv 0 0 false
theorem ck_ttt (X : Option Res) : ck [true, true, true] X = X := (rfl)
attribute [simp] ck_ttt
theorem cut_top {cells : List AV} {S : List (Nat × Fr)} {y : Nat × Fr} (hl : (S.length + 1) * 5 ≤ cells.length) (hc : cells.take ((S.length + 1) * 5) = rows S ++ row y) : cut cells (S.length * 5) 5 = some (row y) := by
  rw [cut_eq (by omega)]
  have h1 : (cells.take ((S.length + 1) * 5)).drop (S.length * 5) = row y := by rw [hc, List.drop_left' (rows_len S)]
  rw [List.drop_take] at h1
  rw [show (S.length + 1) * 5 - S.length * 5 = 5 by omega] at h1
  rw [h1]
section
variable {d : Nat} {H : Heap} {E : Rf} {A : Arena} {S : List (Nat × Fr)} {s : Ms} {o tv : AV}
theorem bytes69 (hE : RfOk E) (h : RefAt E A S s o tv 0 0 false) {a z : Int} (ha : W a) (hz : z = 1 ∨ z = 4) : evCall Try.prog C (d + 1) 1 69 [.ptr 0 E.ri 0, vw a, vi z] (A :: H) =
    some (match memAt a z with
      | some n => (vi n, A :: H)
      | none => (vi (-1), A.set E.ri (some (E.cells s o tv 0 12 true)) :: H)) := by
  rw [evCall_inEq (fi := fi69) rfl rfl (b69 _ _ _ _ _ _)]
  unfold s69
  obtain ⟨a0, a1⟩ := ha
  have w0 := wrap_ok a (by omega) (by omega)
  have w1 := wrap_ok (a - 268435456) (by omega) (by omega)
  have w2 := wrap_ok (a - 268435456 + z) (by omega) (by omega)
  have hst := stA_leaf (lim := 1) (A := A) (H := H) (i := E.ri) (o := 11) (v := vi 12) (c := E.cells s o tv 0 0 false) (by decide) rfl (join_of h.run) (by simp [Rf.cells])
  have hst2 := stA_leaf (lim := 1) (A := A.set E.ri (some ((E.cells s o tv 0 0 false).set 11 (vi 12)))) (H := H) (i := E.ri) (o := 12) (v := vb true) (c := (E.cells s o tv 0 0 false).set 11 (vi 12)) (by decide) rfl (by rw [List.getElem?_set_self (lt_of_get h.run)]; rfl) (by simp [Rf.cells])
  have hce : ((E.cells s o tv 0 0 false).set 11 (vi 12)).set 12 (vb true) = E.cells s o tv 0 12 true := rfl
  rw [List.set_set, hce] at hst2
  generalize (E.cells s o tv 0 0 false).set 11 (vi 12) = C1 at *
  by_cases c1 : a - 268435456 < 0
  · have e : memAt a z = none := by unfold memAt; rw [if_pos (.inl (by omega))]
    rw [e]
    simp -implicitDefEqProofs [w0, w1, w2, abin_sub, abin_lss, c1, hst, hst2]
  · by_cases c2 : 65536 < a - 268435456 + z
    · have e : memAt a z = none := by unfold memAt; rw [if_pos (.inr (.inl (by omega)))]
      rw [e]
      simp -implicitDefEqProofs [w0, w1, w2, abin_sub, abin_lss, c1, abin_add, abin_gtr, c2, hst, hst2]
    · have hrem := fun t => abin_rem Try.prog t .i64 (a - 268435456) 4 (by omega)
      have hm : (a - 268435456).tmod 4 = (a - 268435456) % 4 := Int.tmod_eq_emod_of_nonneg (by omega)
      rw [hm] at hrem
      rcases hz with rfl | rfl
      · have e : memAt a 1 = some (a - 268435456) := by unfold memAt; rw [if_neg (by omega)]
        rw [e]
        simp -implicitDefEqProofs [w0, w1, w2, abin_sub, abin_lss, c1, abin_add, abin_gtr, c2, abin_eql]
      · by_cases c3 : (a - 268435456) % 4 = 0
        · have e : memAt a 4 = some (a - 268435456) := by unfold memAt; rw [if_neg (by omega)]
          rw [e]
          simp -implicitDefEqProofs [w0, w1, w2, abin_sub, abin_lss, c1, abin_add, abin_gtr, c2, abin_eql, hrem, abin_neq, c3]
        · have e : memAt a 4 = none := by unfold memAt; rw [if_pos (.inr (.inr ⟨rfl, by omega⟩))]
          rw [e]
          simp -implicitDefEqProofs [w0, w1, w2, abin_sub, abin_lss, c1, abin_add, abin_gtr, c2, abin_eql, hrem, abin_neq, c3, hst, hst2]
/-- The topmost call is taken away. -/
theorem RefAt.pop (hE : RfOk E) {R : Nat} {f : Fr} {b : Nat} (h : RefAt E A ((R, f) :: S) s o tv 0 0 false) (hb : tv = .sl 0 b 0 (S.length + 1) 5) : RefAt E (A.set E.ri (some (E.cells s o (.sl 0 b 0 S.length 5) 0 0 false))) S s o (.sl 0 b 0 S.length 5) 0 0 false := by
  obtain ⟨b', cells, h1, h2, h3, h4, h5⟩ := h.top.get
  rw [hb] at h1
  cases h1
  have g : ∀ j, E.k0 ≤ j → (A.set E.ri (some (E.cells s o (.sl 0 b 0 S.length 5) 0 0 false)))[j]? = A[j]? := fun j hj => List.getElem?_set_ne (by have := hE.r; omega)
  refine ⟨by rw [List.getElem?_set_self (lt_of_get h.run)], by rw [List.getElem?_set_ne hE.rm]; exact h.mem, h.out.move fun j _ hj _ => g j hj, ⟨.inr ⟨b, cells, rfl, h2, by rw [g b h2]; exact h3, by omega, ?_⟩⟩,
    fun y hy => ⟨(h.regs y (by simp [hy])).1, by rw [g _ (h.regs y (by simp [hy])).1]; exact (h.regs y (by simp [hy])).2⟩, ?_, by simp [h.k0], h.ok, by rw [List.getElem?_set_ne hE.rz]; exact h.fix⟩
  · have := congrArg (List.take (S.length * 5)) h5
    rw [List.take_take, Nat.min_eq_left (by omega), List.take_left' (rows_len S)] at this
    exact this
  · have hn := h.nd
    unfold blks at hn ⊢
    rw [hb] at hn
    simp only [blkOf, List.map_cons, Option.toList_some] at hn ⊢
    rw [List.nodup_append] at hn ⊢
    refine ⟨hn.1, ?_, fun a ha c hc => hn.2.2 a ha c (by
      simp only [List.mem_append, List.mem_singleton, List.mem_cons] at hc ⊢
      rcases hc with hc | hc
      · exact .inl hc
      · exact .inr (.inr hc))⟩
    have h2 := hn.2.1
    simp only [List.singleton_append, List.nodup_cons] at h2 ⊢
    exact ⟨fun hm => h2.1 (List.mem_cons_of_mem _ hm), h2.2.2⟩
theorem back68 (hE : RfOk E) (hM : MdOk E.m) {R : Nat} {f : Fr} (h : RefAt E A ((R, f) :: S) s o tv 0 0 false) (hg : ∀ y ∈ S, WtOk E.m y.2) {v : Int} (hv : W v) (hS : S.length ≤ 5000) :
    ∃ A', evCall Try.prog C (d + 1) 1 68 [.ptr 0 E.ri 0, vw v] (A :: H) = some (.tup [], A' :: H) ∧ RefR E A' (retR E.m v (S.map (·.2)) s) := by
  rw [evCall_inEq (fi := fi68) rfl rfl (b68 _ _ _ _ _)]
  unfold s68
  obtain ⟨b, cells, h1, h2, h3, h4, h5⟩ := h.top.get
  have hp := h.pop hE h1
  have jr := join_of h.run
  have c5 : (E.cells s o tv 0 0 false)[5]? = some tv := rfl
  have hln := h.top.len
  have w1 : IntKind.i64.wrap (((S.length + 1 : Nat) : Int) - 1) = S.length := by rw [show ((S.length + 1 : Nat) : Int) - 1 = S.length by omega]; exact wrap_ok _ (by omega) (by omega)
  have hlen : (((R, f) :: S).length : Int) = ((S.length + 1 : Nat) : Int) := rfl
  rw [hlen] at hln
  have hsl : slS 5 tv none (some (vi S.length)) = some (.sl 0 b 0 S.length 5) := by
    have hb : inB (vi S.length) (S.length + 1 + 1) = some S.length := inB_nat (by omega)
    rw [h1]
    simp only [slS, bounds, Option.bind_some, hb, Option.map_some]
    simp
  have hst := stA_leaf (lim := 1) (A := A) (H := H) (i := E.ri) (o := 5) (v := .sl 0 b 0 S.length 5) (c := E.cells s o tv 0 0 false) (by decide) rfl jr (by simp [Rf.cells])
  have hce : (E.cells s o tv 0 0 false).set 5 (.sl 0 b 0 S.length 5) = E.cells s o (.sl 0 b 0 S.length 5) 0 0 false := rfl
  rw [hce] at hst
  have h3' : (A.set E.ri (some (E.cells s o (.sl 0 b 0 S.length 5) 0 0 false)))[b]? = some (some cells) := by rw [List.getElem?_set_ne (by have := hE.r; omega)]; exact h3
  generalize A.set E.ri (some (E.cells s o (.sl 0 b 0 S.length 5) 0 0 false)) = A1 at *
  have jp := join_of hp.run
  have c5' : (E.cells s o (.sl 0 b 0 S.length 5) 0 0 false)[5]? = some (.sl 0 b 0 S.length 5) := rfl
  have hrem := fun t => abin_rem Try.prog t .u32 v 256 (by omega)
  have hm : v.tmod 256 = v % 256 := Int.tmod_eq_emod_of_nonneg hv.1
  rw [hm] at hrem
  generalize ((S.length + 1 : Nat) : Int) = dq at *
  cases S with
  | nil =>
    have hst2 := stA_leaf (lim := 1) (A := A1) (H := H) (i := E.ri) (o := 10) (v := vw (v % 256)) (c := E.cells s o (.sl 0 b 0 0 5) 0 0 false) (by decide) rfl jp (by simp [Rf.cells])
    have hst3 := stA_leaf (lim := 1) (A := A1.set E.ri (some ((E.cells s o (.sl 0 b 0 0 5) 0 0 false).set 10 (vw (v % 256))))) (H := H) (i := E.ri) (o := 12) (v := vb true) (c := (E.cells s o (.sl 0 b 0 0 5) 0 0 false).set 10 (vw (v % 256))) (by decide) rfl (by rw [List.getElem?_set_self (lt_of_get hp.run)]; rfl) (by simp [Rf.cells])
    have hce2 : ((E.cells s o (.sl 0 b 0 0 5) 0 0 false).set 10 (vw (v % 256))).set 12 (vb true) = E.cells s o (.sl 0 b 0 0 5) (v % 256) 0 true := rfl
    rw [List.set_set, hce2] at hst3
    refine ⟨_, ?_, [], o, .sl 0 b 0 0 5, hp.cellsAt hE s.ins (v % 256) 0 true⟩
    simp only [List.length_nil, Int.natCast_zero] at hsl hst c5' jp w1
    generalize (E.cells s o (.sl 0 b 0 0 5) 0 0 false).set 10 (vw (v % 256)) = C1 at *
    simp -implicitDefEqProofs [jr, c5, hln, abin_sub, w1, hsl, hst, jp, c5', abin_eql, hrem, hst2, hst3]
  | cons y S' =>
    obtain ⟨Q, g⟩ := y
    obtain ⟨b', cells', e1, e2, e3, e4, e5⟩ := hp.top.get
    cases e1
    rw [h3'] at e3
    cases e3
    have hcut := cut_top e4 e5
    have w2 : IntKind.i64.wrap (((S'.length + 1 : Nat) : Int) - 1) = S'.length := by rw [show ((S'.length + 1 : Nat) : Int) - 1 = S'.length by omega]; exact wrap_ok _ (by simp only [List.length_cons] at hS; omega) (by simp only [List.length_cons] at hS; omega)
    have hix : ixS 5 (.sl 0 b 0 (S'.length + 1) 5) (vi S'.length) = some (.ptr 0 b (S'.length * 5)) := by
      rw [ixS_sl, inB_nat (by omega)]
      simp
    have hwt := hg (Q, g) (by simp)
    have hi1 := hwt.i1
    have hrow := row_len (Q, g)
    have hst4 := stA_new (n := 5) (lim := 1) (A := A1) (H := H) (cs := row (Q, g)) (c := [.d (.int .i64 0), .d (.seq true 0 []), .d (.int .i64 0), .d (.int .i64 0), .d (.int .i64 0)]) (by decide) rfl rfl rfl
    have hp2 := hp.push hE [some (row (Q, g))]
    have hq : (A1 ++ [some (row (Q, g))])[A1.length]? = some (some (row (Q, g))) := by simp
    have jz := join_of (hp.push hE [some [AV.d (.int .i64 0), .d (.seq true 0 []), .d (.int .i64 0), .d (.int .i64 0), .d (.int .i64 0)]]).run
    have jzb : ((A1 ++ [some [AV.d (.int .i64 0), .d (.seq true 0 []), .d (.int .i64 0), .d (.int .i64 0), .d (.int .i64 0)]])[b]?).join = some cells := by rw [List.getElem?_append_left (lt_of_get h3')]; exact join_of h3'
    have jb := join_of h3'
    generalize A1 ++ [some (row (Q, g))] = A2 at *
    have jp2 := join_of hp2.run
    have jq := join_of hq
    have r0 : (row (Q, g))[0]? = some (vi g.n) := rfl
    have r1 : (row (Q, g))[1]? = some (.sl 0 Q 0 g.regs.length 1) := rfl
    have r3 : (row (Q, g))[3]? = some (vi g.b) := rfl
    have r4 : (row (Q, g))[4]? = some (vi g.i) := rfl
    have c2 : (E.cells s o (.sl 0 b 0 (S'.length + 1) 5) 0 0 false)[2]? = some (.d (seqD E.m.pnl E.m.procs pD)) := rfl
    obtain ⟨p1, q1, t1⟩ := seq_row (nl := E.m.pnl) (f := pD) (s := 6) (fun _ => rfl) (getP_of hwt.n)
    obtain ⟨p2, q2, t2⟩ := seq_row (nl := (getP E.m g.n).bnl) (f := bD) (s := 5) (fun _ => rfl) (getB_of hwt.b)
    have hgi := hwt.i
    simp only at t1 t2 hi1 hgi
    obtain ⟨p3, q3, t3⟩ := seq_row (nl := (getB' (getP E.m g.n) g.b).inl) (f := iD) (s := 11) (fun _ => rfl) (getI_of (show g.i - 1 < (getB' (getP E.m g.n) g.b).ins.length by omega))
    have x1 := t1.ix
    have y1 := t1.fa
    have z1 := fun H => t1.cell H 5 (seqD (getP E.m g.n).bnl (getP E.m g.n).blks bD) rfl
    have x2 := t2.ix
    have y2 := t2.fa
    have z2 := fun H => t2.cell H 0 (seqD (getB' (getP E.m g.n) g.b).inl (getB' (getP E.m g.n) g.b).ins iD) rfl
    have x3 := t3.ix
    have y3 := t3.fa
    have z3 := fun H => t3.cell H 1 (.int .i64 (getI (getB' (getP E.m g.n) g.b) (g.i - 1)).d) rfl
    have hcd : (getI (getB' (getP E.m g.n) g.b) (g.i - 1)).d = callD E.m g := rfl
    rw [hcd] at z3
    have w3 : IntKind.i64.wrap ((g.i : Int) - 1) = ((g.i - 1 : Nat) : Int) := by
      have hil := hM.insLen hwt.n hwt.b
      simp only at hil
      rw [show (g.i : Int) - 1 = ((g.i - 1 : Nat) : Int) by omega]
      exact wrap_ok _ (by omega) (by omega)
    have hret : retR E.m v (((Q, g) :: S').map (·.2)) s = .go (⟨g.n, if callD E.m g = -1 then g.regs else wr g.regs (callD E.m g) v, g.low, g.b, g.i⟩ :: S'.map (·.2)) s := rfl
    rw [hret]
    have hz5 : ∀ c : Int, (c = 0) = (decide (c = 0) = true) := fun c => by simp
    have hne0 : ¬ ((S'.length : Int) + 1 = 0) := by omega
    have w2' := wrap_ok (S'.length : Int) (by omega) (by simp only [List.length_cons] at hS; omega)
    have hinb : inB (vi S'.length) (S'.length + 1) = some S'.length := inB_nat (by omega)
    have hlc : (((Q, g) :: S').length : Int) = ((S'.length + 1 : Nat) : Int) := rfl
    have hlc2 : ((Q, g) :: S').length = S'.length + 1 := rfl
    have hcast : ((S'.length + 1 : Nat) : Int) = S'.length + 1 := by omega
    simp only [hlc, hlc2, hcast] at hsl hst c5' jp w1 w2 hst4 jp2 jz
    generalize ((g.i - 1 : Nat) : Int) = gi at *
    by_cases hd : callD E.m g = -1
    · rw [if_pos hd]
      refine ⟨A2, ?_, (Q, g) :: S', o, .sl 0 b 0 (S'.length + 1) 5, rfl, hp2⟩
      generalize row (Q, g) = RW at *
      simp -implicitDefEqProofs [jr, c5, hln, abin_sub, w1, hsl, hst, jp, c5', abin_eql, hne0, w2, w2', hinb, hix, jb, hcut, jz, jzb, hst4, jp2, c2, jq, r0, r1, r3, r4, x1, y1, z1, x2, y2, z2, w3, x3, y3, z3, abin_neq, hd]
    · rw [if_neg hd]
      have hdr := hwt.d.resolve_left hd
      have hR := hp2.regs (Q, g) (by simp)
      simp only at hR hdr
      have hixr := ixS_nat (s := 1) (l := 0) (b := Q) (o := 0) (n := g.regs.length) (z := 1) hdr.1 (by omega)
      simp only [Nat.zero_add, Nat.mul_one] at hixr
      have hst5 := stA_leaf (lim := 1) (A := A2) (H := H) (i := Q) (o := (callD E.m g).toNat) (v := vw v) (c := g.regs.map vw) (by decide) rfl (join_of hR.2) (by simp; omega)
      rw [← List.map_set] at hst5
      refine ⟨_, ?_, (Q, ⟨g.n, wr g.regs (callD E.m g) v, g.low, g.b, g.i⟩) :: S', o, .sl 0 b 0 (S'.length + 1) 5, rfl, hp2.setRegs hE (wr_len _ _ _)⟩
      generalize row (Q, g) = RW at *
      unfold wr
      simp -implicitDefEqProofs [jr, c5, hln, abin_sub, w1, hsl, hst, jp, c5', abin_eql, hne0, w2, w2', hinb, hix, jb, hcut, jz, jzb, hst4, jp2, c2, jq, r0, r1, r3, r4, x1, y1, z1, x2, y2, z2, w3, x3, y3, z3, abin_neq, hd, hixr, hst5]
end
end Go.Ev.Try

/- The document's end of a block, and how a call begins. -/
set_option maxRecDepth 100000
namespace Go.Ev.Try
open Go Go.Ev Go.Proofs
theorem set_top {cells : List AV} {S : List (Nat × Fr)} {y : Nat × Fr} {j : Nat} {v : AV} (hc : cells.take ((S.length + 1) * 5) = rows S ++ row y) : (cells.set (S.length * 5 + j) v).take ((S.length + 1) * 5) = rows S ++ (row y).set j v := by
  rw [List.take_set, hc, List.set_append_right _ _ (by rw [rows_len]; omega), rows_len]
  congr 2
  omega
section
variable {d : Nat} {H : Heap} {E : Rf} {A : Arena} {S : List (Nat × Fr)} {s : Ms} {o tv : AV}
/-- The topmost call, where the run's stack lies. -/
theorem RefAt.topRead {R : Nat} {f : Fr} {x e : Int} {dn : Bool} (h : RefAt E A ((R, f) :: S) s o tv x e dn) : ∃ b cells, tv = .sl 0 b 0 (S.length + 1) 5 ∧ E.k0 ≤ b ∧ A[b]? = some (some cells) ∧ (S.length + 1) * 5 ≤ cells.length ∧ cells.take ((S.length + 1) * 5) = rows S ++ row (R, f) ∧
    ixS 5 tv (vi S.length) = some (.ptr 0 b (S.length * 5)) ∧ cut cells (S.length * 5) 5 = some (row (R, f)) := by
  obtain ⟨b, cells, h1, h2, h3, h4, h5⟩ := h.top.get
  refine ⟨b, cells, h1, h2, h3, h4, h5, ?_, cut_top h4 h5⟩
  rw [h1, ixS_sl, inB_nat (by omega)]
  simp
theorem end45 (hE : RfOk E) (hM : MdOk E.m) {R : Nat} {f : Fr} (h : RefAt E A ((R, f) :: S) s o tv 0 0 false) (hf : FrOk E.m f) (hg : ∀ y ∈ S, WtOk E.m y.2) (hS : S.length ≤ 5000) :
    ∃ A', evCall Try.prog C (d + 2) 1 45 [.ptr 0 E.ri 0, vi S.length, .agg ((bD (getB' (getP E.m f.n) f.b)).map .d)] (A :: H) = some (.tup [], A' :: H) ∧
      RefR E A' (if (getB' (getP E.m f.n) f.b).fin = 3 then retR E.m (retV (getB' (getP E.m f.n) f.b) f.regs) (S.map (·.2)) s else .go (⟨f.n, f.regs, f.low, (nextB (getB' (getP E.m f.n) f.b) f.regs).toNat, 0⟩ :: S.map (·.2)) s) := by
  have hend := end_of (hM.blk hf.n hf.b).2
  have hrl := hf.regs.len
  have hrw := hf.regs.w
  have hp := getP_of hf.n
  generalize getB' (getP E.m f.n) f.b = B at *
  rw [evCall_inEq (fi := fi45) rfl rfl (b45 _ _ _ _ _ _)]
  unfold s45
  have hb := bx_data (r := bD B) (A := A) (H := H)
  have h1 := h.push hE [some ((bD B).map AV.d)]
  have hq1 : (A ++ [some ((bD B).map AV.d)])[A.length]? = some (some ((bD B).map AV.d)) := by simp
  have hl1 : (A ++ [some ((bD B).map AV.d)]).length = A.length + 1 := by simp
  generalize A ++ [some ((bD B).map AV.d)] = A1 at *
  have hst := stA_new (n := 5) (lim := 1) (A := A1) (H := H) (cs := row (R, f)) (c := [.d (.int .i64 0), .d (.seq true 0 []), .d (.int .i64 0), .d (.int .i64 0), .d (.int .i64 0)]) (by decide) rfl rfl rfl
  have h2 := h1.push hE [some (row (R, f))]
  have hq2 : (A1 ++ [some (row (R, f))])[A1.length]? = some (some (row (R, f))) := by simp
  have hq12 : (A1 ++ [some (row (R, f))])[A.length]? = some (some ((bD B).map AV.d)) := by rw [List.getElem?_append_left (by omega)]; exact hq1
  have j1 := join_of h1.run
  obtain ⟨b, cells, t1, t2, t3, t4, t5, t6, t7⟩ := h1.topRead
  have hbn : b < A1.length := lt_of_get t3
  have t3' : (A1 ++ [some (row (R, f))])[b]? = some (some cells) := by rw [List.getElem?_append_left hbn]; exact t3
  generalize A1 ++ [some (row (R, f))] = A2 at *
  have c5 : (E.cells s o tv 0 0 false)[5]? = some tv := rfl
  have jb := join_of t3
  have jq1 := join_of hq12
  have jq2 := join_of hq2
  have y1 : (bD B)[1]? = some (.int .i64 B.fin) := rfl
  have y2 : (bD B)[2]? = some (.int .i64 B.a) := rfl
  have y3 : (bD B)[3]? = some (.int .i64 B.to) := rfl
  have y4 : (bD B)[4]? = some (.int .i64 B.els) := rfl
  have r1 : (row (R, f))[1]? = some (.sl 0 R 0 f.regs.length 1) := rfl
  have hR := (h2.regs (R, f) (by simp)).2
  simp only at hR
  have jR := join_of hR
  have rd : 0 ≤ B.a → B.a < (getP E.m f.n).regs → ixS 1 (.sl 0 R 0 f.regs.length 1) (vi B.a) = some (.ptr 0 R B.a.toNat) ∧ (f.regs.map vw)[B.a.toNat]? = some (vw (rg f.regs B.a)) := fun a0 a1 => by
    have := ixS_nat (s := 1) (l := 0) (b := R) (o := 0) (n := f.regs.length) (z := 1) a0 (by omega)
    simp only [Nat.zero_add, Nat.mul_one] at this
    exact ⟨this, rg_map vw a0 (by omega)⟩
  by_cases e3 : B.fin = 3
  · rw [if_pos e3]
    have ha : B.a = -1 ∨ (0 ≤ B.a ∧ B.a < (getP E.m f.n).regs) := by
      rcases hend with ⟨e1, _⟩ | ⟨e1, _⟩ | ⟨_, ha⟩
      · omega
      · omega
      · exact ha
    have hw : W (retV B f.regs) := by
      unfold retV
      split
      · exact ⟨by decide, by decide⟩
      · exact rg_w hrw _
    obtain ⟨A', hbk, hr⟩ := back68 (d := d) (H := H) hE hM h2 hg hw hS
    refine ⟨A', ?_, hr⟩
    rcases ha with ha | ⟨a0, a1⟩
    · have hv : retV B f.regs = 0 := by simp [retV, ha]
      rw [hv] at hbk
      generalize bD B = BD at *
      generalize row (R, f) = RW at *
      simp -implicitDefEqProofs [hb, j1, c5, t6, jb, t7, hst, jq1, y1, e3, abin_eql, y2, ha, abin_neq, hbk]
    · have hne : ¬ B.a = -1 := by omega
      have hv : retV B f.regs = rg f.regs B.a := by simp [retV, hne]
      rw [hv] at hbk
      obtain ⟨g1, g2⟩ := rd a0 a1
      generalize bD B = BD at *
      generalize row (R, f) = RW at *
      simp -implicitDefEqProofs [hb, j1, c5, t6, jb, t7, hst, jq1, y1, e3, abin_eql, y2, hne, abin_neq, jq2, r1, g1, jR, g2, hbk]
  · rw [if_neg e3]
    obtain ⟨b', hb'⟩ : ∃ b' : Nat, nextB B f.regs = b' := by
      refine ⟨(nextB B f.regs).toNat, ?_⟩
      have : 0 ≤ nextB B f.regs := by
        unfold nextB
        rcases hend with ⟨e1, t0, _⟩ | ⟨e1, t0, _, l0, _⟩ | ⟨e1, _⟩
        · split <;> omega
        · split <;> omega
        · omega
      omega
    rw [hb', Int.toNat_natCast]
    have j2 := join_of h2.run
    have hlb : S.length * 5 + 4 < cells.length := by omega
    have hs1 := stA_leaf (lim := 1) (A := A2) (H := H) (i := b) (o := S.length * 5 + 3) (v := vi b') (c := cells) (by decide) rfl (join_of t3') (by omega)
    have hs2 := stA_leaf (lim := 1) (A := A2.set b (some (cells.set (S.length * 5 + 3) (vi b')))) (H := H) (i := b) (o := S.length * 5 + 4) (v := vi 0) (c := cells.set (S.length * 5 + 3) (vi b')) (by decide) rfl (by rw [List.getElem?_set_self (lt_of_get t3')]; rfl) (by simp; omega)
    rw [List.set_set] at hs2
    have hc' : ((cells.set (S.length * 5 + 3) (vi b')).set (S.length * 5 + 4) (vi 0)).take ((S.length + 1) * 5) = rows S ++ row (R, ⟨f.n, f.regs, f.low, b', 0⟩) := by
      have := set_top (j := 3) (v := vi b') t5
      have h2 : (row (R, f)).set 3 (vi b') = row (R, ⟨f.n, f.regs, f.low, b', f.i⟩) := rfl
      rw [h2] at this
      have h3 := set_top (j := 4) (v := vi 0) this
      exact h3
    have hnew := h2.setTop hE (f' := ⟨f.n, f.regs, f.low, b', 0⟩) rfl t1 t3' (by simp; omega) hc'
    have jn2 : ((A2.set b (some (cells.set (S.length * 5 + 3) (vi b'))))[E.ri]?).join = some (E.cells s o tv 0 0 false) := by rw [List.getElem?_set_ne (by have := hE.r; omega)]; exact j2
    refine ⟨_, ?_, (R, ⟨f.n, f.regs, f.low, b', 0⟩) :: S, o, tv, rfl, hnew⟩
    generalize hC2 : (cells.set (S.length * 5 + 3) (vi b')).set (S.length * 5 + 4) (vi 0) = C2 at *
    generalize hC1 : cells.set (S.length * 5 + 3) (vi b') = C1 at *
    generalize bD B = BD at *
    generalize row (R, f) = RW at *
    rcases hend with ⟨e1, t0, _⟩ | ⟨e1, t0, _, l0, _, a0, a1⟩ | ⟨e1, _⟩
    · have hnx : B.to = b' := by rw [← hb']; simp [nextB, e1]
      simp -implicitDefEqProofs [hb, j1, c5, t6, jb, t7, hst, jq1, y1, e1, abin_eql, y3, hnx, j2, hs1, jn2, hs2]
    · obtain ⟨g1, g2⟩ := rd a0 a1
      by_cases hz : rg f.regs B.a = 0
      · have hnx : B.els = b' := by rw [← hb']; simp [nextB, e1, hz]
        simp -implicitDefEqProofs [hb, j1, c5, t6, jb, t7, hst, jq1, y1, e1, abin_eql, y2, y3, y4, jq2, r1, g1, jR, g2, hz, hnx, j2, hs1, jn2, hs2]
      · have hnx : B.to = b' := by rw [← hb']; simp [nextB, e1, hz]
        simp -implicitDefEqProofs [hb, j1, c5, t6, jb, t7, hst, jq1, y1, e1, abin_eql, y2, y3, y4, jq2, r1, g1, jR, g2, hz, hnx, j2, hs1, jn2, hs2]
    · omega
/-- A call more on the stack. -/
theorem top_app {k0 : Nat} {y : Nat × Fr} (h : TopAt k0 A tv S) (h0 : k0 ≤ A.length) (hn : S.length ≤ 5000) :
    ∃ tv' A' b', app 5 56 1 ((A ++ [some (row y)]) :: H) tv (elS 5 ((A ++ [some (row y)]) :: H) (.sl 0 A.length 0 1 5)) = some (tv', A' :: H) ∧ TopAt k0 A' tv' (y :: S) ∧ Keep [] A A' tv tv' ∧ blkOf tv' = some b' ∧ A.length ≤ b' := by
  have he : elS 5 ((A ++ [some (row y)]) :: H) (.sl 0 A.length 0 1 5) = some (1, row y) := by
    rw [elS_here (c := row y) (by simp) (by simp [row_len])]
    simp [List.take_of_length_le (Nat.le_of_eq (row_len y))]
  rw [he]
  rcases h.val with ⟨h1, h2⟩ | ⟨b, cells, h1, h2, h3, h4, h5⟩
  · subst h1 h2
    refine ⟨_, _, _, app_nil (by decide) (by decide) (by decide) rfl, ⟨.inr ⟨_, row y, rfl, by simp; omega, by simp, by simp [row_len], ?_⟩⟩, ⟨by simp, fun j hj _ _ => ?_, fun j hj e => ?_⟩, rfl, by simp⟩
    · simp [rows, List.take_of_length_le (Nat.le_of_eq (row_len y))]
    · rw [List.getElem?_append_left (by simp; omega), List.getElem?_append_left (by omega)]
    · simp [blkOf] at e
      omega
  · have hb := lt_of_get h3
    subst h1
    have hca : app 5 56 1 ((A ++ [some (row y)]) :: H) (.sl 0 b 0 S.length 5) (some (1, row y)) = some (.sl 0 ((A ++ [some (row y)]).set b none).length 0 (S.length + 1) 5, ((A ++ [some (row y)]).set b none ++ [some (rows S ++ row y)]) :: H) := by
      have f1 : Nat.ble (S.length + 1) 140737488355328 = true := Nat.ble_eq_true_of_le (by omega)
      have f2 : Nat.ble ((S.length + 1) * 56) 140737488355328 = true := Nat.ble_eq_true_of_le (by omega)
      have f4 : (row y).all AV.leaf = true := rfl
      have f5 : ((A ++ [some (row y)])[b]?).join = some cells := by rw [List.getElem?_append_left hb, h3]; rfl
      simp only [app, Option.bind_some, f1, f2, f4, getB_zero, f5, setB_zero, upN_zero, pushB]
      rw [cut_eq (by omega), List.drop_zero, h5]
      rfl
    refine ⟨_, _, _, hca, ⟨.inr ⟨_, rows S ++ row y, rfl, by simp; omega, by simp, by simp [rows_len, row_len]; omega, ?_⟩⟩, ⟨by simp; omega, fun j hj _ ho => ?_, fun j hj e => ?_⟩, rfl, by simp⟩
    · rw [rows_cons, List.take_of_length_le (by simp [rows_len, row_len]; omega)]
    · rw [List.getElem?_append_left (by simp; omega), List.getElem?_set_ne (fun e => ho (by simp [blkOf, e])), List.getElem?_append_left (by omega)]
    · simp [blkOf] at e
      omega
theorem RefAt.pushFr (hE : RfOk E) (h : RefAt E A S s o tv 0 0 false) {y : Nat × Fr} {tv' : AV} {A' : Arena} {b' : Nat} (hR : A[y.1]? = some (some (y.2.regs.map vw))) (hk : E.k0 ≤ y.1) (hn : y.1 ∉ blks o tv S) (ht : TopAt E.k0 A' tv' (y :: S)) (hkp : Keep [] A A' tv tv') (hb : blkOf tv' = some b') (hbl : A.length ≤ b') :
    RefAt E (A'.set E.ri (some (E.cells s o tv' 0 0 false))) (y :: S) s o tv' 0 0 false := by
  have g : ∀ j c, blkOf tv ≠ some j → A[j]? = some c → A'[j]? = some c := fun j c hj hc => hkp.get (by simp) hj hc
  have g2 : ∀ j, E.k0 ≤ j → (A'.set E.ri (some (E.cells s o tv' 0 0 false)))[j]? = A'[j]? := fun j hj => List.getElem?_set_ne (by have := hE.r; omega)
  have hyt : blkOf tv ≠ some y.1 := fun e => hn (by unfold blks; rw [e]; simp)
  refine ⟨by rw [List.getElem?_set_self (lt_of_get (g _ _ (h.top.blk (.inl hE.r)) h.run))], by rw [List.getElem?_set_ne hE.rm]; exact g _ _ (h.top.blk (.inl hE.m)) h.mem, h.out.move fun j hj hjk hjl => ?_, ht.move fun j _ hj _ => g2 j hj, fun z hz => ?_, ?_, by have := hkp.len; have := h.k0; simp; omega, h.ok, by rw [List.getElem?_set_ne hE.rz]; exact g _ _ (h.top.blk (.inl hE.z)) h.fix⟩
  · rw [g2 j hjk]
    exact hkp.same j hjl (by simp) (h.oT hj)
  · rcases List.mem_cons.1 hz with rfl | hz'
    · exact ⟨hk, by rw [g2 _ hk]; exact g _ _ hyt hR⟩
    · have hz2 := h.regs z hz'
      exact ⟨hz2.1, by rw [g2 _ hz2.1]; exact g _ _ (h.blkR hz').2 hz2.2⟩
  · have hnd := h.nd
    have hlt := fun j hj => (h.lt (j := j) hj).2
    have hyl := lt_of_get hR
    unfold blks at hnd hn hlt ⊢
    rw [hb]
    simp only [Option.toList_some, List.map_cons, List.singleton_append]
    rw [List.nodup_append] at hnd ⊢
    have h2 := hnd.2.1
    rw [List.nodup_append] at h2
    simp only [List.mem_append] at hn hlt
    refine ⟨hnd.1, ?_, fun a ha c hc => ?_⟩
    · rw [List.nodup_cons, List.nodup_cons]
      refine ⟨fun hm => ?_, fun hm => hn (.inr (.inr hm)), h2.2.1⟩
      rcases List.mem_cons.1 hm with e | hm
      · omega
      · have := hlt b' (.inr (.inr hm))
        omega
    · intro e
      subst e
      rcases List.mem_cons.1 hc with e | hc
      · have := hlt a (.inl ha)
        omega
      · rcases List.mem_cons.1 hc with e | hc
        · exact hn (.inl (by rw [← e]; exact ha))
        · exact hnd.2.2 a ha a (by simp only [List.mem_append]; exact .inr hc) rfl
/-- What is handed over is laid into the registers. -/
theorem regs21 {R nr : Nat} {args : List Int} {av : AV} {call : ACall} (hav : OutAt 0 A av (args.map vw) args.length 1) (hR : A[R]? = some (some (List.replicate nr (vw 0)))) (hn : args.length ≤ nr) (hn2 : nr ≤ 10000) (hne : blkOf av ≠ some R) (X0 X1 X3 X4 : AV) :
    iterN LB (s21.l0 call 1) [X0, X1, av, X3, X4, .sl 0 R 0 nr 1, vi 0] (A :: H) = some (.exit 0, [X0, X1, X3, X4, .sl 0 R 0 nr 1], A.set R (some (args.map vw ++ List.replicate (nr - args.length) (vw 0))) :: H) := by
  have hRl := lt_of_get hR
  have hnil : args.length = 0 ∨ ∃ b, av = .sl 0 b 0 args.length 1 ∧ A[b]? = some (some (args.map vw)) ∧ b ≠ R := by
    by_cases h0 : args.length = 0
    · exact .inl h0
    · obtain ⟨b, h1, _, h3, _⟩ := hav.sl h0
      exact .inr ⟨b, h1, h3, fun e => hne (by rw [h1, e]; rfl)⟩
  have hln : lnS av = some (vi args.length) := by
    generalize args.map vw = cs at hav
    generalize args.length = n at hav
    cases hav <;> rfl
  refine gives_eq (iter_gives (Inv := fun k st H' => st = [X0, X1, av, X3, X4, .sl 0 R 0 nr 1, vi k] ∧ H' = A.set R (some ((args.map vw).take k ++ List.replicate (nr - k) (vw 0))) :: H) args.length (big_lt (by omega)) (fun k hk st H' hi => ?_) ⟨rfl, ?_⟩)
  · obtain ⟨rfl, rfl⟩ := hi
    rcases Nat.lt_or_ge k args.length with hlt | hge
    · left
      obtain ⟨b, h1, h3, hbR⟩ := hnil.resolve_left (by omega)
      obtain ⟨x, hx⟩ : ∃ x, args[k]? = some x := ⟨_, List.getElem?_eq_getElem hlt⟩
      have hi : (k : Int) < args.length := by omega
      have hixa : ixS 1 av (vi k) = some (.ptr 0 b k) := by rw [h1, ixS_sl, inB_nat hlt]; simp
      have hixr : ixS 1 (.sl 0 R 0 nr 1) (vi k) = some (.ptr 0 R k) := by rw [ixS_sl, inB_nat (by omega)]; simp
      have jb : ((A.set R (some ((args.map vw).take k ++ List.replicate (nr - k) (vw 0))))[b]?).join = some (args.map vw) := by rw [List.getElem?_set_ne (Ne.symm hbR)]; exact join_of h3
      have hld : (args.map vw)[k]? = some (vw x) := by rw [List.getElem?_map, hx]; rfl
      have w := wrap_ok ((k : Int) + 1) (by omega) (by omega)
      have hst := stA_leaf (lim := 1) (A := A.set R (some ((args.map vw).take k ++ List.replicate (nr - k) (vw 0)))) (H := H) (i := R) (o := k) (v := vw x) (c := (args.map vw).take k ++ List.replicate (nr - k) (vw 0)) (by decide) rfl (by rw [List.getElem?_set_self hRl]; rfl) (by simp; omega)
      have hnext : ((args.map vw).take k ++ List.replicate (nr - k) (vw 0)).set k (vw x) = (args.map vw).take (k + 1) ++ List.replicate (nr - (k + 1)) (vw 0) := by
        have hlk : ((args.map vw).take k).length = k := by simp; omega
        rw [List.set_append_right _ _ (by omega), hlk, Nat.sub_self, show nr - k = (nr - (k + 1)) + 1 by omega, List.replicate_succ, List.set_cons_zero, List.take_add_one, hld]
        simp
      rw [List.set_set, hnext] at hst
      refine ⟨_, _, hlt, ?_, rfl, rfl⟩
      unfold s21.l0
      simp -implicitDefEqProofs [hln, abin_lss, hi, hixa, jb, hld, hixr, hst, abin_add, w]
    · right
      obtain rfl : k = args.length := by omega
      refine ⟨(.exit 0, [X0, X1, X3, X4, .sl 0 R 0 nr 1], A.set R (some ((args.map vw).take args.length ++ List.replicate (nr - args.length) (vw 0))) :: H), ?_, by simp, by rw [List.take_of_length_le (by simp)]⟩
      unfold s21.l0
      simp -implicitDefEqProofs [hln, abin_lss]
  · have : A.set R (some (([] : List AV) ++ List.replicate (nr - 0) (vw 0))) = A := by
      apply List.ext_getElem?
      intro i
      rw [List.getElem?_set]
      split
      · rename_i h2
        subst h2
        first
          | exact hR.symm
          | (rw [if_pos hRl]; exact hR.symm)
      · rfl
    rw [List.take_zero, this]
theorem enter21 (hE : RfOk E) (hM : MdOk E.m) (h : RefAt E A S s o tv 0 0 false) {n : Nat} (hn : n < E.m.procs.length) {args : List Int} (ha : (args.length : Int) = (getP E.m n).params) {av : AV} (hav : OutAt 0 A av (args.map vw) args.length 1)
    {top : Int} (ht0 : 0 ≤ top) (ht1 : top ≤ 65536) (hS : S.length ≤ 5000) : ∃ A', evCall Try.prog C (d + 3) 1 21 [.ptr 0 E.ri 0, vi n, av, vi top] (A :: H) = some (.tup [], A' :: H) ∧ RefR E A' (entR E.m n args top (S.map (·.2)) s) ∧ ∀ j, j < A.length → j < E.k0 ∨ j ∈ blks o tv S ∨ A'[j]? = A[j]? := by
  rw [evCall_inEq (fi := fi21) rfl rfl (b21 _ _ _ _ _ _ _)]
  unfold s21
  obtain ⟨q, qs, rr⟩ := seq_row (nl := E.m.pnl) (f := pD) (s := 6) (fun _ => rfl) (getP_of hn)
  have hix := rr.ix
  have hall := rr.all
  have jr := join_of h.run
  have c2 : (E.cells s o tv 0 0 false)[2]? = some (.d (seqD E.m.pnl E.m.procs pD)) := rfl
  have hst := stA_new (n := 6) (lim := 1) (A := A) (H := H) (cs := (pD (getP E.m n)).map .d) (c := [.d (.str ⟨#[]⟩), .d (.bool false), .d (.int .i64 0), .d (.int .i64 0), .d (.seq true 0 []), .d (.seq true 0 [])]) (by decide) (all_leaf_d _) rfl rfl
  have h1 := h.push hE [some ((pD (getP E.m n)).map AV.d)]
  have hp1 : (A ++ [some ((pD (getP E.m n)).map AV.d)])[A.length]? = some (some ((pD (getP E.m n)).map AV.d)) := by simp
  have hav1 := hav.more [some ((pD (getP E.m n)).map AV.d)]
  have hlen1 : (A ++ [some ((pD (getP E.m n)).map AV.d)]).length = A.length + 1 := by simp
  have hs1 : ∀ j, j < A.length → (A ++ [some ((pD (getP E.m n)).map AV.d)])[j]? = A[j]? := fun j hj => List.getElem?_append_left hj
  generalize A ++ [some ((pD (getP E.m n)).map AV.d)] = A1 at *
  have hpl : evCall Try.prog C (d + 2) 1 15 [.d (seqD (getP E.m n).onl (getP E.m n).objs sD)] (A1 :: H) = some (.tup [plV (getP E.m n).objs, vi (longP (getP E.m n))], A1 :: H) := place15 (d := d) (hM.small hn)
  have hrg := hM.regs hn
  have hlg := long_ok hM hn
  have heg := endG_ok hM
  have hmk := mkS_one (z := vw 0) (bytes := 4) (A := A1) (H := H) (n := (getP E.m n).regs) (by omega) (by omega) (by omega)
  have jp1 := join_of hp1
  have jr1 := join_of h1.run
  have w1 := wrap_ok (top - longP (getP E.m n)) (by omega) (by omega)
  have c5 : (E.cells s o tv 0 0 false)[5]? = some tv := rfl
  have c6 : (E.cells s o tv 0 0 false)[6]? = some (vi (endG E.m)) := rfl
  have p3 : (pD (getP E.m n))[3]? = some (.int .i64 (getP E.m n).regs) := rfl
  have p4 : (pD (getP E.m n))[4]? = some (seqD (getP E.m n).onl (getP E.m n).objs sD) := rfl
  have hlt := h1.top.len
  by_cases hfull : top - longP (getP E.m n) < endG E.m ∨ 5000 ≤ S.length
  · have hent : entR E.m n args top (S.map (·.2)) s = .stop 8 s := by unfold entR; rw [List.length_map, if_pos hfull]
    rw [hent]
    have hst8 := stA_leaf (lim := 1) (A := A1) (H := H) (i := E.ri) (o := 11) (v := vi 8) (c := E.cells s o tv 0 0 false) (by decide) rfl (join_of h1.run) (by simp [Rf.cells])
    have hst9 := stA_leaf (lim := 1) (A := A1.set E.ri (some ((E.cells s o tv 0 0 false).set 11 (vi 8)))) (H := H) (i := E.ri) (o := 12) (v := vb true) (c := (E.cells s o tv 0 0 false).set 11 (vi 8)) (by decide) rfl (by rw [List.getElem?_set_self (lt_of_get h1.run)]; rfl) (by simp [Rf.cells])
    have hce : ((E.cells s o tv 0 0 false).set 11 (vi 8)).set 12 (vb true) = E.cells s o tv 0 8 true := rfl
    rw [List.set_set, hce] at hst9
    refine ⟨_, ?_, ⟨S, o, tv, h1.cellsAt hE s.ins 0 8 true⟩, fun j hj => ?_⟩
    rotate_left
    · by_cases e1 : j < E.k0
      · exact .inl e1
      · exact .inr (.inr (by rw [List.getElem?_set_ne (by have := hE.r; omega), hs1 j hj]))
    generalize (E.cells s o tv 0 0 false).set 11 (vi 8) = C1 at *
    generalize pD (getP E.m n) = PD at *
    by_cases c : top - longP (getP E.m n) < endG E.m
    · simp -implicitDefEqProofs [jr, c2, hix, hall, hst, jp1, p4, hpl, abin_sub, w1, jr1, c6, abin_lss, c, hst8, hst9]
    · have hS5 : (5000 : Int) ≤ S.length := by omega
      simp -implicitDefEqProofs [jr, c2, hix, hall, hst, jp1, p4, hpl, abin_sub, w1, jr1, c6, abin_lss, c, c5, hlt, abin_geq, hS5, hst8, hst9]
  · have hc : ¬ (top - longP (getP E.m n) < endG E.m) := fun e => hfull (.inl e)
    have hS5 : ¬ ((5000 : Int) ≤ S.length) := by omega
    have hent : entR E.m n args top (S.map (·.2)) s = .go (⟨n, newRegs (getP E.m n) args, top - longP (getP E.m n), 0, 0⟩ :: S.map (·.2)) s := by unfold entR; rw [List.length_map, if_neg hfull]
    rw [hent]
    have h2 := h1.push hE [some (List.replicate (getP E.m n).regs.toNat (vw 0))]
    have hR2 : (A1 ++ [some (List.replicate (getP E.m n).regs.toNat (vw 0))])[A1.length]? = some (some (List.replicate (getP E.m n).regs.toNat (vw 0))) := by simp
    have hav2 := hav1.more [some (List.replicate (getP E.m n).regs.toNat (vw 0))]
    generalize hA2 : A1 ++ [some (List.replicate (getP E.m n).regs.toNat (vw 0))] = A2 at *
    have hl := regs21 (H := H) (call := evCall Try.prog C (d + 2) 1) hav2 hR2 (by omega) (by omega) (hav1.blk (Nat.le_refl _)) (.ptr 0 E.ri 0) (vi n) (vi top) (vi (longP (getP E.m n)))
    have hnr : args.map vw ++ List.replicate ((getP E.m n).regs.toNat - args.length) (vw 0) = (newRegs (getP E.m n) args).map vw := by simp [newRegs]
    rw [hnr] at hl
    have hRk : E.k0 ≤ A1.length := h1.k0
    have hRn : A1.length ∉ blks o tv S := fun hm => by have := (h1.lt hm).2; omega
    have h3 := h2.other hE (some ((newRegs (getP E.m n) args).map vw)) hRk hRn
    have hs3 : ∀ j, j < A.length → (A2.set A1.length (some ((newRegs (getP E.m n) args).map vw)))[j]? = A[j]? := fun j hj => by rw [List.getElem?_set_ne (by omega), ← hA2, List.getElem?_append_left (by omega), hs1 j hj]
    have hl3 : (A2.set A1.length (some ((newRegs (getP E.m n) args).map vw))).length = A.length + 2 := by rw [List.length_set, ← hA2]; simp [hlen1]
    have hR3 : (A2.set A1.length (some ((newRegs (getP E.m n) args).map vw)))[A1.length]? = some (some ((newRegs (getP E.m n) args).map vw)) := by rw [List.getElem?_set_self (lt_of_get hR2)]
    generalize A2.set A1.length (some ((newRegs (getP E.m n) args).map vw)) = A3 at *
    have hrow : row (A1.length, ⟨n, newRegs (getP E.m n) args, top - longP (getP E.m n), 0, 0⟩) = [vi n, .sl 0 A1.length 0 (getP E.m n).regs.toNat 1, vi (top - longP (getP E.m n)), vi 0, vi 0] := by
      have : (newRegs (getP E.m n) args).length = (getP E.m n).regs.toNat := by simp [newRegs]; omega
      simp [row, this]
    obtain ⟨tv', A4, b', happ, htop, hkp, hb1, hb2⟩ := top_app (H := H) (y := (A1.length, ⟨n, newRegs (getP E.m n) args, top - longP (getP E.m n), 0, 0⟩)) h3.top h3.k0 hS
    have hfin := h3.pushFr hE hR3 hRk hRn htop hkp hb1 hb2
    have hbld : bld [(0, 1), (1, 1), (2, 1), (3, 1), (4, 1)] [.d (.int .i64 0), .d (.seq true 0 []), .d (.int .i64 0), .d (.int .i64 0), .d (.int .i64 0)] [(0, vi n), (1, .sl 0 A1.length 0 (getP E.m n).regs.toNat 1), (2, vi (top - longP (getP E.m n)))] =
        some (.agg (row (A1.length, ⟨n, newRegs (getP E.m n) args, top - longP (getP E.m n), 0, 0⟩))) := by rw [hrow]; rfl
    have hbls := bldS_one (s := 5) (z := [.d (.int .i64 0), .d (.seq true 0 []), .d (.int .i64 0), .d (.int .i64 0), .d (.int .i64 0)]) (cs := row (A1.length, ⟨n, newRegs (getP E.m n) args, top - longP (getP E.m n), 0, 0⟩)) (A := A3) (H := H) rfl rfl rfl
    have jr3 := join_of h3.run
    have hr4 : A4[E.ri]? = some (some (E.cells s o tv 0 0 false)) := hkp.get (by simp) (h3.top.blk (.inl hE.r)) h3.run
    have hst10 := stA_leaf (lim := 1) (A := A4) (H := H) (i := E.ri) (o := 5) (v := tv') (c := E.cells s o tv 0 0 false) (by decide) htop.leaf (join_of hr4) (by simp [Rf.cells])
    have hce : (E.cells s o tv 0 0 false).set 5 tv' = E.cells s o tv' 0 0 false := rfl
    rw [hce] at hst10
    refine ⟨_, ?_, ⟨(A1.length, ⟨n, newRegs (getP E.m n) args, top - longP (getP E.m n), 0, 0⟩) :: S, o, tv', rfl, hfin⟩, fun j hj => ?_⟩
    rotate_left
    · by_cases e1 : j < E.k0
      · exact .inl e1
      · by_cases e2 : j ∈ blks o tv S
        · exact .inr (.inl e2)
        · exact .inr (.inr (by rw [List.getElem?_set_ne (by have := hE.r; omega), hkp.same j (by omega) (by simp) (fun e => e2 (by unfold blks; rw [e]; simp)), hs3 j hj]))
    generalize row (A1.length, ⟨n, newRegs (getP E.m n) args, top - longP (getP E.m n), 0, 0⟩) = RW at *
    generalize pD (getP E.m n) = PD at *
    unfold lp
    simp -implicitDefEqProofs [jr, c2, hix, hall, hst, jp1, p4, p3, hpl, abin_sub, w1, jr1, c6, abin_lss, hc, c5, hlt, abin_geq, hS5, hmk, hl, bnd_eq, jr3, hbld, hbls, happ, hst10]
end
end Go.Ev.Try

/- The document's loads and stores. -/
set_option maxRecDepth 100000
namespace Go.Ev.Try
open Go Go.Ev Go.Proofs
/-- The bytes that were read so far, the last one first. -/
def hv (mem : List Int) (n : Int) (z : Nat) : Nat → Int
  | 0 => 0
  | j + 1 => 256 * hv mem n z j + rg mem (n + (z - 1 - j : Int))
theorem hv_ld {mem : List Int} {n : Int} {z : Nat} (hz : z = 1 ∨ z = 4) : hv mem n z z = ldW mem n z := by
  rcases hz with rfl | rfl
  · simp [hv, ldW]
  · simp only [hv, ldW]
    rw [show ((4 : Nat) : Int) - 1 - ((0 : Nat) : Int) = ((3 : Nat) : Int) from rfl, show ((4 : Nat) : Int) - 1 - ((1 : Nat) : Int) = ((2 : Nat) : Int) from rfl, show ((4 : Nat) : Int) - 1 - ((2 : Nat) : Int) = ((1 : Nat) : Int) from rfl, show ((4 : Nat) : Int) - 1 - ((3 : Nat) : Int) = ((0 : Nat) : Int) from rfl]
    rw [show (256 : Int) ^ 0 = 1 from rfl, show (256 : Int) ^ 1 = 256 from rfl, show (256 : Int) ^ 2 = 65536 from rfl, show (256 : Int) ^ 3 = 16777216 from rfl]
    generalize rg mem (n + ((0 : Nat) : Int)) = a
    generalize rg mem (n + ((1 : Nat) : Int)) = b
    generalize rg mem (n + ((2 : Nat) : Int)) = c
    generalize rg mem (n + ((3 : Nat) : Int)) = e
    omega
theorem hv_bound {mem : List Int} (h : ∀ x ∈ mem, 0 ≤ x ∧ x < 256) (n : Int) (z j : Nat) : 0 ≤ hv mem n z j ∧ hv mem n z j < 256 ^ j := by
  induction j with
  | zero => simp [hv]
  | succ j ih =>
    have hb := rg_byte h (n + (z - 1 - j : Int))
    simp only [hv, Int.pow_succ]
    omega
section
variable {d : Nat} {H : Heap} {E : Rf} {A : Arena} {S : List (Nat × Fr)} {s : Ms} {o tv : AV}
theorem load46 (h : RefAt E A S s o tv 0 0 false) {n : Int} {z : Nat} (hz : z = 1 ∨ z = 4) (h0 : 0 ≤ n) (h1 : n + z ≤ 65536) (X1 X2 : AV) (call : ACall) :
    iterN LB (s46.l0 call 1) [.ptr 0 E.ri 0, X1, X2, vi n, vi 0, vi ((z : Int) - 1)] (A :: H) = some (.exit 0, [X1, X2, vi (ldW s.mem n z)], A :: H) := by
  rw [← hv_ld hz]
  have hz4 : z ≤ 4 := by omega
  refine gives_eq (iter_gives (Inv := fun k st H' => st = [.ptr 0 E.ri 0, X1, X2, vi n, vi (hv s.mem n z k), vi ((z : Int) - 1 - k)] ∧ H' = A :: H) z (big_lt (by omega)) (fun k hk st H' hi => ?_) ⟨by simp [hv], rfl⟩)
  obtain ⟨rfl, rfl⟩ := hi
  rcases Nat.lt_or_ge k z with hlt | hge
  · left
    have hj := join_of h.run
    have c4 : (E.cells s o tv 0 0 false)[4]? = some (.sl 0 E.mi 0 65536 1) := rfl
    have hm := join_of h.mem
    have hi : (0 : Int) ≤ (z : Int) - 1 - k := by omega
    have hb := hv_bound h.ok.byte n z k
    have hb3 : hv s.mem n z k < 4294967296 := by
      have : (256 : Int) ^ k ≤ 256 ^ 4 := by
        have hk4 : k = 0 ∨ k = 1 ∨ k = 2 ∨ k = 3 := by omega
        rcases hk4 with rfl | rfl | rfl | rfl <;> decide
      have h4 : (256 : Int) ^ 4 = 4294967296 := by decide
      omega
    have hrb := rg_byte h.ok.byte (n + ((z : Int) - 1 - k))
    have w1 := wrap_ok (256 * hv s.mem n z k) (by omega) (by omega)
    have w2 := wrap_ok (n + ((z : Int) - 1 - k)) (by omega) (by omega)
    have w3 := wrap_ok (256 * hv s.mem n z k + rg s.mem (n + ((z : Int) - 1 - k))) (by omega) (by omega)
    have w4 := wrap_ok ((z : Int) - 1 - k - 1) (by omega) (by omega)
    have w5 := wrap_ok (rg s.mem (n + ((z : Int) - 1 - k))) (by omega) (by omega)
    have hix := ixS_nat (s := 1) (l := 0) (b := E.mi) (o := 0) (n := 65536) (z := 1) (k := n + ((z : Int) - 1 - k)) (by omega) (by simp; omega)
    have hr := rg_map (l := s.mem) (k := n + ((z : Int) - 1 - k)) vy (by omega) (by rw [h.ok.len]; simp; omega)
    simp only [Nat.zero_add, Nat.mul_one] at hix
    have hnext : 256 * hv s.mem n z k + rg s.mem (n + ((z : Int) - 1 - k)) = hv s.mem n z (k + 1) := rfl
    rw [hnext] at w3
    have hidx : (z : Int) - 1 - k - 1 = (z : Int) - 1 - (k + 1 : Nat) := by omega
    refine ⟨_, _, hlt, ?_, rfl, rfl⟩
    rw [hidx] at w4
    generalize ((z : Int) - 1 - (k + 1 : Nat)) = t2 at *
    generalize (z : Int) - 1 - k = t at *
    unfold s46.l0
    simp -implicitDefEqProofs [abin_geq, hi, abin_mul, w1, hj, c4, abin_add, w2, hix, hm, hr, w5, hnext, w3, abin_sub, hidx, w4]
  · right
    obtain rfl : k = z := by omega
    have hi : ¬ ((0 : Int) ≤ (k : Int) - 1 - k) := by omega
    refine ⟨_, ?_, ?_, rfl⟩
    · generalize (k : Int) - 1 - k = t at *
      unfold s46.l0
      simp -implicitDefEqProofs [abin_geq, hi]
    · simp
theorem store46 (hE : RfOk E) (h : RefAt E A S s o tv 0 0 false) {q : Nat} {I : List D} (hq : A[q]? = some (some (I.map .d))) (hqm : q ≠ E.mi) {n v : Int} {z : Nat} (h7 : I[7]? = some (.int .i64 z)) (hz : z ≤ 4) (h0 : 0 ≤ n) (h1 : n + z ≤ 65536) (hv : W v) (call : ACall) :
    iterN LB (s46.l1 call 1) [.ptr 0 E.ri 0, .ptr 0 q 0, vi n, vi v, vi 0] (A :: H) = some (.exit 2, [], A.set E.mi (some ((stW s.mem n v z).map vy)) :: H) := by
  have hlm := lt_of_get h.mem
  refine gives_eq (iter_gives (Inv := fun k st H' => st = [.ptr 0 E.ri 0, .ptr 0 q 0, vi n, vi (v / 256 ^ k), vi k] ∧ H' = A.set E.mi (some ((stW s.mem n v k).map vy)) :: H) z (big_lt (by omega)) (fun k hk st H' hi => ?_) ⟨by simp, ?_⟩)
  · obtain ⟨rfl, rfl⟩ := hi
    have jq : ((A.set E.mi (some ((stW s.mem n v k).map vy)))[q]?).join = some (I.map .d) := by rw [List.getElem?_set_ne (Ne.symm hqm)]; exact join_of hq
    rcases Nat.lt_or_ge k z with hlt | hge
    · left
      have hj : ((A.set E.mi (some ((stW s.mem n v k).map vy)))[E.ri]?).join = some (E.cells s o tv 0 0 false) := by rw [List.getElem?_set_ne (Ne.symm hE.rm)]; exact join_of h.run
      have c4 : (E.cells s o tv 0 0 false)[4]? = some (.sl 0 E.mi 0 65536 1) := rfl
      have hi : (k : Int) < z := by omega
      have w1 := wrap_ok (n + k) (by omega) (by omega)
      have w3 := wrap_ok ((k : Int) + 1) (by omega) (by omega)
      have hx0 : 0 ≤ v / 256 ^ k := Int.ediv_nonneg hv.1 (Int.le_of_lt (Int.pow_pos (by decide)))
      have hx1 : v / 256 ^ k ≤ v := Int.ediv_le_self _ hv.1
      have hv1 := hv.2
      have hnx : v / 256 ^ k / 256 = v / 256 ^ (k + 1) := by rw [Int.ediv_ediv_of_nonneg (Int.le_of_lt (Int.pow_pos (by decide)))]; rfl
      have hrem := fun t => abin_rem Try.prog t .i64 (v / 256 ^ k) 256 (by omega)
      have hquo := fun t => abin_quo Try.prog t .i64 (v / 256 ^ k) 256 (by omega)
      rw [Int.tmod_eq_emod_of_nonneg hx0] at hrem
      rw [Int.tdiv_eq_ediv_of_nonneg hx0, hnx, wrap_ok _ (by rw [← hnx]; omega) (by rw [← hnx]; omega)] at hquo
      have hix := ixS_nat (s := 1) (l := 0) (b := E.mi) (o := 0) (n := 65536) (z := 1) (k := n + k) (by omega) (by simp; omega)
      simp only [Nat.zero_add, Nat.mul_one] at hix
      have hst := stA_leaf (lim := 1) (A := A.set E.mi (some ((stW s.mem n v k).map vy))) (H := H) (i := E.mi) (o := (n + k).toNat) (v := vy (v / 256 ^ k % 256)) (c := (stW s.mem n v k).map vy) (by decide) rfl (by rw [List.getElem?_set_self hlm]; rfl) (by simp [stW_len, h.ok.len]; omega)
      rw [List.set_set, ← List.map_set] at hst
      have hnext : (stW s.mem n v k).set (n + k).toNat (v / 256 ^ k % 256) = stW s.mem n v (k + 1) := rfl
      rw [hnext] at hst
      have wy : IntKind.u8.wrap (v / 256 ^ k % 256) = v / 256 ^ k % 256 := by rw [wrap_y]; omega
      refine ⟨_, _, hlt, ?_, rfl, rfl⟩
      generalize v / 256 ^ (k + 1) = x2 at *
      generalize v / 256 ^ k = x at *
      unfold s46.l1
      simp -implicitDefEqProofs [jq, h7, abin_lss, hi, hj, c4, abin_add, w1, hrem, wy, hix, hst, hquo, w3]
    · right
      obtain rfl : k = z := by omega
      refine ⟨_, ?_, ?_, rfl⟩
      · unfold s46.l1
        simp -implicitDefEqProofs [jq, h7, abin_lss]
      · simp
  · have : A.set E.mi (some (s.mem.map vy)) = A := by
      apply List.ext_getElem?
      intro i
      rw [List.getElem?_set]
      split
      · rename_i h2
        subst h2
        first
          | exact h.mem.symm
          | (rw [if_pos hlm]; exact h.mem.symm)
      · rfl
    rw [show stW s.mem n v 0 = s.mem from rfl, this]
/-- A load or a store of the topmost call. -/
theorem memory46 (hE : RfOk E) {m : Mdl} {R : Nat} {f f0 : Fr} (h : RefAt E A ((R, f) :: S) s o tv 0 0 false) {p : Prc} (hr : RegsOk p f.regs) (h0 : f0.regs = f.regs) {i : Ins} (hi : insOk m p i = true) (hop : i.op = 5 ∨ i.op = 6) :
    ∃ A', evCall Try.prog C (d + 3) 1 46 [.ptr 0 E.ri 0, .agg (row (R, f0)), .agg ((iD i).map .d)] (A :: H) = some (.tup [], A' :: H) ∧
      (∀ j, j < A.length → j < E.k0 ∨ j ∈ blks o tv ((R, f) :: S) ∨ A'[j]? = A[j]?) ∧ A.length ≤ A'.length ∧
      match insP m E.inputs p f.low i f.regs s with
      | some x => RefAt E A' ((R, ⟨f.n, x.1, f.low, f.b, f.i⟩) :: S) x.2 o tv 0 0 false
      | none => RefAt E A' ((R, f) :: S) s o tv 0 12 true := by
  rw [evCall_inEq (fi := fi46) rfl rfl (b46 _ _ _ _ _ _)]
  unfold s46
  have h9 : i.op ≠ 9 := by omega
  have hrg := ins_regs hi h9
  have hl := hr.len
  have hz := size_of hrg.2.2.2 hop
  have hb := bx_agg (cs := row (R, f0)) (A := A) (H := H) rfl
  have h1 := h.push hE [some (row (R, f0))]
  have hq1 : (A ++ [some (row (R, f0))])[A.length]? = some (some (row (R, f0))) := by simp
  have hl1 : (A ++ [some (row (R, f0))]).length = A.length + 1 := by simp
  have hs1 : ∀ j, j < A.length → (A ++ [some (row (R, f0))])[j]? = A[j]? := fun j hj => List.getElem?_append_left hj
  generalize A ++ [some (row (R, f0))] = A1 at *
  have hb2 := bx_data (r := iD i) (A := A1) (H := H)
  have h2 := h1.push hE [some ((iD i).map AV.d)]
  have hq2 : (A1 ++ [some ((iD i).map AV.d)])[A1.length]? = some (some ((iD i).map AV.d)) := by simp
  have hq12 : (A1 ++ [some ((iD i).map AV.d)])[A.length]? = some (some (row (R, f0))) := by rw [List.getElem?_append_left (by omega)]; exact hq1
  have hs2 : ∀ j, j < A.length → (A1 ++ [some ((iD i).map AV.d)])[j]? = A[j]? := fun j hj => by rw [List.getElem?_append_left (by omega), hs1 j hj]
  have hl2 : (A1 ++ [some ((iD i).map AV.d)]).length = A.length + 2 := by simp [hl1]
  generalize A1 ++ [some ((iD i).map AV.d)] = A2 at *
  have j1 := join_of hq12
  have j2 := join_of hq2
  have r1 : (row (R, f0))[1]? = some (.sl 0 R 0 f.regs.length 1) := by show some (AV.sl 0 R 0 f0.regs.length 1) = _; rw [h0]
  have x0 : (iD i)[0]? = some (.int .i64 i.op) := rfl
  have x1 : (iD i)[1]? = some (.int .i64 i.d) := rfl
  have x2 : (iD i)[2]? = some (.int .i64 i.a) := rfl
  have x3 : (iD i)[3]? = some (.int .i64 i.b) := rfl
  have x6 : (iD i)[6]? = some (.int .i64 i.off) := rfl
  have x7 : (iD i)[7]? = some (.int .i64 i.size) := rfl
  have hR := (h2.regs (R, f) (by simp)).2
  have hRk := (h2.regs (R, f) (by simp)).1
  simp only at hR hRk
  have jR := join_of hR
  have ha := regOk_t (show regOk p i.a true = true by have := hrg.2.1; rcases hop with e | e <;> (rw [e] at this; exact this))
  have rd : ∀ k : Int, 0 ≤ k → k < p.regs → ixS 1 (.sl 0 R 0 f.regs.length 1) (vi k) = some (.ptr 0 R k.toNat) ∧ (f.regs.map vw)[k.toNat]? = some (vw (rg f.regs k)) := fun k a0 a1 => by
    have := ixS_nat (s := 1) (l := 0) (b := R) (o := 0) (n := f.regs.length) (z := 1) a0 (by omega)
    simp only [Nat.zero_add, Nat.mul_one] at this
    exact ⟨this, rg_map vw a0 (by omega)⟩
  obtain ⟨ga, ga2⟩ := rd i.a ha.1 ha.2
  have hcut := fun H => cut_ok (d := d + 1) (lim := 1) (H := H) (n := i.off)
  have hwo : IntKind.u32.wrap (rg f.regs i.a + i.off % 4294967296) = addrOf f.regs i := by rw [wrap_u]; unfold addrOf; omega
  have hwa : W (addrOf f.regs i) := w_mod _
  have hby := bytes69 (d := d + 1) (H := H) hE h2 hwa hz
  have hkeep : ∀ (A' : Arena), (∀ j, j < A.length → j ≠ E.ri → j ≠ E.mi → j ≠ R → A'[j]? = A2[j]?) → (∀ j, j < A.length → j < E.k0 ∨ j ∈ blks o tv ((R, f) :: S) ∨ A'[j]? = A[j]?) := fun A' hA j hj => by
    by_cases e1 : j < E.k0
    · exact .inl e1
    · by_cases e2 : j = R
      · exact .inr (.inl (by unfold blks; simp [e2]))
      · exact .inr (.inr (by rw [hA j hj (by have := hE.r; omega) (by have := hE.m; omega) e2, hs2 j hj]))
  cases hm : memAt (addrOf f.regs i) i.size with
  | none =>
    rw [hm] at hby
    have hx : insP m E.inputs p f.low i f.regs s = none := by rcases hop with e | e <;> simp [insP, e, hm]
    rw [hx]
    refine ⟨A2.set E.ri (some (E.cells s o tv 0 12 true)), ?_, hkeep _ fun j _ e1 _ _ => List.getElem?_set_ne (Ne.symm e1), by simp; omega, h2.cellsAt hE s.ins 0 12 true⟩
    generalize iD i = I at *
    generalize row (R, f0) = RW at *
    simp -implicitDefEqProofs [hb, hb2, j1, r1, j2, x2, ga, jR, ga2, x6, hcut, abin_add, hwo, x7, hby, abin_lss]
  | some n =>
    rw [hm] at hby
    obtain ⟨_, hn0, hn1⟩ := memAt_some hz hm
    obtain ⟨z, hzz⟩ : ∃ z : Nat, i.size = z := ⟨i.size.toNat, by omega⟩
    have hn0' : ¬ n < 0 := by omega
    rcases hop with e | e
    · have hx : insP m E.inputs p f.low i f.regs s = some (wr f.regs i.d (ldW s.mem n i.size.toNat), s) := by simp [insP, e, hm]
      rw [hx]
      have hd := regOk_t (show regOk p i.d true = true by have := hrg.1; rwa [e] at this)
      obtain ⟨gd, _⟩ := rd i.d hd.1 hd.2
      have hld := load46 (H := H) h2 (n := n) (z := z) (by omega) hn0 (by omega) (.ptr 0 A.length 0) (.ptr 0 A1.length 0) (evCall Try.prog C (d + 2) 1)
      have hlb := ldW_bound h2.ok.byte n z
      have hlb2 : ldW s.mem n z < 4294967296 := by
        rcases (show z = 1 ∨ z = 4 by omega) with rfl | rfl
        · exact Int.lt_of_lt_of_le hlb.2 (by decide)
        · exact Int.lt_of_lt_of_le hlb.2 (by decide)
      have wz : IntKind.u32.wrap (ldW s.mem n z) = ldW s.mem n z := by rw [wrap_u]; omega
      have w1 : IntKind.i64.wrap (i.size - 1) = i.size - 1 := wrap_ok _ (by omega) (by omega)
      have hst := stA_leaf (lim := 1) (A := A2) (H := H) (i := R) (o := i.d.toNat) (v := vw (ldW s.mem n z)) (c := f.regs.map vw) (by decide) rfl jR (by simp; omega)
      have hfin := h2.setRegs hE (r := wr f.regs i.d (ldW s.mem n z)) (wr_len _ _ _)
      rw [show (wr f.regs i.d (ldW s.mem n z)).map vw = (f.regs.map vw).set i.d.toNat (vw (ldW s.mem n z)) by simp [wr, List.map_set]] at hfin
      rw [hzz] at w1
      have hzt : i.size.toNat = z := by omega
      rw [hzt]
      refine ⟨A2.set R (some ((f.regs.map vw).set i.d.toNat (vw (ldW s.mem n z)))), ?_, hkeep _ fun j _ _ _ e3 => List.getElem?_set_ne (Ne.symm e3), by simp; omega, hfin⟩
      rw [hzz] at x7 hby
      generalize ldW s.mem n z = LD at *
      generalize iD i = I at *
      generalize row (R, f0) = RW at *
      unfold lp
      simp -implicitDefEqProofs [hb, hb2, j1, r1, j2, x0, x1, x2, ga, jR, ga2, x6, hcut, abin_add, hwo, x7, hby, abin_lss, hn0', abin_eql, e, abin_sub, w1, hld, bnd_eq, wz, gd, hst]
    · have hx : insP m E.inputs p f.low i f.regs s = some (f.regs, ⟨stW s.mem n (rg f.regs i.b) i.size.toNat, s.out, s.ins⟩) := by simp [insP, e, hm]
      rw [hx]
      have hbr := regOk_t (show regOk p i.b true = true by have := hrg.2.2.1; rwa [e] at this)
      obtain ⟨gb, gb2⟩ := rd i.b hbr.1 hbr.2
      have hwb := rg_w hr.w i.b
      have wb : IntKind.i64.wrap (rg f.regs i.b) = rg f.regs i.b := by have := hwb.1; have := hwb.2; exact wrap_ok _ (by omega) (by omega)
      rw [hzz] at x7 hby
      have hqm : A1.length ≠ E.mi := by have := hE.m; have := h1.k0; omega
      have hsl := store46 (H := H) hE h2 hq2 hqm x7 (by omega) hn0 (by omega) hwb (evCall Try.prog C (d + 2) 1)
      have hzt : i.size.toNat = z := by omega
      rw [hzt]
      refine ⟨A2.set E.mi (some ((stW s.mem n (rg f.regs i.b) z).map vy)), ?_, hkeep _ fun j _ _ e2 _ => List.getElem?_set_ne (Ne.symm e2), by simp; omega, h2.memAt' hE _ (by rw [stW_len, h2.ok.len]) (stW_byte h2.ok.byte _ _ _)⟩
      generalize rg f.regs i.b = vb' at *
      generalize (stW s.mem n vb' z).map vy = M2 at *
      generalize iD i = I at *
      generalize row (R, f0) = RW at *
      unfold lp
      simp -implicitDefEqProofs [hb, hb2, j1, r1, j2, x0, x1, x2, x3, ga, jR, ga2, x6, hcut, abin_add, hwo, x7, hby, abin_lss, hn0', abin_eql, e, gb, gb2, wb, hsl, bnd_eq]
end
end Go.Ev.Try
