import Derived.Test.YtkbimbpaaikkeaaDoorE1
import Derived.Lib.UnsafeStr
import Derived.Orders
import Derived.Tactics
import Derived.LoopN
set_option linter.unusedSimpArgs false
set_option linter.unusedVariables false
/- Operations that read, write and make memory: what the evaluator says is what the machine does. -/
namespace Go.Ev
open Go Go.RowKit

section
variable {P : Program} {I : IM} {G : GM} {H : Heap} {base : Nat} {w : World}

/-- What an operation makes of the heap and of memory. -/
structure Step (I : IM) (G : GM) (H : Heap) (base lim : Nat) (w : World) (G' : GM) (H' : Heap) (w' : World) : Prop where
  le : GM.le G G'
  rel : HRel I G' H' base w'
  below : Below base w w'
  drop : H'.drop lim = H.drop lim
  len : H'.length = H.length
theorem Step.same (h : HRel I G H base w) (lim : Nat) : Step I G H base lim w G H w := ⟨GM.le.refl _, h, Below.refl _ _, rfl, rfl⟩

theorem below_setRow {base g : Nat} {w : World} (hg : base ≤ g) (cs : Array Value) : Below base w (w.setRow g cs) :=
  ⟨rfl, rfl, rfl, by simp, fun k hk => setRow_other w g k cs (by omega)⟩

theorem cell_blk {g : Nat} {E : TypeId} {vs rest : List Value} (h : w.heap[g]? = some (.cells (vs ++ rest).toArray E (0, 0))) {j : Nat} {v : Value} (hv : vs[j]? = some v) : w.cell? ⟨g, j, none⟩ = some v := by
  have hj : j < vs.length := (List.getElem?_eq_some_iff.1 hv).1
  rw [cell_of_row w g j _ E (0, 0) h]
  simp [List.getElem?_append_left hj, hv]

theorem upN_one {l : Nat} {x z : AV} (e : (upN l [x])[0]? = some z) {v : Value} (h : VR I (G.at l) x v) : VR I G z v := by
  have := (VRs.upN (I := I) (G := G) l (.cons h (VRs.nil _ _))).2 0 z v e rfl
  exact this

theorem aload_spec {t : TypeId} {a z : AV} (e : aload P H t a = some z) (hr : HRel I G H base w) {v : Value} (hv : VR I G a v) : ∃ r, (Instr.loadAt t v).run P w = .ok r w ∧ VR I G z r := by
  simp only [aload, Option.bind_eq_some_iff] at e
  obtain ⟨ag, hag, e⟩ := e
  split at e
  · rename_i l i o
    simp only [Option.bind_eq_some_iff] at e
    obtain ⟨c, hc, e⟩ := e
    cases hv with | @ptr _ _ _ g sz hG =>
    obtain ⟨g', E, vs, rest, h1, h2, h3, h4, h5⟩ := hr.blk l i c hc
    rw [hG] at h1
    injection h1 with h1
    injection h1 with h1 h1'
    subst h1
    cases ag with
    | true =>
      simp only [cond_true, Option.bind_eq_some_iff, Option.map_eq_some_iff] at e
      obtain ⟨n, hn, cs, hcs, rfl⟩ := e
      obtain ⟨hfit, rfl⟩ := cut_spec hcs
      have hl : vs.length = c.length := h5.1.symm
      have hlen : ((vs.drop o).take n).length = n := by simp; omega
      have hload := run_loadCells_list (P := P) w ⟨g, o, none⟩ ((vs.drop o).take n) (fun j v hj => by
        rw [add_plain]
        rw [List.getElem?_take] at hj
        split at hj
        · rw [List.getElem?_drop] at hj; exact cell_blk h3 hj
        · cases hj)
      rw [hlen] at hload
      have hup := VRs.upN l ((h5.drop o).take n)
      exact ⟨.agg ((vs.drop o).take n).toArray, by simp [Instr.loadAt, Instr.sureAddr, loadVar, run_aggT hag, run_szOf hn, hload], .agg hup.1 hup.2⟩
    | false =>
      simp only [cond_false, Option.bind_eq_some_iff] at e
      obtain ⟨x, hx, e⟩ := e
      obtain ⟨v, hv, hxv⟩ := h5.get hx
      exact ⟨v, by simp [Instr.loadAt, Instr.sureAddr, loadVar, run_aggT hag, cell_blk h3 hv], upN_one e hxv⟩
  · rename_i c o
    cases hv with | @dptr _ _ g b vs k1 k2 =>
    cases ag with
    | true =>
      simp only [cond_true, Option.bind_eq_some_iff, Option.map_eq_some_iff] at e
      obtain ⟨n, hn, cs, hcs, rfl⟩ := e
      obtain ⟨hfit, rfl⟩ := cut_spec hcs
      have hload := run_loadCells (P := P) w ⟨g, b + o, none⟩ n (fun j => vs (o + j)) (fun j hj => by
        rw [add_plain, Nat.add_assoc]
        exact hr.imm g _ _ (k1 (o + j) (by omega)))
      refine ⟨.agg ((List.range n).map fun j => vs (o + j)).toArray, by simp [Instr.loadAt, Instr.sureAddr, loadVar, run_aggT hag, run_szOf hn, hload], .agg (by simp; omega) (fun j x v hx hv => ?_)⟩
      rw [List.getElem?_map] at hx hv
      rw [List.getElem?_take] at hx
      split at hx
      · rename_i hj
        rw [List.getElem?_drop] at hx
        rw [List.getElem?_range hj] at hv
        simp at hv
        subst hv
        simp only [Option.map_eq_some_iff] at hx
        obtain ⟨y, hy, rfl⟩ := hx
        exact .d (k2 _ y hy)
      · simp at hx
    | false =>
      simp only [cond_false, Option.map_eq_some_iff] at e
      obtain ⟨y, hy, rfl⟩ := e
      have hlt : o < c.length := (List.getElem?_eq_some_iff.1 hy).1
      exact ⟨vs o, by simp [Instr.loadAt, Instr.sureAddr, loadVar, run_aggT hag, hr.imm g _ _ (k1 o hlt)], .d (k2 o y hy)⟩
  · cases e

theorem oneCells {I : IM} {G : GM} {cs : List AV} {vs : List Value} (h : VRs I G cs vs) (hl : cs.all AV.leaf = true) : ∀ v ∈ vs, v.oneCell' = true := by
  intro v hv
  obtain ⟨j, hj, rfl⟩ := List.mem_iff_getElem.1 hv
  have hj' : j < cs.length := by have := h.1; omega
  have := h.2 j cs[j] vs[j] (List.getElem?_eq_getElem hj') (List.getElem?_eq_getElem hj)
  exact this.oneCell (by have := List.all_eq_true.1 hl cs[j] (List.getElem_mem hj'); exact this)
theorem all_setMany {p : AV → Bool} : ∀ (vs c : List AV) (o : Nat), c.all p = true → vs.all p = true → (setMany c o vs).all p = true
  | [], c, o, h, _ => h
  | v :: vs, c, o, h, k => by
    simp only [List.all_cons, Bool.and_eq_true] at k
    refine all_setMany vs (c.set o v) (o + 1) ?_ k.2
    rw [List.all_eq_true] at h ⊢
    intro x hx
    rcases List.mem_or_eq_of_mem_set hx with hx | rfl
    · exact h x hx
    · exact k.1

/-- Cells are laid over a block's. -/
theorem HRel.over (hr : HRel I G H base w) {l i : Nat} {c : List AV} (hc : getB H l i = some c) {g : Nat} {sz : Nat × TypeId} (hG : G l i = some (g, sz)) {cs : List AV} {us : List Value} (hv : VRs I (G.at l) cs us) (hl : cs.all AV.leaf = true)
    {o : Nat} (hfit : o + cs.length ≤ c.length) : ∃ w', (storeCells ⟨g, o, none⟩ us).run P w = .ok () w' ∧ HRel I G (setB H l i (some (setMany c o cs))) base w' ∧ Below base w w' := by
  obtain ⟨g', E, vs, rest, h1, h2, h3, h4, h5⟩ := hr.blk l i c hc
  rw [hG] at h1
  injection h1 with h1
  injection h1 with h1 h1'
  subst h1 h1'
  have hlen : vs.length = c.length := h5.1.symm
  have hus : us.length = cs.length := hv.1.symm
  have hst := run_storeCells_at P g o E us 0 (vs ++ rest).toArray w h3 (by simp; omega) (oneCells hv hl)
  have harr : ((vs ++ rest).toArray.toList.take (o + 0) ++ us ++ (vs ++ rest).toArray.toList.drop (o + 0 + us.length)).toArray = (setMany vs o us ++ rest).toArray := by
    rw [setMany_eq us vs o (by omega)]
    simp only [Nat.add_zero]
    rw [List.take_append_of_le_length (by omega), List.drop_append_of_le_length (by omega)]
    simp
  rw [harr] at hst
  exact ⟨_, hst, hr.write hc hG h3 (all_setMany cs c o h4 hl) (VRs.setMany hv h5 o) (setMany_length us vs o), below_setRow h2 _⟩

theorem astore_spec {lim : Nat} {t : TypeId} {a x : AV} {H' : Heap} (e : astore P lim H t a x = some H') (hr : HRel I G H base w) {v u : Value} (hv : VR I G a v) (hu : VR I G x u) :
    ∃ w', (Instr.storeAt t v u).run P w = .ok () w' ∧ Step I G H base lim w G H' w' := by
  unfold astore at e
  split at e
  · rename_i l i o
    cases hl : Nat.blt l lim with
    | false => rw [hl] at e; cases e
    | true =>
      rw [hl] at e
      simp only [cond_true, Option.bind_eq_some_iff] at e
      obtain ⟨cs, hcs, n, hn, e⟩ := e
      cases hne : (n == cs.length) with
      | false => rw [hne] at e; cases e
      | true =>
        rw [hne] at e
        obtain rfl : n = cs.length := by simpa using hne
        simp only [cond_true, Option.bind_eq_some_iff] at e
        obtain ⟨cs', hcs', c, hc, e⟩ := e
        cases hfit : Nat.ble (o + cs.length) c.length with
        | false => rw [hfit] at e; cases e
        | true =>
          rw [hfit] at e
          simp only [cond_true, Option.some.injEq] at e
          subst e
          obtain ⟨hcv, hleaf⟩ := acells_spec hcs hu
          cases hv with | @ptr _ _ _ g sz hG =>
          have hdn := hcv.downN l hcs'
          have hdl := downN_leaf hcs' hleaf
          have hdlen := downN_length hcs'
          obtain ⟨w', hw', hrel, hbel⟩ := hr.over (P := P) hc hG hdn hdl (o := o) (by rw [hdlen]; exact Nat.le_of_ble_eq_true hfit)
          refine ⟨w', ?_, ⟨GM.le.refl _, hrel, hbel, setB_drop H l i _ lim (Nat.le_of_ble_eq_true hl), setB_length _ _ _ _⟩⟩
          have hsz : u.cells.size = cs.length := by have := hcv.1; simpa using this.symm
          simp [Instr.storeAt, Instr.sureAddr, storeVar, run_szOf hn, hsz, hw']
  · cases e

/-- A new block. -/
theorem HRel.pushB (hr : HRel I G H base w) {c : List AV} {n : Nat} {H' : Heap} (e : Ev.pushB H c = some (n, H')) {lim : Nat} (hlim : 1 ≤ lim) (hc : c.all AV.leaf = true) {vs : List Value} (hv : VRs I G c vs) (rest : List Value) (E : TypeId) :
    ∃ G', Step I G H base lim w G' H' (w.alloc (.cells (vs ++ rest).toArray E)) ∧ G' 0 n = some (w.heap.size, vs.length + rest.length, E) ∧ VRs I G' c vs := by
  obtain ⟨A, Ht, rfl, rfl, rfl⟩ := pushB_spec e
  refine ⟨G.put A.length w.heap.size (vs.length + rest.length, E), ⟨GM.put_le hr.no_next, hr.push hc hv, (Below.refl _ _).alloc hr.base _, ?_, rfl⟩, by simp [GM.put], hv.mono (IM.le.refl _) (GM.put_le hr.no_next)⟩
  cases lim with
  | zero => omega
  | succ n => simp

theorem azero_spec {t : TypeId} {z : List AV} (e : azero P t = some z) : ∃ v, (∀ w, (zeroValue t).run P w = .ok v w) ∧ VRs I G z v.cells.toList ∧ z.all AV.leaf = true := by
  simp only [azero, Option.bind_eq_some_iff] at e
  obtain ⟨i, hi, v, hv, e⟩ := e
  exact ⟨v, fun w => by simp [zeroValue, typeInfo, hi, hv], acells_spec e (aconst_spec v)⟩

theorem alloc_spec {lim : Nat} (hlim : 1 ≤ lim) {t : TypeId} {z : AV} {H' : Heap} (e : ((azero P t).bind fun z => (pushB H z).map fun r => (bif bldT == some t && Nat.beq z.length 2 then AV.bptr 0 r.1 else AV.ptr 0 r.1 0, r.2)) = some (z, H')) (hr : HRel I G H base w) :
    ∃ r w' G', (Instr.alloc t true (.tuple #[])).run P w = .ok r w' ∧ VR I G' z r ∧ Step I G H base lim w G' H' w' := by
  simp only [Option.bind_eq_some_iff, Option.map_eq_some_iff] at e
  obtain ⟨c, hc, ⟨n, H1⟩, hp, e⟩ := e
  cases e
  obtain ⟨v, hz, hcv, hleaf⟩ := azero_spec (I := I) (G := G) hc
  obtain ⟨G', hst, hg, _⟩ := hr.pushB hp hlim hleaf hcv [] t
  simp only [List.append_nil, Array.toArray_toList] at hst
  refine ⟨.pointer (some ⟨w.heap.size, 0, none⟩), w.alloc (.cells v.cells t), G', by simp [Instr.alloc, hz, newVar, newRow], ?_, hst⟩
  cases hb : (bldT == some t && Nat.beq c.length 2) with
  | false => exact .ptr hg
  | true =>
    simp only [Bool.and_eq_true, beq_iff_eq, nbeq] at hb
    exact .bptr hg hb.1 (by have := hcv.1; simp; simp at this; omega)
theorem box_spec {lim : Nat} (hlim : 1 ≤ lim) (t : TypeId) {x z : AV} {H' : Heap} (e : ((acells x).bind fun z => (pushB H z).map fun r => (AV.ptr 0 r.1 0, r.2)) = some (z, H')) (hr : HRel I G H base w) {v : Value} (hv : VR I G x v) :
    ∃ r w' G', (Instr.box t v).run P w = .ok r w' ∧ VR I G' z r ∧ Step I G H base lim w G' H' w' := by
  simp only [Option.bind_eq_some_iff, Option.map_eq_some_iff] at e
  obtain ⟨c, hc, ⟨n, H1⟩, hp, e⟩ := e
  cases e
  obtain ⟨hcv, hleaf⟩ := acells_spec hc hv
  obtain ⟨G', hst, hg, _⟩ := hr.pushB hp hlim hleaf hcv [] t
  simp only [List.append_nil, Array.toArray_toList] at hst
  exact ⟨_, _, G', by simp [Instr.box, newVar, newRow], .ptr hg, hst⟩

/-! ### Literals -/
/-- Parts beside parts. -/
def PRs (I : IM) (G : GM) (ps : List (Nat × AV)) (qs : List (Nat × Value)) : Prop := ps.length = qs.length ∧ ∀ (j : Nat) x v, ps[j]? = some x → qs[j]? = some v → x.1 = v.1 ∧ VR I G x.2 v.2
theorem foldl_set_eq : ∀ (us : List Value) (off : Nat) (cs : Array Value) (k : Nat), ((us.zipIdx k).foldl (fun (a : Array Value) (p : Value × Nat) => a.setIfInBounds (off + p.2) p.1) cs).toList = setMany cs.toList (off + k) us
  | [], _, _, _ => rfl
  | u :: us, off, cs, k => by
    simp only [List.zipIdx_cons, List.foldl_cons, setMany]
    rw [foldl_set_eq us off _ (k + 1)]
    simp [Nat.add_assoc]
theorem afill_spec {place : Nat → Option (Nat × Nat)} : ∀ {ps : List (Nat × AV)} {qs : List (Nat × Value)} (_ : PRs I G ps qs) {c r : List AV} (_ : afill place c ps = some r) {vs : Array Value} (_ : VRs I G c vs.toList) (_ : c.all AV.leaf = true),
    ∃ us, Instr.fill place vs qs = some us ∧ VRs I G r us.toList ∧ r.all AV.leaf = true
  | [], qs, h, c, r, e, vs, hv, hl => by
    have hq : qs = [] := List.eq_nil_of_length_eq_zero (by have := h.1; simpa using this.symm)
    subst hq
    simp [afill] at e
    subst e
    exact ⟨vs, rfl, hv, hl⟩
  | p :: ps, [], h, _, _, _, _, _, _ => by have := h.1; simp at this
  | p :: ps, q :: qs, h, c, r, e, vs, hv, hl => by
    simp only [afill, Option.bind_eq_some_iff] at e
    obtain ⟨pl, hpl, x, hx, e⟩ := e
    have h0 := h.2 0 p q rfl rfl
    obtain ⟨hxv, hxl⟩ := acells_spec hx h0.2
    cases ht : (x.length == pl.2 && Nat.ble (pl.1 + x.length) c.length) with
    | false => rw [ht] at e; cases e
    | true =>
      rw [ht] at e
      simp only [cond_true] at e
      simp only [Bool.and_eq_true, beq_iff_eq] at ht
      have hfit : pl.1 + x.length ≤ c.length := Nat.le_of_ble_eq_true ht.2
      have hxs : q.2.cells.size = x.length := by have := hxv.1; simpa using this.symm
      have hvs : vs.size = c.length := by have := hv.1; simpa using this.symm
      have hstep : Instr.fill place vs (q :: qs) = Instr.fill place (q.2.cells.zipIdx.foldl (fun cs (c, j) => cs.setIfInBounds (pl.1 + j) c) vs) qs := by
        obtain ⟨q1, q2⟩ := q
        have h01 : p.1 = q1 := h0.1
        simp only [Instr.fill]
        rw [← h01, hpl]
        simp only at hxs
        simp only
        rw [if_neg]
        simp only [Bool.or_eq_true, decide_eq_true_eq, not_or]
        omega
      have hfold : (q.2.cells.zipIdx.foldl (fun (cs : Array Value) (p : Value × Nat) => cs.setIfInBounds (pl.1 + p.2) p.1) vs).toList = setMany vs.toList pl.1 q.2.cells.toList := by
        rw [← Array.foldl_toList, Array.toList_zipIdx]
        have := foldl_set_eq q.2.cells.toList pl.1 vs 0
        simpa using this
      obtain ⟨us, hus, k1, k2⟩ := afill_spec (place := place) (ps := ps) (qs := qs) ⟨by have := h.1; simpa using this, fun j x v e f => h.2 (j + 1) x v (by simpa using e) (by simpa using f)⟩ e
        (vs := q.2.cells.zipIdx.foldl (fun (cs : Array Value) (p : Value × Nat) => cs.setIfInBounds (pl.1 + p.2) p.1) vs) (by rw [hfold]; exact VRs.setMany hxv hv pl.1) (all_setMany x c pl.1 hl hxl)
      exact ⟨us, by rw [hstep]; exact hus, k1, k2⟩
theorem aplaces_spec : ∀ {fs : List Field} {ps : List (Nat × Nat)} (_ : aplaces P fs = some ps) (w : World), (fs.mapM fun f => (do pure (f.offset, ← sizeOf f.type) : Sem (Nat × Nat))).run P w = .ok ps w
  | [], ps, e, w => by simp [aplaces] at e; subst e; rfl
  | f :: fs, ps, e, w => by
    simp only [aplaces, Option.bind_eq_some_iff, Option.map_eq_some_iff] at e
    obtain ⟨n, hn, r, hr, rfl⟩ := e
    simp only [List.mapM_cons, Sem.run_bind, run_szOf hn, Result.andThen_ok, Sem.run_pure, aplaces_spec hr w]
theorem abuild_spec {t : TypeId} {ps : List (Nat × AV)} {z : AV} (e : abuild P t ps = some z) {qs : List (Nat × Value)} (h : PRs I G ps qs) : ∃ r, (Instr.build t qs.toArray).run P w = .ok r w ∧ VR I G z r := by
  simp only [abuild, Option.bind_eq_some_iff] at e
  obtain ⟨c, hc, e⟩ := e
  obtain ⟨v, hz, hcv, hleaf⟩ := azero_spec (I := I) (G := G) hc
  split at e
  · rename_i fs h1
    simp only [Option.bind_eq_some_iff, Option.map_eq_some_iff] at e
    obtain ⟨pl, hpl, r, hr, rfl⟩ := e
    obtain ⟨us, hus, k1, k2⟩ := afill_spec h hr hcv hleaf
    have hm := aplaces_spec hpl w
    refine ⟨.agg us, ?_, by have := VR.agg k1.1 k1.2; simpa using this⟩
    have hm' : (fs.mapM fun f => (do pure (f.offset, ← sizeOf f.type) : Sem (Nat × Nat))).run P w = .ok pl.toArray w := by
      rw [Array.mapM_eq_mapM_toList, Sem.run_map, hm]
      rfl
    have hpl' : (fun i : Nat => pl.toArray[i]?) = fun i : Nat => pl[i]? := by funext i; simp
    simp only [Instr.build, Sem.run_bind, hz, Result.andThen_ok, run_underlying h1, hm', hpl', hus]
    rfl
  · rename_i len el h1
    simp only [Option.bind_eq_some_iff, Option.map_eq_some_iff] at e
    obtain ⟨s, hs, r, hr, rfl⟩ := e
    obtain ⟨us, hus, k1, k2⟩ := afill_spec h hr hcv hleaf
    refine ⟨.agg us, ?_, by have := VR.agg k1.1 k1.2; simpa using this⟩
    simp only [Instr.build, Sem.run_bind, hz, Result.andThen_ok, run_underlying h1, run_szOf hs, hus]
    rfl
  · cases e
end
end Go.Ev

/- Slices made, appended to and copied: what the evaluator says is what the machine does. -/
namespace Go.Ev
open Go Go.RowKit

section
variable {P : Program} {I : IM} {G : GM} {H : Heap} {base : Nat} {w : World}

theorem reps_length (z : List AV) : ∀ n, (reps z n).length = n * z.length
  | 0 => by simp [reps]
  | n + 1 => by simp [reps, reps_length z n, Nat.add_mul]; omega
theorem reps_get (z : List AV) : ∀ (n j : Nat), j < n * z.length → (reps z n)[j]? = z[j % z.length]?
  | 0, j, h => by simp at h
  | n + 1, j, h => by
    simp only [reps]
    rcases Nat.lt_or_ge j z.length with hj | hj
    · rw [List.getElem?_append_left hj, Nat.mod_eq_of_lt hj]
    · rw [List.getElem?_append_right hj, reps_get z n (j - z.length) (by rw [Nat.add_mul] at h; omega), Nat.mod_eq_sub_mod hj]
theorem reps_all {p : AV → Bool} {z : List AV} (h : z.all p = true) : ∀ n, (reps z n).all p = true
  | 0 => rfl
  | n + 1 => by simp [reps, h, reps_all h n]
theorem reps_spec {z : List AV} {vs : Array Value} (h : VRs I G z vs.toList) (n : Nat) : VRs I G (reps z n) (((Array.range (n * vs.size)).map (vs[· % vs.size]!))).toList := by
  have hl : z.length = vs.size := by have := h.1; simpa using this
  refine ⟨by simp [reps_length, hl], fun j x v hx hv => ?_⟩
  simp only [Array.toList_map, Array.toList_range, List.getElem?_map, Option.map_eq_some_iff] at hv
  obtain ⟨k, hk, rfl⟩ := hv
  have hj : j < n * vs.size := by
    have := (List.getElem?_eq_some_iff.1 hk).1
    simpa using this
  rw [List.getElem?_range hj] at hk
  cases hk
  rw [reps_get z n j (by rw [hl]; exact hj), hl] at hx
  have hm : j % vs.size < vs.size := Nat.mod_lt _ (Nat.pos_of_ne_zero fun e => by rw [e] at hj; simp at hj)
  refine h.2 (j % vs.size) x _ hx ?_
  simp [hm]

theorem abuildSlice_spec {lim : Nat} (hlim : 1 ≤ lim) {t : TypeId} {n : Nat} {ps : List (Nat × AV)} {z : AV} {H' : Heap} (e : abuildSlice P H t n ps = some (z, H')) (hr : HRel I G H base w) {qs : List (Nat × Value)} (h : PRs I G ps qs) :
    ∃ r w' G', (Instr.buildSlice t n qs.toArray).run P w = .ok r w' ∧ VR I G' z r ∧ Step I G H base lim w G' H' w' := by
  unfold abuildSlice at e
  split at e
  · rename_i el h1
    simp only [Option.bind_eq_some_iff] at e
    obtain ⟨s, hs, e⟩ := e
    cases hc : (Nat.ble (n * s) 16777216 && Nat.blt 0 s) with
    | false => rw [hc] at e; cases e
    | true =>
      rw [hc] at e
      simp only [Bool.and_eq_true] at hc
      have hle : n * s ≤ 16777216 := Nat.le_of_ble_eq_true hc.1
      have hpos : 0 < s := Nat.le_of_ble_eq_true hc.2
      simp only [cond_true, Option.bind_eq_some_iff] at e
      obtain ⟨zc, hz, e⟩ := e
      cases hzl : (zc.length == s) with
      | false => rw [hzl] at e; cases e
      | true =>
        rw [hzl] at e
        obtain rfl : zc.length = s := by simpa using hzl
        simp only [cond_true, Option.bind_eq_some_iff, Option.map_eq_some_iff] at e
        obtain ⟨cs, hcs, ⟨k, H1⟩, hp, e⟩ := e
        cases e
        obtain ⟨v, hzv, hcv, hleaf⟩ := azero_spec (I := I) (G := G) hz
        have hsz : v.cells.size = zc.length := by have := hcv.1; simpa using this.symm
        have hrep := reps_spec hcv n
        obtain ⟨us, hus, k1, k2⟩ := afill_spec h hcs hrep (reps_all hleaf n)
        obtain ⟨G', hst, hg, _⟩ := hr.pushB hp hlim k2 k1 [] el
        simp only [List.append_nil, Array.toArray_toList] at hst
        have hul : us.size = n * zc.length := by
          have h2 : (setMany (reps zc n) 0 []).length = n * zc.length := by simp [setMany, reps_length]
          have hfl : ∀ (place : Nat → Option (Nat × Nat)) (ps : List (Nat × AV)) (c r : List AV), afill place c ps = some r → r.length = c.length := by
            intro place ps
            induction ps with
            | nil => intro c r e; simp [afill] at e; subst e; rfl
            | cons p ps ih =>
              intro c r e
              simp only [afill, Option.bind_eq_some_iff] at e
              obtain ⟨pl, _, x, _, e⟩ := e
              cases hq : (x.length == pl.2 && Nat.ble (pl.1 + x.length) c.length) with
              | false => rw [hq] at e; cases e
              | true => rw [hq] at e; simp only [cond_true] at e; rw [ih _ _ e, setMany_length]
          have h3 := hfl _ _ _ _ hcs
          have h4 := k1.1
          rw [reps_length] at h3
          simp at h4
          omega
        refine ⟨.slice (some ⟨w.heap.size, 0, none⟩) n n, _, G', ?_, .sl hg (Nat.le_refl _) (by simp [hul]) (.inr rfl), hst⟩
        simp only [Instr.buildSlice, Sem.run_bind, run_underlying h1, Result.andThen_ok, run_szOf hs, Sem.run_ite]
        rw [if_neg (by omega)]
        simp only [Sem.run_pure, Result.andThen_ok]
        by_cases h0 : n * zc.length = 0
        · rw [if_pos h0]
          have hus' : Instr.fill (fun i => some (i * zc.length, zc.length)) ((Array.range (n * zc.length)).map ((#[] : Array Value)[· % (#[] : Array Value).size]!)) qs = some us := by
            have e0 : ∀ f : Nat → Value, Array.map f (Array.range 0) = #[] := fun f => by simp
            rw [hsz] at hus
            rw [h0, e0] at hus ⊢
            exact hus
          simp only [hus', newRow, Sem.run_bind, run_newObj, Result.andThen_ok, Sem.run_pure]
          rfl
        · rw [if_neg h0]
          rw [show n * v.cells.size = n * zc.length by rw [hsz]] at hus
          simp only [hzv, Result.andThen_ok, hus, newRow, Sem.run_bind, run_newObj, Sem.run_pure]
          rfl
  · cases e

theorem wrap_small {n : Int} (h0 : 0 ≤ n) (h : n ≤ 140737488355328) : IntKind.i64.wrap n = n := by
  simp [IntKind.wrap, IntKind.bits, IntKind.signed]
  omega
theorem amake_spec {lim : Nat} (hlim : 1 ≤ lim) {t : TypeId} {l c z : AV} {H' : Heap} (e : amake P H t l c = some (z, H')) (hr : HRel I G H base w) {lv cv : Value} (hl : VR I G l lv) (hc : VR I G c cv) :
    ∃ r w' G', (Instr.makeSlice t lv cv).run P w = .ok r w' ∧ VR I G' z r ∧ Step I G H base lim w G' H' w' := by
  unfold amake at e
  split at e
  · rename_i el h1
    simp only [Option.bind_eq_some_iff] at e
    obtain ⟨i, hi, ln, hln, cn, hcn, e⟩ := e
    obtain ⟨k, rfl⟩ := asI_spec hln hl
    obtain ⟨k', rfl⟩ := asI_spec hcn hc
    cases hq : (decide (0 ≤ ln) && decide (ln ≤ cn) && decide (cn ≤ 140737488355328) && decide (i.bytes * cn ≤ 140737488355328) && Nat.blt 0 i.size) with
    | false => rw [hq] at e; cases e
    | true =>
      rw [hq] at e
      simp only [Bool.and_eq_true, decide_eq_true_eq] at hq
      obtain ⟨⟨⟨⟨q1, q2⟩, q3⟩, q4⟩, q5⟩ := hq
      have hpos : 0 < i.size := Nat.le_of_ble_eq_true q5
      simp only [cond_true, Option.bind_eq_some_iff] at e
      obtain ⟨zc, hz, e⟩ := e
      cases hzl : (zc.length == i.size) with
      | false => rw [hzl] at e; cases e
      | true =>
        rw [hzl] at e
        have hzl' : zc.length = i.size := by simpa using hzl
        simp only [cond_true, Option.map_eq_some_iff] at e
        obtain ⟨⟨n, H1⟩, hp, e⟩ := e
        cases e
        obtain ⟨v, hzv, hcv, hleaf⟩ := azero_spec (I := I) (G := G) hz
        have hsz : v.cells.size = i.size := by have := hcv.1; simp at this; omega
        have hrep := reps_spec hcv cn.toNat
        obtain ⟨G', hst, hg, _⟩ := hr.pushB hp hlim (reps_all hleaf _) hrep [] el
        simp only [List.append_nil, Array.toArray_toList] at hst
        refine ⟨.slice (some ⟨w.heap.size, 0, none⟩) ln.toNat cn.toNat, _, G', ?_, .sl hg (by omega) (by simp [hsz]) (.inr rfl), hst⟩
        have w1 : IntKind.i64.wrap ln = ln := wrap_small q1 (by omega)
        have w2 : IntKind.i64.wrap cn = cn := wrap_small (by omega) q3
        have hszof : ∀ w, (sizeOf el).run P w = .ok i.size w := run_szOf (by simp [szOf, hi])
        have htl : ¬ ((decide (cn < 0) || decide ((i.bytes : Int) * cn > 2 ^ 48) || decide (ln < 0) || decide (ln > cn)) = true) := by
          simp only [Bool.or_eq_true, decide_eq_true_eq, not_or]
          omega
        simp only [Instr.makeSlice, Sem.run_bind, run_underlying h1, Result.andThen_ok, asInt, asIntOf, Sem.run_pure, typeInfo, run_program, hi, w1, w2, Sem.run_ite]
        rw [if_neg htl]
        simp only [Sem.run_pure, Result.andThen_ok, run_askRoom, hszof]
        by_cases h0 : cn.toNat * i.size = 0
        · rw [if_pos h0]
          have : ((Array.range (cn.toNat * i.size)).map ((#[] : Array Value)[· % (#[] : Array Value).size]!)) = (Array.range (cn.toNat * v.cells.size)).map (v.cells[· % v.cells.size]!) := by
            rw [hsz, h0]; simp
          simp only [this, newRow, Sem.run_bind, run_newObj, Result.andThen_ok, Sem.run_pure]
          rfl
        · rw [if_neg h0]
          simp only [hzv, Result.andThen_ok, newRow, Sem.run_bind, run_newObj, Sem.run_pure]
          rw [show cn.toNat * i.size = cn.toNat * v.cells.size by rw [hsz]]
          rfl
  · cases e

theorem alen_spec {t : TypeId} {x z : AV} (e : alen P t x = some z) {v : Value} (hv : VR I G x v) (ts : Array TypeId) (ht : ts[0]? = some t) (ty : TypeId) : ∃ r, (Builtin.len_ ts ty #[v]).run P w = .ok r w ∧ VR I G z r := by
  unfold alen at e
  split at e
  · rename_i s h1
    cases e; cases hv with | d hv => cases hv; exact ⟨_, by simp [Builtin.len_, ht, run_underlying h1, goInt], .d (.int _ _)⟩
  · rename_i el nl n c h1
    cases e; cases hv with | d hv => cases hv <;> exact ⟨_, by simp [Builtin.len_, ht, run_underlying h1, goInt], .d (.int _ _)⟩
  · rename_i el l i o n s h1
    cases e; cases hv; exact ⟨_, by simp [Builtin.len_, ht, run_underlying h1, goInt], .d (.int _ _)⟩
  · rename_i el l i n h1
    cases e; cases hv; exact ⟨_, by simp [Builtin.len_, ht, run_underlying h1, goInt], .d (.int _ _)⟩
  · rename_i n el cs h1
    cases e; cases hv; exact ⟨_, by simp [Builtin.len_, ht, run_underlying h1, goInt], .d (.int _ _)⟩
  · cases e

/-- What is appended or copied, as the machine reads it: in this world, and when an order has been drawn. -/
structure Src (P : Program) (w : World) (size : Nat) (x : Value) (m : Nat) (news : List Value) : Prop where
  len : news.length = m * size
  many : ∀ w, (Builtin.lenOf x).run P w = .ok m w
  cells : ∀ w', (w' = w ∨ w' = w.drew) → ∀ k, k ≤ m → (Builtin.firstCells size k x).run P w' = .ok (news.take (k * size)).toArray w'
theorem cells_any {P : Program} {w' : World} {g o : Nat} {news : List Value} (h : ∀ (j : Nat) v, news[j]? = some v → w'.cell? ⟨g, o + j, none⟩ = some v) (size k n cap : Nat) (hk : k * size ≤ news.length) :
    (Builtin.firstCells size k (.slice (some ⟨g, o, none⟩) n cap)).run P w' = .ok (news.take (k * size)).toArray w' := by
  refine run_firstCells_some (P := P) w' size k ⟨g, o, none⟩ n cap (news.take (k * size)) (by simp; omega) (fun j v hj => ?_)
  rw [add_plain]
  rw [List.getElem?_take] at hj
  split at hj
  · exact h j v hj
  · cases hj
theorem elems_spec {t : TypeId} {s : Nat} {x : AV} {m : Nat} {c : List AV} (e : elems P H t s x = some (m, c)) (hr : HRel I G H base w) {v : Value} (hv : VR I G x v) :
    ∃ news, Src P w s v m news ∧ VRs I G c news ∧ ((∃ e', P.underlying t = some (.slice e')) ∨ P.underlying t = some .string) := by
  unfold elems at e
  split at e
  · rename_i el nl n cc h1
    cases hq : (cc.length == n * s) with
    | false => rw [hq] at e; cases e
    | true =>
      rw [hq] at e
      have hlen : cc.length = n * s := by simpa using hq
      simp only [cond_true, Option.some.injEq, Prod.mk.injEq] at e
      obtain ⟨rfl, rfl⟩ := e
      cases hv with | d hv =>
      cases hv with
      | nil =>
        refine ⟨[], ⟨hlen, fun w => rfl, fun w' _ k hk => ?_⟩, VRs.nil _ _, .inl ⟨_, h1⟩⟩
        simp [Builtin.firstCells]
      | emp a =>
        refine ⟨[], ⟨hlen, fun w => rfl, fun w' _ k hk => ?_⟩, VRs.nil _ _, .inl ⟨_, h1⟩⟩
        obtain rfl : k = 0 := by omega
        simp [Builtin.firstCells, loadCells, loadCellsFrom]
      | @seq n g o cap c' vs hn k1 k2 =>
        refine ⟨(List.range cc.length).map vs, ⟨by simp [hlen], fun w => rfl, fun w' hw' k hk => ?_⟩, ⟨by simp, fun j x v hx hv => ?_⟩, .inl ⟨_, h1⟩⟩
        · refine cells_any (fun j v hj => ?_) s k n cap (by simp [hlen]; exact Nat.mul_le_mul_right _ hk)
          rw [List.getElem?_map, Option.map_eq_some_iff] at hj
          obtain ⟨a, ha, rfl⟩ := hj
          have hlt : j < cc.length := by have := (List.getElem?_eq_some_iff.1 ha).1; simpa using this
          rw [List.getElem?_range hlt] at ha
          cases ha
          have := hr.imm g (o + j) _ (k1 j hlt)
          rcases hw' with rfl | rfl <;> simpa using this
        · rw [List.getElem?_map, Option.map_eq_some_iff] at hx hv
          obtain ⟨a, ha, rfl⟩ := hx
          obtain ⟨b, hb, rfl⟩ := hv
          have hlt : j < cc.length := (List.getElem?_eq_some_iff.1 ha).1
          rw [List.getElem?_range hlt] at hb
          cases hb
          exact .d (k2 _ _ ha)
  · rename_i el l i o n z h1
    cases hq : (z == s) with
    | false => rw [hq] at e; cases e
    | true =>
      rw [hq] at e
      obtain rfl : z = s := by simpa using hq
      simp only [cond_true, Option.bind_eq_some_iff, Option.map_eq_some_iff] at e
      obtain ⟨b, hb, cs, hcs, e⟩ := e
      cases e
      obtain ⟨hfit, rfl⟩ := cut_spec hcs
      cases hv with | @sl _ _ _ _ _ g sz o' cap hG hn hc ho =>
      obtain ⟨g', E, vs, rest, h2, h3, h4, h5, h6⟩ := hr.blk l i b hb
      rw [hG] at h2
      injection h2 with h2
      injection h2 with h2 h2'
      subst h2
      have hvl : vs.length = b.length := h6.1.symm
      have hl : ((vs.drop o).take (m * z)).length = m * z := by simp; omega
      refine ⟨(vs.drop o).take (m * z), ⟨hl, fun w => rfl, fun w' hw' k hk => ?_⟩, VRs.upN l ((h6.drop o).take (m * z)), .inl ⟨_, h1⟩⟩
      by_cases h0 : cap = 0
      · obtain rfl : m = 0 := by omega
        obtain rfl : k = 0 := by omega
        simp [Builtin.firstCells, loadCells, loadCellsFrom]
      · obtain rfl : o' = o := ho.resolve_left h0
        refine cells_any (fun j v hj => ?_) z k m cap (by rw [hl]; exact Nat.mul_le_mul_right _ hk)
        rw [List.getElem?_take] at hj
        split at hj
        · rw [List.getElem?_drop] at hj
          have := cell_blk h4 hj
          rcases hw' with rfl | rfl <;> simpa using this
        · cases hj
  · rename_i b h1
    cases hq : (s == 1) with
    | false => rw [hq] at e; cases e
    | true =>
      rw [hq] at e
      obtain rfl : s = 1 := by simpa using hq
      simp only [cond_true, Option.some.injEq, Prod.mk.injEq] at e
      obtain ⟨rfl, rfl⟩ := e
      cases hv with | d hv =>
      cases hv
      refine ⟨b.data.toList.map fun x => .int .u8 x.toNat, ⟨by simp, fun w => rfl, fun w' _ k hk => ?_⟩, ⟨by simp [byteCells], fun j x v hx hv => ?_⟩, .inr h1⟩
      · simp only [Builtin.firstCells, Sem.run_pure, Nat.mul_one]
        congr 1
        apply Array.ext'
        rw [Array.toList_map]
        have : (b.extract 0 k).data.toList = b.data.toList.take k := by
          rw [ByteArray.data_extract, Array.toList_extract, List.extract_eq_take_drop]
          simp
        rw [this, List.map_take]
      · simp only [byteCells, List.getElem?_map, Option.map_eq_some_iff] at hx hv
        obtain ⟨a, ha, rfl⟩ := hx
        obtain ⟨b', hb', rfl⟩ := hv
        rw [ha] at hb'
        cases hb'
        exact .d (.int _ _)
  · cases e
end
end Go.Ev

/- append and copy, and all operations but calls together: what the evaluator says is what the machine does. -/
namespace Go.Ev
open Go Go.RowKit

section
variable {P : Program} {I : IM} {G : GM} {H : Heap} {base : Nat} {w : World}

section run
variable {t tx ty el : TypeId} {i : TypeInfo} {z x : Value} {m : Nat} {news : List Value}
theorem run_append_none (ht : P.underlying t = some (.slice el)) (htx : (∃ e', P.underlying tx = some (.slice e')) ∨ P.underlying tx = some .string) (hi : P.info? el = some i) (hs : Src P w i.size x 0 news)
    {b : Option Addr} {n cap : Nat} (hn : n ≤ cap) : (Builtin.append_ #[t, tx] ty #[.slice b n cap, x]).run P w = .ok (.slice b n cap) w := by
  have h1 := hs.many
  have h2 := hs.cells w (.inl rfl) 0 (Nat.le_refl _)
  simp only [Nat.zero_mul, List.take_zero] at h2
  rcases htx with ⟨e', htx⟩ | htx
  all_goals
    cases b with
    | none => simp [Builtin.append_, run_underlying ht, run_underlying htx, sizeOf, typeInfo, hi, h1, h2, hn]
    | some a => simp [Builtin.append_, run_underlying ht, run_underlying htx, sizeOf, typeInfo, hi, h1, h2, hn, storeCells]
theorem run_append_in (ht : P.underlying t = some (.slice el)) (htx : (∃ e', P.underlying tx = some (.slice e')) ∨ P.underlying tx = some .string) (hi : P.info? el = some i) (hs : Src P w i.size x m news)
    {g n cap : Nat} {cur : Array Value} {E : TypeId} (hg : w.heap[g]? = some (.cells cur E (0, 0))) (hn : n + m ≤ cap) (hfit : n * i.size + news.length ≤ cur.size) (h1c : ∀ u ∈ news, u.oneCell' = true) :
    (Builtin.append_ #[t, tx] ty #[.slice (some ⟨g, 0, none⟩) n cap, x]).run P w =
      .ok (.slice (some ⟨g, 0, none⟩) (n + m) cap) (w.setRow g (cur.toList.take (n * i.size) ++ news ++ cur.toList.drop (n * i.size + news.length)).toArray) := by
  have h1 := hs.many
  have h2 := hs.cells w (.inl rfl) m (Nat.le_refl _)
  rw [List.take_of_length_le (by rw [hs.len]; exact Nat.le_refl _)] at h2
  have hst := run_storeCells_at P g (n * i.size) E news 0 cur w hg (by simpa using hfit) h1c
  simp only [Nat.add_zero] at hst
  rcases htx with ⟨e', htx⟩ | htx
  all_goals simp [Builtin.append_, run_underlying ht, run_underlying htx, sizeOf, typeInfo, hi, h1, h2, hn, add_plain, hst]
theorem run_append_up (ht : P.underlying t = some (.slice el)) (htx : (∃ e', P.underlying tx = some (.slice e')) ∨ P.underlying tx = some .string) (hi : P.info? el = some i) (hz : i.zero = some z) (hs : Src P w i.size x m news)
    {b : Option Addr} {n cap : Nat} {olds : List Value} (ho : (Builtin.firstCells i.size n (.slice b n cap)).run P w.drew = .ok olds.toArray w.drew) (hn : cap < n + m) (h63 : ((n + m : Nat) : Int) ≤ 9223372036854775807) (hfit : Builtin.nextslicecap (n + m) cap * i.bytes ≤ 281474976710656) :
    (Builtin.append_ #[t, tx] ty #[.slice b n cap, x]).run P w =
      .ok (.slice (some ⟨w.heap.size, 0, none⟩) (n + m) (grownCap w (n + m) cap el))
        (w.drew.alloc (.cells (olds ++ news ++ (Builtin.zeroCells z.cells (grownCap w (n + m) cap el - (n + m))).toList).toArray el)) := by
  have h1 := hs.many
  have h2 := hs.cells w.drew (.inr rfl) m (Nat.le_refl _)
  rw [List.take_of_length_le (by rw [hs.len]; exact Nat.le_refl _)] at h2
  have hn' : ¬ (n + m ≤ cap) := by omega
  have h63' : ¬ (9223372036854775807 < ((n : Int) + (m : Int))) := by omega
  have h48' : ¬ (281474976710656 < Builtin.nextslicecap (n + m) cap * i.bytes) := by omega
  rcases htx with ⟨e', htx⟩ | htx
  all_goals
    simp [Builtin.append_, run_underlying ht, run_underlying htx, sizeOf, typeInfo, zeroValue, hi, hz, h1, hn', h63', h48', Question.forced, h2, ho, newRow, grownCap]
    congr 2
    apply Array.ext'
    simp
end run

theorem aappend_spec {lim : Nat} (hlim : 1 ≤ lim) {t tx ty : TypeId} {s x z : AV} {H' : Heap} (e : aappend P lim H t tx s x = some (z, H')) (hr : HRel I G H base w) {v u : Value} (hv : VR I G s v) (hu : VR I G x u) :
    ∃ r w' G', (Builtin.append_ #[t, tx] ty #[v, u]).run P w = .ok r w' ∧ VR I G' z r ∧ Step I G H base lim w G' H' w' := by
  unfold aappend at e
  split at e
  · rename_i el h1
    simp only [Option.bind_eq_some_iff] at e
    obtain ⟨i, hi, e⟩ := e
    cases hq : (Nat.blt 0 i.size && (i.zero.any fun z => z.cells.size == i.size)) with
    | false => rw [hq] at e; cases e
    | true =>
      rw [hq] at e
      simp only [Bool.and_eq_true] at hq
      have hpos : 0 < i.size := Nat.le_of_ble_eq_true hq.1
      obtain ⟨zv, hzv, hzs⟩ : ∃ zv, i.zero = some zv ∧ zv.cells.size = i.size := by
        cases hz : i.zero with
        | none => rw [hz] at hq; simp at hq
        | some zv => rw [hz] at hq; exact ⟨zv, rfl, by simpa using hq.2⟩
      simp only [cond_true, Option.bind_eq_some_iff] at e
      obtain ⟨⟨m, cs⟩, hel, e⟩ := e
      obtain ⟨news, hs, hnv, htx⟩ := elems_spec hel hr hu
      -- a new block, from `olds` and what is appended
      have grow : ∀ {H1 : Heap} {b : Option Addr} {n cap : Nat} {old : List AV} {olds : List Value} {k : Nat} {H2 : Heap}, HRel I G H1 base w → H1.drop lim = H.drop lim → H1.length = H.length → olds.length = n * i.size → VRs I G old olds → old.all AV.leaf = true → cs.all AV.leaf = true →
          (Builtin.firstCells i.size n (.slice b n cap)).run P w.drew = .ok olds.toArray w.drew → cap < n + m → n + m ≤ 140737488355328 → (n + m) * i.bytes ≤ 140737488355328 → pushB H1 (old ++ cs) = some (k, H2) →
          ∃ g2 sz2 cap2 w' G', (Builtin.append_ #[t, tx] ty #[.slice b n cap, u]).run P w = .ok (.slice (some ⟨g2, 0, none⟩) (n + m) cap2) w' ∧ G' 0 k = some (g2, sz2) ∧ sz2.2 = el ∧ n + m ≤ cap2 ∧ cap2 * i.size ≤ sz2.1 ∧ Step I G H base lim w G' H2 w' := by
        intro H1 b n cap old olds k H2 hr1 hd1 hl1 hol hov hol' hcl hfo hcap hb1 hb2 hp
        have hrun := run_append_up (ty := ty) h1 htx hi hzv hs hfo hcap (by omega) (growslice_fits hcap hb2)
        obtain ⟨G', hst, hg, _⟩ := hr1.drew.pushB hp hlim (by rw [List.all_append, hol', hcl]; rfl) (hov.append hnv) (Builtin.zeroCells zv.cells (grownCap w (n + m) cap el - (n + m))).toList el
        have hge := grownCap_ge w (n + m) cap el
        refine ⟨_, _, _, _, G', hrun, hg, rfl, hge, ?_, ⟨hst.le, hst.rel, ?_, hst.drop.trans hd1, hst.len.trans hl1⟩⟩
        · have hzc := size_zeroCells zv.cells (grownCap w (n + m) cap el - (n + m))
          rw [hzs] at hzc
          simp only [List.length_append, Array.length_toList, hol, hs.len, hzc, Nat.zero_add]
          rw [← Nat.add_mul, ← Nat.add_mul]
          exact Nat.mul_le_mul_right _ (by omega)
        · exact (Below.refl _ _).drew.trans hst.below
      -- an own block grows, in place or into a new one
      have own : ∀ {l b n : Nat} {g : Nat} {sz : Nat × TypeId} {o' cap : Nat} {c old : List AV} {k : Nat} {H2 : Heap}, m ≠ 0 → G l b = some (g, sz) → n ≤ cap → cap * i.size ≤ sz.1 → (cap = 0 ∨ o' = 0) → l < lim → n + m ≤ 140737488355328 → (n + m) * i.bytes ≤ 140737488355328 → cs.all AV.leaf = true →
          getB H l b = some c → cut c 0 (n * i.size) = some old → pushB (setB H l b none) (upN l old ++ cs) = some (k, H2) →
          ∃ g2 sz2 cap2 w' G', (Builtin.append_ #[t, tx] ty #[.slice (some ⟨g, o', none⟩) n cap, u]).run P w = .ok (.slice (some ⟨g2, 0, none⟩) (n + m) cap2) w' ∧ G' 0 k = some (g2, sz2) ∧ (sz2.2 = el ∨ sz2.2 = sz.2) ∧ n + m ≤ cap2 ∧ cap2 * i.size ≤ sz2.1 ∧ Step I G H base lim w G' H2 w' := by
        intro l b n g sz o' cap c old k H2 hm0 hG hcap hc2 ho hllim hb1 hb2 q3 hc hold hp
        obtain ⟨hfit, rfl⟩ := cut_spec hold
        simp only [Nat.zero_add, List.drop_zero] at hfit hp
        obtain ⟨g', E, vs, rest, h2, h3, h4, h5, h6⟩ := hr.blk l b c hc
        rw [hG] at h2
        injection h2 with h2
        injection h2 with h2 h2'
        subst h2 h2'
        simp only at hc2
        have hvl : vs.length = c.length := h6.1.symm
        have hret := hr.retire hc
        have hov : VRs I G (upN l (c.take (n * i.size))) (vs.take (n * i.size)) := VRs.upN l (h6.take _)
        have holf : (upN l (c.take (n * i.size))).all AV.leaf = true := upN_leaf l (by
          rw [List.all_eq_true] at h5 ⊢
          intro x hx
          exact h5 x (List.mem_of_mem_take hx))
        by_cases hroom : n + m ≤ cap
        · -- in place
          obtain rfl : o' = 0 := ho.resolve_left (by omega)
          have hnl := hs.len
          have hsum : n * i.size + news.length ≤ vs.length + rest.length := by
            rw [hnl, ← Nat.add_mul]
            exact Nat.le_trans (Nat.mul_le_mul_right _ hroom) (by omega)
          have hleaf : ∀ u ∈ news, u.oneCell' = true := oneCells hnv q3
          have hrun := run_append_in (ty := ty) h1 htx hi hs (n := n) (cap := cap) h4 hroom (by simpa using hsum) hleaf
          obtain ⟨A1, Ht1, hH1, hk, hH2⟩ := pushB_spec hp
          have hun : Unused I G (setB H l b none) g := by
            refine ⟨fun l' i' c' s e1 e2 => ?_, hr.free l b c g _ hc hG⟩
            by_cases he : l = l' ∧ b = i'
            · obtain ⟨rfl, rfl⟩ := he; rw [getB_set_same H l b c none hc] at e1; cases e1
            · rw [getB_set_other H l b l' i' none (by omega)] at e1
              exact he (hr.inj l b l' i' c c' g _ _ hc e1 hG e2)
          rw [hH1] at hret hun
          have hrow : ((vs ++ rest).toArray.toList.take (n * i.size) ++ news ++ (vs ++ rest).toArray.toList.drop (n * i.size + news.length)).toArray = ((vs.take (n * i.size) ++ news) ++ (vs ++ rest).drop (n * i.size + news.length)).toArray := by
            simp only [List.append_assoc]
            rw [List.take_append_of_le_length (by omega)]
          rw [hrow] at hrun
          have had := hret.adopt hun h3 (E := E) (vs := vs.take (n * i.size) ++ news) (rest := (vs ++ rest).drop (n * i.size + news.length)) (c := upN l (c.take (n * i.size)) ++ cs) (by rw [List.all_append, holf, q3]; rfl) (hov.append hnv)
            (setRow_heap w g _ _ E (0, 0) h4) (by simp) (fun _ => by rw [shape_cells (setRow_heap w g _ _ E (0, 0) h4), shape_cells h4]; simp; omega) (fun k _ hk => setRow_other w g k _ hk)
          refine ⟨g, ((vs.take (n * i.size) ++ news).length + ((vs ++ rest).drop (n * i.size + news.length)).length, E), cap, _, G.put (List.length A1) g ((vs.take (n * i.size) ++ news).length + ((vs ++ rest).drop (n * i.size + news.length)).length, E), hrun, by rw [hk]; simp [GM.put], .inr rfl, hroom, ?_, ⟨GM.put_le hret.no_next, by rw [hH2]; exact had, below_setRow h3 _, ?_, ?_⟩⟩
          · simp only [List.length_append, List.length_take, List.length_drop]
            omega
          · rw [hH2, ← setB_drop H l b none lim hllim, hH1]
            cases lim with
            | zero => omega
            | succ lim => simp
          · rw [hH2, ← setB_length H l b none, hH1]
            simp
        · have hfo : (Builtin.firstCells i.size n (.slice (some ⟨g, o', none⟩) n cap)).run P w.drew = .ok (vs.take (n * i.size)).toArray w.drew := by
            by_cases h0 : cap = 0
            · obtain rfl : n = 0 := by omega
              simp [Builtin.firstCells, loadCells, loadCellsFrom]
            · obtain rfl : o' = 0 := ho.resolve_left h0
              refine cells_any (w' := w.drew) (o := 0) (news := vs) (fun j v hj => ?_) i.size n n cap (by omega)
              rw [Nat.zero_add]
              simpa using cell_blk h4 hj
          obtain ⟨g2, sz2, cap2, w', G', k1, k2, k3, k4, k5, k6⟩ := grow hret (setB_drop H l b none lim hllim) (setB_length _ _ _ _) (by simp; omega) hov holf q3 hfo (by omega) hb1 hb2 hp
          exact ⟨g2, sz2, cap2, w', G', k1, k2, .inl k3, k4, k5, k6⟩
      split at e
      · rename_i nl n c
        cases hm : (m == 0) with
        | true =>
          obtain rfl : m = 0 := by simpa using hm
          simp at e
          obtain ⟨rfl, rfl⟩ := e
          cases hv with | d hv =>
          cases hv with
          | nil => exact ⟨_, w, G, run_append_none (ty := ty) h1 htx hi hs (Nat.le_refl _), .d .nil, Step.same hr lim⟩
          | emp a => exact ⟨_, w, G, run_append_none (ty := ty) h1 htx hi hs (Nat.le_refl _), .d (.emp a), Step.same hr lim⟩
          | seq vs hn k1 k2 => exact ⟨_, w, G, run_append_none (ty := ty) h1 htx hi hs hn, .d (.seq vs hn k1 k2), Step.same hr lim⟩
        | false =>
          have hm0 : m ≠ 0 := by simpa using hm
          simp only [hm, cond_false] at e
          cases hq2 : (nl && Nat.ble m 140737488355328 && Nat.ble (m * i.bytes) 140737488355328 && cs.all AV.leaf) with
          | false => rw [hq2] at e; cases e
          | true =>
            rw [hq2] at e
            simp only [Bool.and_eq_true] at hq2
            obtain ⟨⟨⟨rfl, q1⟩, q2⟩, q3⟩ := hq2
            simp only [cond_true, Option.map_eq_some_iff] at e
            obtain ⟨⟨k, H2⟩, hp, e⟩ := e
            cases e
            cases hv with | d hv =>
            cases hv
            obtain ⟨g2, sz2, cap2, w', G', k1, k2, k3, k4, k5, k6⟩ := grow (b := none) (n := 0) (cap := 0) (old := []) (olds := []) hr rfl rfl (by simp) (VRs.nil _ _) rfl q3 (by simp [Builtin.firstCells]) (by omega) (by have := Nat.le_of_ble_eq_true q1; omega) (by have := Nat.le_of_ble_eq_true q2; simpa using this) hp
            rw [Nat.zero_add] at k1 k4
            refine ⟨_, w', G', k1, ?_, k6⟩
            cases hbt : (bytT == some el && Nat.beq i.size 1) with
            | false => exact .sl k2 k4 (by omega) (.inr rfl)
            | true =>
              simp only [Bool.and_eq_true, beq_iff_eq, nbeq] at hbt
              exact .bs k2 (by rw [k3]; exact hbt.1) k4 (by rw [hbt.2] at k5; omega)
      · rename_i l b n
        cases hm : (m == 0) with
        | true =>
          obtain rfl : m = 0 := by simpa using hm
          simp at e
          obtain ⟨rfl, rfl⟩ := e
          cases hv with | bs hG hT hn hc =>
          exact ⟨_, w, G, run_append_none (ty := ty) h1 htx hi hs hn, .bs hG hT hn hc, Step.same hr lim⟩
        | false =>
          simp only [hm, cond_false] at e
          cases hq2 : (Nat.blt l lim && Nat.beq i.size 1 && bytT == some el && Nat.ble (n + m) 140737488355328 && Nat.ble ((n + m) * i.bytes) 140737488355328 && cs.all AV.leaf) with
          | false => rw [hq2] at e; cases e
          | true =>
            rw [hq2] at e
            simp only [Bool.and_eq_true, beq_iff_eq, nbeq] at hq2
            obtain ⟨⟨⟨⟨⟨q0, qz⟩, qb⟩, q1⟩, q2⟩, q3⟩ := hq2
            simp only [cond_true, Option.bind_eq_some_iff, Option.map_eq_some_iff] at e
            obtain ⟨c, hc, old, hold, ⟨k, H2⟩, hp, e⟩ := e
            cases e
            cases hv with | bs hG hT hn hcap =>
            obtain ⟨g2, sz2, cap2, w', G', k1, k2, k3, k4, k5, k6⟩ := own (by simpa using hm) hG hn (by rw [qz]; omega) (.inr rfl) (Nat.le_of_ble_eq_true q0) (Nat.le_of_ble_eq_true q1) (Nat.le_of_ble_eq_true q2) q3 hc hold hp
            refine ⟨_, w', G', k1, .bs k2 ?_ k4 (by rw [qz] at k5; omega), k6⟩
            rcases k3 with k3 | k3
            · rw [k3]; exact qb
            · rw [k3]; exact hT
      · rename_i l b n zz
        cases hm : (m == 0) with
        | true =>
          obtain rfl : m = 0 := by simpa using hm
          simp at e
          obtain ⟨rfl, rfl⟩ := e
          cases hv with | sl hG hn hc ho =>
          exact ⟨_, w, G, run_append_none (ty := ty) h1 htx hi hs hn, .sl hG hn hc ho, Step.same hr lim⟩
        | false =>
          have hm0 : m ≠ 0 := by simpa using hm
          simp only [hm, cond_false] at e
          cases hq2 : (Nat.blt l lim && zz == i.size && Nat.ble (n + m) 140737488355328 && Nat.ble ((n + m) * i.bytes) 140737488355328 && cs.all AV.leaf) with
          | false => rw [hq2] at e; cases e
          | true =>
            rw [hq2] at e
            simp only [Bool.and_eq_true] at hq2
            obtain ⟨⟨⟨⟨q0, qz⟩, q1⟩, q2⟩, q3⟩ := hq2
            obtain rfl : zz = i.size := by simpa using qz
            have hllim : l < lim := Nat.le_of_ble_eq_true q0
            have hb1 := Nat.le_of_ble_eq_true q1
            have hb2 := Nat.le_of_ble_eq_true q2
            simp only [cond_true, Option.bind_eq_some_iff, Option.map_eq_some_iff] at e
            obtain ⟨c, hc, old, hold, ⟨k, H2⟩, hp, e⟩ := e
            cases e
            cases hv with | @sl _ _ _ _ _ g sz o' cap hG hn hcap ho =>
            obtain ⟨g2, sz2, cap2, w', G', k1, k2, k3, k4, k5, k6⟩ := own (by simpa using hm) hG hn (by omega) ho hllim hb1 hb2 q3 hc hold hp
            exact ⟨_, w', G', k1, .sl k2 k4 (by omega) (.inr rfl), k6⟩
      · cases e
  · cases e

theorem acopy_spec {lim : Nat} {t tx ty : TypeId} {d x z : AV} {H' : Heap} (e : acopy P lim H t tx d x = some (z, H')) (hr : HRel I G H base w) {v u : Value} (hv : VR I G d v) (hu : VR I G x u) :
    ∃ r w', (Builtin.copy_ #[t, tx] ty #[v, u]).run P w = .ok r w' ∧ VR I G z r ∧ Step I G H base lim w G H' w' := by
  unfold acopy at e
  split at e
  · rename_i el l b o m zz h1
    simp only [Option.bind_eq_some_iff] at e
    obtain ⟨s, hs, e⟩ := e
    cases hq : (zz == s && Nat.blt 0 s && Nat.blt l lim) with
    | false => rw [hq] at e; cases e
    | true =>
      rw [hq] at e
      simp only [Bool.and_eq_true, beq_iff_eq] at hq
      obtain ⟨⟨rfl, q1⟩, q2⟩ := hq
      have hpos : 0 < zz := Nat.le_of_ble_eq_true q1
      simp only [cond_true, Option.bind_eq_some_iff] at e
      obtain ⟨⟨k, cs⟩, hel, cs', hcs', e⟩ := e
      obtain ⟨news, hsr, hnv, htx⟩ := elems_spec hel hr hu
      cases hlf : cs'.all AV.leaf with
      | false => rw [hlf] at e; cases e
      | true =>
        rw [hlf] at e
        simp only [cond_true, Option.bind_eq_some_iff] at e
        obtain ⟨c, hc, e⟩ := e
        cases hfit : Nat.ble (o + cs'.length) c.length with
        | false => rw [hfit] at e; cases e
        | true =>
          rw [hfit] at e
          simp only [cond_true, Option.some.injEq, Prod.mk.injEq] at e
          obtain ⟨rfl, rfl⟩ := e
          cases hv with | @sl _ _ _ _ _ g sz o' cap hG hn hcap ho =>
          have hdn := (hnv.take (min k m * zz)).downN l hcs'
          have hcells := hsr.cells w (.inl rfl) (min k m) (Nat.min_le_left _ _)
          have hcl : ∀ w, (Builtin.lenOf u).run P w = .ok k w := hsr.many
          by_cases h0 : cap = 0
          · obtain rfl : m = 0 := by omega
            have hmin : min k 0 = 0 := by omega
            rw [hmin] at hcells hdn hcs'
            simp only [Nat.zero_mul, List.take_zero] at hcells hdn
            have hcs0 : cs' = [] := List.eq_nil_of_length_eq_zero (by rw [hdn.1]; rfl)
            subst hcs0
            refine ⟨.int .i64 0, w, ?_, ?_, ?_⟩
            · simp [Builtin.copy_, run_underlying h1, hcl, run_szOf hs, hcells, storeCells, goInt]
            · rw [hmin]; exact .d (.int _ _)
            · simp only [setMany]
              have hset : HRel I G (setB H l b (some c)) base w := by
                obtain ⟨g', E, vs, rest, h2, h3, h4, h5, h6⟩ := hr.blk l b c hc
                have := hr.write hc h2 h4 h5 h6 rfl
                rwa [setRow_self w g' _ E (0, 0) h4] at this
              exact ⟨GM.le.refl _, hset, Below.refl _ _, setB_drop H l b _ lim (Nat.le_of_ble_eq_true q2), setB_length _ _ _ _⟩
          · obtain rfl : o' = o := ho.resolve_left h0
            obtain ⟨w', hw', hrel, hbel⟩ := hr.over (P := P) hc hG hdn hlf (o := o') (Nat.le_of_ble_eq_true hfit)
            refine ⟨.int .i64 (min k m : Nat), w', ?_, .d (.int _ _), ⟨GM.le.refl _, hrel, hbel, setB_drop H l b _ lim (Nat.le_of_ble_eq_true q2), setB_length _ _ _ _⟩⟩
            have hmm : Nat.min k m = min k m := rfl
            simp [Builtin.copy_, run_underlying h1, hcl, run_szOf hs, hmm, hcells, hw', goInt]
  · cases e
theorem amax_spec {x y z : AV} (e : amax x y = some z) {v u : Value} (hv : VR I G x v) (hu : VR I G y u) (ts : Array TypeId) (ty : TypeId) : ∃ r, (Builtin.max_ ts ty #[v, u]).run P w = .ok r w ∧ VR I G z r := by
  unfold amax at e
  split at e
  · cases e
    cases hv with | d hv => cases hv; cases hu with | d hu => cases hu; exact ⟨_, by simp [Builtin.max_, Builtin.max2], .d (.int _ _)⟩
  · cases e
theorem amin_spec {x y z : AV} (e : amin x y = some z) {v u : Value} (hv : VR I G x v) (hu : VR I G y u) (ts : Array TypeId) (ty : TypeId) : ∃ r, (Builtin.min_ ts ty #[v, u]).run P w = .ok r w ∧ VR I G z r := by
  unfold amin at e
  split at e
  · cases e
    cases hv with | d hv => cases hv; cases hu with | d hu => cases hu; exact ⟨_, by simp [Builtin.min_, Builtin.min2], .d (.int _ _)⟩
  · cases e
end
end Go.Ev

/- Every operation: what the evaluator says is what the machine does; calls by what is known of the callee. -/
namespace Go.Ev
open Go Go.RowKit

/-- What a call's answer says of the machine's call. -/
def CallPost (I : IM) (G : GM) (H : Heap) (base lim : Nat) (w : World) (z : AV) (H' : Heap) (e : Ending) (w' : World) : Prop :=
  ∃ r I' G', e = .returned r ∧ IM.le I I' ∧ GM.le G G' ∧ HRel I' G' H' base w' ∧ VR I' G' z r ∧ Below base w w' ∧ H'.drop lim = H.drop lim ∧ H'.length = H.length
/-- A way to call functions that is right. -/
structure CallOk (P : Program) (call : ACall) (lim : Nat) : Prop where
  calls : ∀ f args H z H', call f args H = some (z, H') → ∀ I G base w vs, HRel I G H base w → VRs I G args vs →
    ((callFunc f vs.toArray).run P w = .ok (.enter f vs.toArray) w ∧ Calls P f vs.toArray w (CallPost I G H base lim w z H')) ∨
    ∃ r w', (callFunc f vs.toArray).run P w = .ok (.value r) w' ∧ CallPost I G H base lim w z H' (.returned r) w'
  drops : Drops call lim

/-- What an operation makes of everything. -/
structure StepI (I : IM) (G : GM) (H : Heap) (base lim : Nat) (w : World) (I' : IM) (G' : GM) (H' : Heap) (w' : World) : Prop where
  lei : IM.le I I'
  le : GM.le G G'
  rel : HRel I' G' H' base w'
  below : Below base w w'
  drop : H'.drop lim = H.drop lim
  len : H'.length = H.length
theorem Step.toI {I : IM} {G : GM} {H : Heap} {base lim : Nat} {w : World} {G' : GM} {H' : Heap} {w' : World} (h : Step I G H base lim w G' H' w') : StepI I G H base lim w I G' H' w' :=
  ⟨IM.le.refl _, h.le, h.rel, h.below, h.drop, h.len⟩

theorem VRs.map_eval {I : IM} {G : GM} {fr : List AV} {a : Act} (h : VRs I G fr a.tmps.toList) : ∀ xs : List Operand, VRs I G (xs.map (aeval fr)) (xs.map a.eval)
  | [] => VRs.nil _ _
  | x :: xs => .cons (aeval_spec h x) (VRs.map_eval h xs)
theorem PRs.map_eval {I : IM} {G : GM} {fr : List AV} {a : Act} (h : VRs I G fr a.tmps.toList) (xs : List (Nat × Operand)) : PRs I G (xs.map fun p => (p.1, aeval fr p.2)) (xs.map fun p => (p.1, a.eval p.2)) := by
  refine ⟨by simp, fun j x v hx hv => ?_⟩
  simp only [List.getElem?_map, Option.map_eq_some_iff] at hx hv
  obtain ⟨p, hp, rfl⟩ := hx
  obtain ⟨q, hq, rfl⟩ := hv
  rw [hp] at hq
  cases hq
  exact ⟨rfl, aeval_spec h _⟩
theorem arr_of_list {α : Type} {a : Array α} {l : List α} (h : a.toList = l) : a = l.toArray := by rw [← h]
theorem arr_map {α β : Type} (f : α → β) (c : Array α) : c.map f = (c.toList.map f).toArray := by
  apply Array.ext'
  rw [Array.toList_map]
theorem run_map_value {P : Program} {s : Sem Value} {w w' : World} {r : Value} (h : s.run P w = .ok r w') : (do pure (Next.value (← s)) : Sem Next).run P w = .ok (.value r) w' := by
  simp [h]
theorem anil_spec {I : IM} {G : GM} {x z : AV} (e : anil x = some z) {v : Value} (h : VR I G x v) : (∃ a, v = .pointer (some a)) ∨ ∃ f caps, v = .func (.func f) #[] caps := by
  unfold anil at e
  split at e
  · cases h; exact .inl ⟨_, rfl⟩
  · cases h; exact .inl ⟨_, rfl⟩
  · cases h; exact .inr ⟨_, _, rfl⟩
  · cases h; exact .inl ⟨_, rfl⟩
  · cases e
theorem bytesOf_spec {I : IM} {G : GM} : ∀ {cs : List AV} {l : List UInt8} {vs : List Value}, bytesOf cs = some l → VRs I G cs vs → vs = l.map fun b => Value.int .u8 b.toNat
  | [], l, vs, e, h => by simp [bytesOf] at e; subst e; rw [h.nil_inv]; rfl
  | c :: cs, l, vs, e, h => by
    obtain ⟨v, vs', rfl, hv, hvs⟩ := h.cons_inv
    unfold bytesOf at e
    split at e
    · rename_i heq; cases heq
    · rename_i n cs' heq
      cases heq
      cases hq : (decide (0 ≤ n) && decide (n < 256)) with
      | false => rw [hq] at e; cases e
      | true =>
        rw [hq] at e
        simp only [Bool.and_eq_true, decide_eq_true_eq] at hq
        simp only [cond_true, Option.map_eq_some_iff] at e
        obtain ⟨l', hl, rfl⟩ := e
        cases hv with | d hv =>
        cases hv
        rw [bytesOf_spec hl hvs]
        simp
        omega
    · cases e
theorem heap_freeze (w : World) (g n k : Nat) (h : k ≠ g) : (w.freeze ⟨g, 0, none⟩ n).heap[k]? = w.heap[k]? := by
  unfold World.freeze
  split
  · rfl
  · simp only [Array.getElem?_modify]
    rw [if_neg (Ne.symm h)]
theorem size_freeze (w : World) (g n : Nat) : (w.freeze ⟨g, 0, none⟩ n).heap.size = w.heap.size := by
  unfold World.freeze
  split <;> simp
theorem shape_freeze {w : World} {g : Nat} {cs : Array Value} {E : TypeId} {fz : Nat × Nat} (h : w.heap[g]? = some (.cells cs E fz)) (n : Nat) : (w.freeze ⟨g, 0, none⟩ n).shape? g = w.shape? g := by
  unfold World.freeze
  split
  · rfl
  · unfold World.shape?
    simp [Array.getElem?_modify, h]
theorem aunsafeString_spec {P : Program} {I : IM} {G : GM} {H : Heap} {base lim : Nat} {w : World} {tp it ty : TypeId} {x n z : AV} {H' : Heap} (e : aunsafeString P lim H tp x n = some (z, H')) (hr : HRel I G H base w) {v u : Value} (hv : VR I G x v) (hu : VR I G n u) :
    ∃ r w', (Builtin.unsafeString_ #[tp, it] ty #[v, u]).run P w = .ok r w' ∧ VR I G z r ∧ Step I G H base lim w G H' w' := by
  unfold aunsafeString at e
  split at e
  · rename_i l i n
    cases hu with | d hu =>
    cases hu
    obtain ⟨hq, e⟩ := bif_some e
    simp only [Bool.and_eq_true, decide_eq_true_eq] at hq
    obtain ⟨⟨⟨q0, q1⟩, q2⟩, q3⟩ := hq
    split at q3
    · rename_i el hel
      simp only [Bool.and_eq_true, beq_iff_eq, nbeq] at q3
      simp only [Option.bind_eq_some_iff, Option.map_eq_some_iff] at e
      obtain ⟨c, hc, cs, hcs, bs, hbs, e⟩ := e
      cases e
      obtain ⟨hfit, rfl⟩ := cut_spec hcs
      cases hv with | @bp _ _ g sz hG hT =>
      obtain ⟨g', E, vs, rest, h1, h2, h3, h4, h5⟩ := hr.blk l i c hc
      rw [hG] at h1
      injection h1 with h1
      injection h1 with h1 h1'
      subst h1 h1'
      rw [q3.1] at hT
      injection hT with hT
      simp only at hT
      subst hT
      have hvl : vs.length = c.length := h5.1.symm
      have hb := bytesOf_spec hbs ((h5.drop 0).take n.toNat)
      have hbl : bs.length = n.toNat := by
        have := congrArg List.length hb
        simp at this
        omega
      have hn : n = (bs.length : Int) := by omega
      have hrun := Lib.run_unsafeString_row (P := P) w tp it ty el hel q3.2 g (vs ++ rest).length (by rw [shape_cells h3]; simp) bs (by intro h0; rw [h0] at hbl; simp at hbl; omega) (by rw [hbl]; simp; omega) (by omega) (fun j b hj => by
        rw [add_plain, Nat.zero_add]
        refine cell_blk h3 ?_
        have hjl : j < bs.length := (List.getElem?_eq_some_iff.1 hj).1
        have h6 : ((vs.drop 0).take n.toNat)[j]? = some (Value.int .u8 b.toNat) := by rw [hb, List.getElem?_map, hj]; rfl
        rw [List.getElem?_take_of_lt (by omega), List.getElem?_drop, Nat.zero_add] at h6
        exact h6)
      rw [← hn] at hrun
      refine ⟨_, _, hrun, .d (.str _), ⟨GM.le.refl _, ?_, Lib.below_freeze (Below.refl _ _) h2 _, setB_drop _ _ _ _ _ (Nat.le_of_ble_eq_true q0), setB_length _ _ _ _⟩⟩
      exact (hr.retire hc).off (hr.unused_off hc hG) h2 (by rw [size_freeze]; exact Nat.le_refl _) (shape_freeze h3 _) (fun k hk => heap_freeze w g _ k hk)
    · cases q3
  · rename_i n
    cases hu with | d hu =>
    cases hu
    obtain ⟨hq, e⟩ := bif_some e
    obtain rfl : n = 0 := by simpa using hq
    cases e
    cases hv
    exact ⟨_, w, Lib.run_unsafeString_none w tp it ty none, .d (.str _), Step.same hr lim⟩
  · cases e
theorem anil_same {x z : AV} (e : anil x = some z) : z = x := by
  unfold anil at e
  split at e <;> cases e <;> rfl

section
variable {P : Program} {call : ACall} {lim : Nat} {I : IM} {G : GM} {H : Heap} {base : Nat} {w : World} {fr : List AV} {a : Act}

theorem evBuiltin_spec (hlim : 1 ≤ lim) {b : Builtin} {ts : Array TypeId} {args : List AV} {z : AV} {H' : Heap} (e : evBuiltin P lim H b ts.toList args = some (z, H')) (hr : HRel I G H base w) {vs : List Value} (hv : VRs I G args vs) (ty : TypeId) (consts : Array Bool) :
    ∃ r w' G', (builtin b ts ty consts vs.toArray).run P w = .ok (.value r) w' ∧ VR I G' z r ∧ Step I G H base lim w G' H' w' := by
  unfold evBuiltin at e
  split at e
  · rename_i t x hts
    obtain rfl := arr_of_list hts
    obtain ⟨v, vs', rfl, hx, hvs⟩ := hv.cons_inv
    obtain rfl := hvs.nil_inv
    simp only [Option.map_eq_some_iff] at e
    obtain ⟨z', hz, e⟩ := e
    cases e
    obtain ⟨r, hrun, hzr⟩ := alen_spec (P := P) (w := w) hz hx #[t] rfl ty
    exact ⟨r, w, G, run_map_value hrun, hzr, Step.same hr lim⟩
  · rename_i t tx s x hts
    obtain rfl := arr_of_list hts
    obtain ⟨v, vs', rfl, hs, hvs⟩ := hv.cons_inv
    obtain ⟨u, vs'', rfl, hx, hvs'⟩ := hvs.cons_inv
    obtain rfl := hvs'.nil_inv
    obtain ⟨r, w', G', hrun, hzr, hst⟩ := aappend_spec (ty := ty) hlim e hr hs hx
    exact ⟨r, w', G', run_map_value hrun, hzr, hst⟩
  · rename_i t tx s x hts
    obtain rfl := arr_of_list hts
    obtain ⟨v, vs', rfl, hs, hvs⟩ := hv.cons_inv
    obtain ⟨u, vs'', rfl, hx, hvs'⟩ := hvs.cons_inv
    obtain rfl := hvs'.nil_inv
    obtain ⟨r, w', hrun, hzr, hst⟩ := acopy_spec (ty := ty) e hr hs hx
    exact ⟨r, w', G, run_map_value hrun, hzr, hst⟩
  · obtain ⟨v, vs', rfl, hs, hvs⟩ := hv.cons_inv
    obtain ⟨u, vs'', rfl, hx, hvs'⟩ := hvs.cons_inv
    obtain rfl := hvs'.nil_inv
    simp only [Option.map_eq_some_iff] at e
    obtain ⟨z', hz, e⟩ := e
    cases e
    obtain ⟨r, hrun, hzr⟩ := amax_spec (P := P) (w := w) hz hs hx ts ty
    exact ⟨r, w, G, run_map_value hrun, hzr, Step.same hr lim⟩
  · obtain ⟨v, vs', rfl, hs, hvs⟩ := hv.cons_inv
    obtain ⟨u, vs'', rfl, hx, hvs'⟩ := hvs.cons_inv
    obtain rfl := hvs'.nil_inv
    simp only [Option.map_eq_some_iff] at e
    obtain ⟨z', hz, e⟩ := e
    cases e
    obtain ⟨r, hrun, hzr⟩ := amin_spec (P := P) (w := w) hz hs hx ts ty
    exact ⟨r, w, G, run_map_value hrun, hzr, Step.same hr lim⟩
  · obtain ⟨v, vs', rfl, hs, hvs⟩ := hv.cons_inv
    obtain rfl := hvs.nil_inv
    simp only [Option.map_eq_some_iff] at e
    obtain ⟨z', hz, e⟩ := e
    cases e
    unfold asliceData at hz
    split at hz
    · rename_i l i n
      obtain ⟨hq, hz⟩ := bif_some hz
      have h0 : 0 < n := Nat.le_of_ble_eq_true hq
      cases hz
      cases hs with | @bs _ _ _ g sz cap hG hT hn hc =>
      exact ⟨_, w, G, run_map_value (Lib.run_unsafeSliceData_row _ _ _ _ _ _ (by omega)), .bp hG hT, Step.same hr lim⟩
    · cases hz
      cases hs with | d hs =>
      cases hs
      exact ⟨_, w, G, run_map_value (Lib.run_unsafeSliceData_nil _ _ _ _ _), .nilptr, Step.same hr lim⟩
    · cases hz
  · rename_i tp it x n hts
    obtain rfl := arr_of_list hts
    obtain ⟨v, vs', rfl, hs, hvs⟩ := hv.cons_inv
    obtain ⟨u, vs'', rfl, hx, hvs'⟩ := hvs.cons_inv
    obtain rfl := hvs'.nil_inv
    obtain ⟨r, w', hrun, hzr, hst⟩ := aunsafeString_spec (it := it) (ty := ty) e hr hs hx
    exact ⟨r, w', G, run_map_value hrun, hzr, hst⟩
  · cases e

theorem evOp_spec (hcall : CallOk P call lim) (hlim : 1 ≤ lim) {o : Oper} {z : AV} {H' : Heap} (e : evOp P call lim o fr H = some (z, H')) (hr : HRel I G H base w) (hf : VRs I G fr a.tmps.toList)
    {K : Act → World → Prop} {Q : Exit → Act → World → Prop} (hK : ∀ r w' I' G', StepI I G H base lim w I' G' H' w' → VR I' G' z r → K (a.put o.dst r) w') : o.wp P a w K Q := by
  have val : ∀ {r : Value} {w' : World} {G' : GM}, (execOp a.eval o).run P w = .ok (.value r) w' → Step I G H base lim w G' H' w' → VR I G' z r → o.wp P a w K Q := by
    intro r w' G' hrun hst hz
    unfold Oper.wp
    rw [hrun]
    exact hK r w' I G' hst.toI hz
  have qui : ∀ {s : Sem Value} {r : Value}, execOp a.eval o = (do pure (.value (← s))) → H' = H → s.run P w = .ok r w → VR I G z r → o.wp P a w K Q := by
    intro s r he hH hrun hz
    subst hH
    exact val (by rw [he]; exact run_map_value hrun) (Step.same hr lim) hz
  unfold evOp at e
  split at e
  · rename_i x ho
    cases e
    exact val (r := a.eval x) (by simp [execOp, ho]) (Step.same hr lim) (aeval_spec hf x)
  · rename_i x ho
    cases e
    exact val (r := a.eval x) (by simp [execOp, ho]) (Step.same hr lim) (aeval_spec hf x)
  · rename_i c x y ho
    simp only [Option.map_eq_some_iff] at e
    obtain ⟨t, ht, e⟩ := e
    cases e
    have hc := asB_spec ht (aeval_spec hf c)
    cases t with
    | true => exact val (r := a.eval x) (by simp [execOp, ho, hc, asBool]) (Step.same hr lim) (aeval_spec hf x)
    | false => exact val (r := a.eval y) (by simp [execOp, ho, hc, asBool]) (Step.same hr lim) (aeval_spec hf y)
  · rename_i t ho
    obtain ⟨r, w', G', hrun, hz, hst⟩ := alloc_spec hlim e hr
    exact val (by simp only [execOp, ho]; exact run_map_value hrun) hst hz
  · rename_i t x ho
    obtain ⟨r, w', G', hrun, hz, hst⟩ := box_spec (P := P) hlim t e hr (aeval_spec hf x)
    exact val (by simp only [execOp, ho]; exact run_map_value hrun) hst hz
  · rename_i t ps ho
    simp only [Option.map_eq_some_iff] at e
    obtain ⟨z', hz, e⟩ := e
    cases e
    obtain ⟨r, hrun, hzr⟩ := abuild_spec (w := w) hz (PRs.map_eval hf ps.toList)
    refine qui (s := Instr.build t (ps.map fun p => (p.1, a.eval p.2))) (by simp only [execOp, ho]) rfl ?_ hzr
    rw [arr_map]
    exact hrun
  · rename_i t n ps ho
    obtain ⟨r, w', G', hrun, hz, hst⟩ := abuildSlice_spec hlim e hr (PRs.map_eval hf ps.toList)
    have hrun' : (Instr.buildSlice t n (ps.map fun p => (p.1, a.eval p.2))).run P w = .ok r w' := by rw [arr_map]; exact hrun
    exact val (by simp only [execOp, ho]; exact run_map_value hrun') hst hz
  · rename_i t x ho
    simp only [Option.map_eq_some_iff] at e
    obtain ⟨z', hz, e⟩ := e
    cases e
    obtain ⟨r, hrun, hzr⟩ := aload_spec hz hr (aeval_spec hf x)
    exact qui (by simp only [execOp, ho]) rfl hrun hzr
  · rename_i t x y ho
    simp only [Option.map_eq_some_iff] at e
    obtain ⟨H1, hz, e⟩ := e
    cases e
    obtain ⟨w', hrun, hst⟩ := astore_spec hz hr (aeval_spec hf x) (aeval_spec hf y)
    unfold Oper.wp
    have : (execOp a.eval o).run P w = .ok .skip w' := by simp [execOp, ho, hrun]
    rw [this]
    exact hK undef w' I G hst.toI .undef
  · rename_i x ho
    simp only [Option.map_eq_some_iff] at e
    obtain ⟨z', hz, e⟩ := e
    cases e
    have hx := aeval_spec hf x
    obtain rfl := anil_same hz
    rcases anil_spec hz hx with ⟨ad, hv⟩ | ⟨f, caps, hv⟩
    · exact val (r := a.eval x) (by simp [execOp, ho, hv]) (Step.same hr lim) hx
    · exact val (r := a.eval x) (by simp [execOp, ho, hv]) (Step.same hr lim) hx
  · rename_i op t x y yt ho
    simp only [Option.map_eq_some_iff] at e
    obtain ⟨z', hz, e⟩ := e
    cases e
    obtain ⟨r, hrun, hzr⟩ := abin_spec (w := w) hz (aeval_spec hf x) (aeval_spec hf y) x y
    exact qui (by simp only [execOp, ho]) rfl hrun hzr
  · rename_i op t x ho
    simp only [Option.map_eq_some_iff] at e
    obtain ⟨z', hz, e⟩ := e
    cases e
    obtain ⟨r, hrun, hzr⟩ := aun_spec (P := P) (w := w) hz (aeval_spec hf x)
    exact qui (by simp only [execOp, ho]) rfl hrun hzr
  · rename_i s d x ho
    simp only [Option.map_eq_some_iff] at e
    obtain ⟨z', hz, e⟩ := e
    cases e
    obtain ⟨r, hrun, hzr⟩ := aconv_spec (w := w) hr hz (aeval_spec hf x)
    exact qui (by simp only [execOp, ho]) rfl hrun hzr
  · rename_i f first caps ho
    cases hfst : (first.size == 0) with
    | false => rw [hfst] at e; cases e
    | true =>
      rw [hfst] at e
      simp only [cond_true] at e
      cases e
      have hf0 : first = #[] := by
        have : first.size = 0 := by simpa using hfst
        exact Array.eq_empty_of_size_eq_zero this
      subst hf0
      have hcv := VRs.map_eval hf caps.toList
      refine val (r := .func (.func f) #[] (caps.map a.eval)) (by simp [execOp, ho, Instr.makeFunc]) (Step.same hr lim) ?_
      rw [arr_map]
      exact .fn hcv.1 hcv.2
  · rename_i t l c ho
    obtain ⟨r, w', G', hrun, hz, hst⟩ := amake_spec hlim e hr (aeval_spec hf l) (aeval_spec hf c)
    exact val (by simp only [execOp, ho]; exact run_map_value hrun) hst hz
  · rename_i t x lo hi mx ho
    simp only [Option.map_eq_some_iff] at e
    obtain ⟨z', hz, e⟩ := e
    cases e
    have some_of : ∀ (q : Option Operand) (x : AV), q.map (aeval fr) = some x → ∃ v, q.map a.eval = some v ∧ VR I G x v := by
      intro q x hq
      cases q with
      | none => cases hq
      | some y => cases hq; exact ⟨_, rfl, aeval_spec hf y⟩
    have none_of : ∀ (q : Option Operand), q.map (aeval fr) = none → q.map a.eval = none := by
      intro q hq
      cases q with
      | none => rfl
      | some y => cases hq
    obtain ⟨r, hrun, hzr⟩ := aslice_spec (P := P) (w := w) hz (aeval_spec hf x) (some_of lo) (none_of lo) (some_of hi) (none_of hi) (none_of mx)
    exact qui (by simp only [execOp, ho]) rfl hrun hzr
  · rename_i s x f ho
    simp only [Option.map_eq_some_iff] at e
    obtain ⟨z', hz, e⟩ := e
    cases e
    obtain ⟨r, hrun, hzr⟩ := afieldAddr_spec (w := w) hz (aeval_spec hf x)
    exact qui (by simp only [execOp, ho]) rfl hrun hzr
  · rename_i s x f ho
    simp only [Option.map_eq_some_iff] at e
    obtain ⟨z', hz, e⟩ := e
    cases e
    obtain ⟨r, hrun, hzr⟩ := afieldOf_spec (w := w) hz (aeval_spec hf x)
    exact qui (by simp only [execOp, ho]) rfl hrun hzr
  · rename_i t x ix ho
    simp only [Option.map_eq_some_iff] at e
    obtain ⟨z', hz, e⟩ := e
    cases e
    obtain ⟨r, hrun, hzr⟩ := aindexAddr_spec (w := w) hz (aeval_spec hf x) (aeval_spec hf ix)
    exact qui (by simp only [execOp, ho]) rfl hrun hzr
  · rename_i t x ix ho
    simp only [Option.map_eq_some_iff] at e
    obtain ⟨z', hz, e⟩ := e
    cases e
    obtain ⟨r, hrun, hzr⟩ := aindex_spec (w := w) hz (aeval_spec hf x) (aeval_spec hf ix)
    exact qui (by simp only [execOp, ho]) rfl hrun hzr
  · rename_i x i ho
    simp only [Option.map_eq_some_iff] at e
    obtain ⟨z', hz, e⟩ := e
    cases e
    obtain ⟨r, hrun, hzr⟩ := aextract_spec (P := P) (w := w) hz (aeval_spec hf x)
    exact qui (by simp only [execOp, ho]) rfl hrun hzr
  · rename_i c ho
    have hargs : c.args.map a.eval = (c.args.toList.map a.eval).toArray := arr_map _ _
    split at e
    · rename_i b hcal
      obtain ⟨r, w', G', hrun, hz, hst⟩ := evBuiltin_spec hlim e hr (VRs.map_eval hf c.args.toList) o.type (c.args.map fun | .const _ => true | _ => false)
      refine val (r := r) (w' := w') ?_ hst hz
      simp only [execOp, ho, resolve, hcal, Sem.run_bind, Sem.run_pure, Result.andThen_ok, invoke]
      rw [hargs]
      exact hrun
    · rename_i f hcal
      split at e
      · rename_i g caps hg
        have hfv := aeval_spec hf f
        rw [hg] at hfv
        generalize hfe : a.eval f = fv at hfv
        cases hfv with | @fn _ _ vs hl hc =>
        have hcv : (callFunc g (c.args.toList.map a.eval ++ vs).toArray).run P w = (execOp a.eval o).run P w := by
          simp only [execOp, ho, resolve, hcal, Sem.run_bind, hfe, Deferred.ofValue, Sem.run_pure, Result.andThen_ok, invoke]
          rw [hargs]
          simp
        rcases hcall.calls _ _ _ _ _ e I G base w _ hr ((VRs.map_eval hf c.args.toList).append (VRs.mk hl hc)) with ⟨henters, hcalls⟩ | ⟨r, w', hval, r', I', G', hrr, h1, h2, h3, h4, h5, h6, h7⟩
        · rw [hcv] at henters
          unfold Oper.wp
          rw [henters, Oper.upon_enter]
          refine hcalls.mono fun e' w' h' => ?_
          obtain ⟨r, I', G', rfl, h1, h2, h3, h4, h5, h6, h7⟩ := h'
          exact hK r w' I' G' ⟨h1, h2, h3, h5, h6, h7⟩ h4
        · cases hrr
          rw [hcv] at hval
          unfold Oper.wp
          rw [hval]
          exact hK r w' I' G' ⟨h1, h2, h3, h5, h6, h7⟩ h4
      · cases e
    · cases e
  · cases e
end
end Go.Ev

/- Regions: operations one after another, and in whatever order their edges allow. -/
namespace Go.Ev
open Go Go.RowKit

/-- What holds of a frame, of the heap and of memory, all since the call began. -/
structure St (I0 : IM) (G0 : GM) (H0 : Heap) (base lim nt : Nat) (w0 : World) (fr : List AV) (H : Heap) (a : Act) (w : World) : Prop where
  ex : ∃ I G, IM.le I0 I ∧ GM.le G0 G ∧ HRel I G H base w ∧ VRs I G fr a.tmps.toList
  below : Below base w0 w
  drop : H.drop lim = H0.drop lim
  len : H.length = H0.length
  defers : a.defers = []
  size : a.tmps.size = nt

theorem putA_spec {I : IM} {G : GM} {fr : List AV} {a : Act} (h : VRs I G fr a.tmps.toList) (dst : Option Tmp) {z : AV} {r : Value} (hz : VR I G z r) : VRs I G (putA fr dst z) (a.put dst r).tmps.toList := by
  cases dst with
  | none => exact h
  | some d =>
    simp only [putA, Act.put, Array.toList_setIfInBounds]
    exact h.set d hz
theorem put_size (a : Act) (dst : Option Tmp) (r : Value) : (a.put dst r).tmps.size = a.tmps.size := by cases dst <;> simp [Act.put]
theorem put_defers (a : Act) (dst : Option Tmp) (r : Value) : (a.put dst r).defers = a.defers := by cases dst <;> rfl

theorem yieldA_spec {I : IM} {G : GM} {ops : List Oper} {fr : List AV} {a : Act} (h : VRs I G fr a.tmps.toList) {j : Nat} {y : Option Bool} (e : yieldA ops fr j = some y) : yielded ops.toArray a.tmps j = y := by
  unfold yieldA at e
  unfold yielded
  rw [show ops.toArray[j]? = ops[j]? by simp]
  split at e
  · cases e
  · rename_i d hd
    rw [hd]
    simp only [Option.bind_some]
    have hin : ∀ x : AV, fr.getD d .junk = x → x ≠ .junk → ∃ v, a.tmps[d]? = some v ∧ VR I G x v := by
      intro x hx hne
      rcases Nat.lt_or_ge d fr.length with hlt | hge
      · have hx' : fr[d]? = some x := by rw [List.getElem?_eq_getElem hlt]; rw [List.getD_eq_getElem?_getD, List.getElem?_eq_getElem hlt] at hx; simpa using hx
        obtain ⟨v, hv, hxv⟩ := h.get hx'
        exact ⟨v, by simpa using hv, hxv⟩
      · rw [List.getD_eq_getElem?_getD, List.getElem?_eq_none hge] at hx
        exact absurd hx.symm hne
    unfold yv at e
    split at e
    · rename_i b hb
      cases e
      obtain ⟨v, hv, hxv⟩ := hin _ hb (by simp)
      rw [hv]
      cases hxv with | d hd => cases hd; rfl
    · rename_i hb
      cases e
      obtain ⟨v, hv, hxv⟩ := hin _ hb (by simp)
      rw [hv]
      cases hxv
      rfl
    · cases e

section
variable {P : Program} {call : ACall} {lim : Nat} {I0 : IM} {G0 : GM} {H0 : Heap} {base nt : Nat} {w0 : World}

theorem evGuarded_spec (hcall : CallOk P call lim) (hlim : 1 ≤ lim) {all : List Oper} {o : Oper} {fr : List AV} {H : Heap} {z : AV} {H' : Heap} (e : evGuarded P call lim all o fr H = some (z, H')) {a : Act} {w : World} (hs : St I0 G0 H0 base lim nt w0 fr H a w)
    {K : Act → World → Prop} {Q : Exit → Act → World → Prop} (hK : ∀ a' w', St I0 G0 H0 base lim nt w0 (putA fr o.dst z) H' a' w' → K a' w') :
    if Region.wanted o (yielded all.toArray a.tmps) then o.wp P a w K Q ∨ (o.asks P a w ∧ LetsOut Q) else K (a.put o.dst undef) w := by
  obtain ⟨⟨I, G, hI, hG, hr, hf⟩, hb, hd, hl, hdf, hsz⟩ := hs
  have step : evOp P call lim o fr H = some (z, H') → o.wp P a w K Q := fun e => evOp_spec hcall hlim e hr hf fun r w' I' G' st hz =>
    hK _ _ ⟨⟨I', G', hI.trans st.lei, hG.trans st.le, st.rel, putA_spec (hf.mono st.lei st.le) o.dst hz⟩, hb.trans st.below, st.drop.trans hd, st.len.trans hl, by rw [put_defers]; exact hdf, by rw [put_size]; exact hsz⟩
  unfold evGuarded at e
  split at e
  · rename_i hg
    rw [if_pos (by simp [Region.wanted, hg])]
    exact .inl (step e)
  · rename_i j want hg
    simp only [Option.bind_eq_some_iff] at e
    obtain ⟨y, hy, e⟩ := e
    have hyl := yieldA_spec hf hy
    cases hq : (y == some want) with
    | true =>
      rw [hq] at e
      simp only [cond_true] at e
      rw [if_pos (by simp only [Region.wanted, hg, hyl]; exact hq)]
      exact .inl (step e)
    | false =>
      rw [hq] at e
      simp only [cond_false, Option.some.injEq, Prod.mk.injEq] at e
      obtain ⟨rfl, rfl⟩ := e
      rw [if_neg (by simp only [Region.wanted, hg, hyl, hq]; simp)]
      exact hK _ _ ⟨⟨I, G, hI, hG, hr, putA_spec hf o.dst .undef⟩, hb, hd, hl, by rw [put_defers]; exact hdf, by rw [put_size]; exact hsz⟩

theorem evOps_spec (hcall : CallOk P call lim) (hlim : 1 ≤ lim) {all : List Oper} : ∀ (rest : List Oper) {k : List AV → Heap → Option Res} {fr : List AV} {H : Heap} {r : Res} (_ : evOps P call lim all rest k fr H = some r) {a : Act} {w : World} (_ : St I0 G0 H0 base lim nt w0 fr H a w)
    {Q : Exit → Act → World → Prop} (_ : ∀ fr' H' a' w', k fr' H' = some r → St I0 G0 H0 base lim nt w0 fr' H' a' w' → Q .normal a' w'), wpList P all.toArray Q rest a w
  | [], k, fr, H, r, e, a, w, hs, Q, hQ => hQ _ _ _ _ e hs
  | o :: rest, k, fr, H, r, e, a, w, hs, Q, hQ => by
    simp only [evOps_cons, Option.bind_eq_some_iff] at e
    obtain ⟨⟨z, H'⟩, hz, e⟩ := e
    exact evGuarded_spec hcall hlim hz hs fun a' w' hs' => evOps_spec hcall hlim rest e hs' hQ

theorem St.drew {fr : List AV} {H : Heap} {a : Act} {w : World} (h : St I0 G0 H0 base lim nt w0 fr H a w) : St I0 G0 H0 base lim nt w0 fr H a w.drew := by
  obtain ⟨⟨I, G, hI, hG, hr, hf⟩, hb, hd, hl, hdf, hsz⟩ := h
  exact ⟨⟨I, G, hI, hG, hr.drew, hf⟩, hb.drew, hd, hl, hdf, hsz⟩
end
end Go.Ev

/- A region whose order is open: whatever order its edges allow, it comes to what the text's order comes to. -/
namespace Go.Ev
open Go Go.RowKit

/-! ### 1. What an operation looks at, and what it does to the heap -/
def Grow (H H' : Heap) : Prop := ∃ A e Ht, H = A :: Ht ∧ H' = (A ++ e) :: Ht
theorem Grow.trans {a b c : Heap} (h : Grow a b) (k : Grow b c) : Grow a c := by
  obtain ⟨A, e, Ht, rfl, rfl⟩ := h
  obtain ⟨B, f, Hs, h1, rfl⟩ := k
  injection h1 with h1 h2
  subst h1 h2
  exact ⟨A, e ++ f, Ht, rfl, by simp⟩
def GrowE (H H' : Heap) : Prop := H' = H ∨ Grow H H'
theorem GrowE.trans {a b c : Heap} (h : GrowE a b) (k : GrowE b c) : GrowE a c := by
  rcases h with rfl | h
  · exact k
  · rcases k with rfl | k
    · exact .inr h
    · exact .inr (h.trans k)
theorem getB_grow {H H' : Heap} (h : GrowE H H') {l i : Nat} {c : List AV} (e : getB H l i = some c) : getB H' l i = some c := by
  rcases h with rfl | ⟨A, x, Ht, rfl, rfl⟩
  · exact e
  · cases l with
    | succ l => exact e
    | zero =>
      have hi := getB_lt e
      simp only [getB] at e ⊢
      rw [List.getElem?_append_left hi]
      exact e
theorem pushB_grow {H H' : Heap} {c : List AV} {n : Nat} (e : pushB H c = some (n, H')) : Grow H H' := by
  obtain ⟨A, Ht, rfl, _, rfl⟩ := pushB_spec e
  exact ⟨A, [some c], Ht, rfl, rfl⟩

section
variable {P : Program} {call : ACall} {lim : Nat}
theorem aload_grow {H H' : Heap} (h : GrowE H H') {t : TypeId} {a z : AV} (e : aload P H t a = some z) : aload P H' t a = some z := by
  simp only [aload, Option.bind_eq_some_iff] at e ⊢
  obtain ⟨ag, hag, e⟩ := e
  refine ⟨ag, hag, ?_⟩
  split at e
  · simp only [Option.bind_eq_some_iff] at e ⊢
    obtain ⟨c, hc, e⟩ := e
    exact ⟨c, getB_grow h hc, e⟩
  · exact e
  · cases e

theorem evOp_eval {o : Oper} {fr fr2 : List AV} {H : Heap} (h : ∀ x ∈ o.op.operands.toList, aeval fr x = aeval fr2 x) : evOp P call lim o fr H = evOp P call lim o fr2 H := by
  have lst : ∀ xs : List Operand, (∀ x ∈ xs, aeval fr x = aeval fr2 x) → xs.map (aeval fr) = xs.map (aeval fr2) := fun xs hx => List.map_congr_left hx
  have opt : ∀ q : Option Operand, (∀ x, q = some x → aeval fr x = aeval fr2 x) → q.map (aeval fr) = q.map (aeval fr2) := by
    intro q hq
    cases q with
    | none => rfl
    | some x => simp [hq x rfl]
  have prs : ∀ ps : List (Nat × Operand), (∀ p ∈ ps, aeval fr p.2 = aeval fr2 p.2) → ps.map (fun p => (p.1, aeval fr p.2)) = ps.map (fun p => (p.1, aeval fr2 p.2)) := fun ps hp => List.map_congr_left fun p hm => by rw [hp p hm]
  obtain ⟨dst, op, type, pos, after, guard⟩ := o
  simp only at h
  cases op with
  | build t ps =>
    have := prs ps.toList (fun p hp => h p.2 (by simp only [Op.operands, List.mem_map]; exact ⟨p, hp, rfl⟩))
    simp only [evOp, this]
  | buildSlice t n ps =>
    have := prs ps.toList (fun p hp => h p.2 (by simp only [Op.operands, List.mem_map]; exact ⟨p, hp, rfl⟩))
    simp only [evOp, this]
  | makeFunc f first caps =>
    have := lst caps.toList (fun x hx => h x (by simp only [Op.operands, Array.toList_append, List.mem_append]; exact .inr hx))
    cases f with
    | func f => simp only [evOp, this]
    | _ => rfl
  | slice t x lo hi mx =>
    have h0 := h x (by simp [Op.operands])
    have h1 := opt lo (fun y hy => h y (by subst hy; simp [Op.operands]))
    have h2 := opt hi (fun y hy => h y (by subst hy; simp [Op.operands]))
    have h3 := opt mx (fun y hy => h y (by subst hy; simp [Op.operands]))
    simp only [evOp, h0, h1, h2, h3]
  | call c =>
    have ha := lst c.args.toList (fun x hx => h x (by simp only [Op.operands, Call.operands, Array.toList_append, List.mem_append]; exact .inr hx))
    obtain ⟨cal, args, ts⟩ := c
    cases cal with
    | builtin b => simp only [evOp]; simp only at ha; rw [ha]
    | value f =>
      have hf := h f (by simp [Op.operands, Call.operands])
      simp only [evOp]; simp only at ha; rw [ha, hf]
    | invoke r m => rfl
  | move x => simp only [evOp, h x (by simp [Op.operands])]
  | assign x => simp only [evOp, h x (by simp [Op.operands])]
  | pick c x y => simp only [evOp, h c (by simp [Op.operands]), h x (by simp [Op.operands]), h y (by simp [Op.operands])]
  | box t x => simp only [evOp, h x (by simp [Op.operands])]
  | load t x => simp only [evOp, h x (by simp [Op.operands])]
  | store t x y => simp only [evOp, h x (by simp [Op.operands]), h y (by simp [Op.operands])]
  | nilCheck x => simp only [evOp, h x (by simp [Op.operands])]
  | binOp op t x y yt => simp only [evOp, h x (by simp [Op.operands]), h y (by simp [Op.operands])]
  | unOp op t x => simp only [evOp, h x (by simp [Op.operands])]
  | convert s d x => simp only [evOp, h x (by simp [Op.operands])]
  | makeSlice t l c => simp only [evOp, h l (by simp [Op.operands]), h c (by simp [Op.operands])]
  | fieldAddr s x f => simp only [evOp, h x (by simp [Op.operands])]
  | field s x f => simp only [evOp, h x (by simp [Op.operands])]
  | indexAddr t x ix => simp only [evOp, h x (by simp [Op.operands]), h ix (by simp [Op.operands])]
  | index t x ix => simp only [evOp, h x (by simp [Op.operands]), h ix (by simp [Op.operands])]
  | extract x i => simp only [evOp, h x (by simp [Op.operands])]
  | _ => rfl
theorem aeval_same {fr fr2 : List AV} {x : Operand} (h : ∀ t ∈ tmpOf x, fr.getD t .junk = fr2.getD t .junk) : aeval fr x = aeval fr2 x := by
  cases x with
  | tmp t => exact h t (by simp [tmpOf])
  | _ => rfl
theorem evGuarded_same {all : List Oper} {o : Oper} {fr fr2 : List AV} {H : Heap} (h : ∀ t ∈ looks all o, fr.getD t .junk = fr2.getD t .junk) : evGuarded P call lim all o fr H = evGuarded P call lim all o fr2 H := by
  have he : ∀ x ∈ o.op.operands.toList, aeval fr x = aeval fr2 x := fun x hx => aeval_same fun t ht => h t (by
    simp only [looks, List.mem_append, List.mem_flatMap]
    exact .inl ⟨x, hx, ht⟩)
  unfold evGuarded
  rw [evOp_eval he]
  split
  · rfl
  · rename_i j want hg
    have : yieldA all fr j = yieldA all fr2 j := by
      unfold yieldA
      split
      · rfl
      · rename_i d hd
        rw [h d (by simp only [looks, hg, hd, List.mem_append]; exact .inr (by simp))]
    rw [this]

theorem evBuiltin_len (ts : List TypeId) (args : List AV) : ∃ q : Option AV, ∀ H, evBuiltin P lim H .len ts args = q.map fun v => (v, H) := by
  match ts, args with
  | [t], [x] => exact ⟨alen P t x, fun _ => rfl⟩
  | [], _ => exact ⟨none, fun _ => rfl⟩
  | _ :: _ :: _, _ => exact ⟨none, fun _ => rfl⟩
  | [t], [] => exact ⟨none, fun _ => rfl⟩
  | [t], _ :: _ :: _ => exact ⟨none, fun _ => rfl⟩
theorem evBuiltin_max (ts : List TypeId) (args : List AV) : ∃ q : Option AV, ∀ H, evBuiltin P lim H .max ts args = q.map fun v => (v, H) := by
  match args with
  | [x, y] => exact ⟨amax x y, fun _ => by unfold evBuiltin; rfl⟩
  | [] => exact ⟨none, fun _ => rfl⟩
  | [x] => exact ⟨none, fun _ => rfl⟩
  | _ :: _ :: _ :: _ => exact ⟨none, fun _ => rfl⟩
theorem evBuiltin_min (ts : List TypeId) (args : List AV) : ∃ q : Option AV, ∀ H, evBuiltin P lim H .min ts args = q.map fun v => (v, H) := by
  match args with
  | [x, y] => exact ⟨amin x y, fun _ => by unfold evBuiltin; rfl⟩
  | [] => exact ⟨none, fun _ => rfl⟩
  | [x] => exact ⟨none, fun _ => rfl⟩
  | _ :: _ :: _ :: _ => exact ⟨none, fun _ => rfl⟩
theorem evBuiltin_sliceData (ts : List TypeId) (args : List AV) : ∃ q : Option AV, ∀ H, evBuiltin P lim H .unsafeSliceData ts args = q.map fun v => (v, H) := by
  match args with
  | [x] => exact ⟨asliceData x, fun _ => by unfold evBuiltin; rfl⟩
  | [] => exact ⟨none, fun _ => rfl⟩
  | _ :: _ :: _ => exact ⟨none, fun _ => rfl⟩
theorem evOp_plain {pureF : FuncId → Bool} {o : Oper} (hc : opClass pureF o = 0) {fr : List AV} {H : Heap} {z : AV} {H' : Heap} (e : evOp P call lim o fr H = some (z, H')) (H2 : Heap) : H' = H ∧ evOp P call lim o fr H2 = some (z, H2) := by
  obtain ⟨dst, op, type, pos, after, guard⟩ := o
  have mp : ∀ {q : Option AV}, (q.map fun v => (v, H)) = some (z, H') → H' = H ∧ (q.map fun v => (v, H2)) = some (z, H2) := by
    intro q hq
    simp only [Option.map_eq_some_iff] at hq ⊢
    obtain ⟨v, hv, e⟩ := hq
    cases e
    exact ⟨rfl, _, hv, rfl⟩
  cases op with
  | move x => simp only [evOp] at e ⊢; cases e; exact ⟨rfl, rfl⟩
  | assign x => simp only [evOp] at e ⊢; cases e; exact ⟨rfl, rfl⟩
  | pick c x y =>
    simp only [evOp, Option.map_eq_some_iff] at e ⊢
    obtain ⟨t, ht, e⟩ := e
    cases e
    exact ⟨rfl, t, ht, rfl⟩
  | build t ps => exact mp e
  | nilCheck x => exact mp e
  | binOp op t x y yt => exact mp e
  | unOp op t x => exact mp e
  | convert s d x => exact mp e
  | slice t x lo hi mx => exact mp e
  | fieldAddr s x f => exact mp e
  | field s x f => exact mp e
  | indexAddr t x ix => exact mp e
  | index t x ix => exact mp e
  | extract x i => exact mp e
  | makeFunc f first caps =>
    cases f with
    | func f =>
      simp only [evOp] at e ⊢
      cases hq : (first.size == 0) with
      | false => rw [hq] at e; cases e
      | true => rw [hq] at e; simp only [cond_true] at e ⊢; cases e; exact ⟨rfl, rfl⟩
    | _ => cases e
  | call c =>
    obtain ⟨cal, args, ts⟩ := c
    cases cal with
    | builtin b =>
      simp only [evOp] at e ⊢
      cases b <;> first
        | (simp [opClass] at hc; done)
        | (obtain ⟨q, hq⟩ := evBuiltin_len (P := P) (lim := lim) ts.toList (args.toList.map (aeval fr)); rw [hq] at e ⊢; exact mp e)
        | (obtain ⟨q, hq⟩ := evBuiltin_max (P := P) (lim := lim) ts.toList (args.toList.map (aeval fr)); rw [hq] at e ⊢; exact mp e)
        | (obtain ⟨q, hq⟩ := evBuiltin_sliceData (P := P) (lim := lim) ts.toList (args.toList.map (aeval fr)); rw [hq] at e ⊢; exact mp e)
        | (obtain ⟨q, hq⟩ := evBuiltin_min (P := P) (lim := lim) ts.toList (args.toList.map (aeval fr)); rw [hq] at e ⊢; exact mp e)
    | value f =>
      cases f with
      | func f => simp only [opClass] at hc; cases h : pureF f <;> rw [h] at hc <;> cases hc
      | _ => simp [opClass] at hc
    | invoke r m => simp [opClass] at hc
  | _ => simp [opClass] at hc
theorem evOp_load {pureF : FuncId → Bool} {o : Oper} (hc : opClass pureF o = 1) {fr : List AV} {H : Heap} {z : AV} {H' : Heap} (e : evOp P call lim o fr H = some (z, H')) : H' = H ∧ ∀ H2, GrowE H H2 → evOp P call lim o fr H2 = some (z, H2) := by
  obtain ⟨dst, op, type, pos, after, guard⟩ := o
  cases op with
  | load t x =>
    simp only [evOp, Option.map_eq_some_iff] at e ⊢
    obtain ⟨v, hv, e⟩ := e
    cases e
    exact ⟨rfl, fun H2 h2 => ⟨z, aload_grow h2 hv, rfl⟩⟩
  | call c =>
    obtain ⟨cal, args, ts⟩ := c
    cases cal with
    | builtin b => cases b <;> simp [opClass] at hc
    | value f =>
      cases f with
      | func f => simp only [opClass] at hc; cases h : pureF f <;> rw [h] at hc <;> cases hc
      | _ => simp [opClass] at hc
    | invoke r m => simp [opClass] at hc
  | _ => simp [opClass] at hc
theorem evOp_makes {pureF : FuncId → Bool} {o : Oper} (hc : opClass pureF o = 2) {fr : List AV} {H : Heap} {z : AV} {H' : Heap} (e : evOp P call lim o fr H = some (z, H')) : Grow H H' := by
  obtain ⟨dst, op, type, pos, after, guard⟩ := o
  cases op with
  | alloc t =>
    simp only [evOp, Option.bind_eq_some_iff, Option.map_eq_some_iff] at e
    obtain ⟨c, _, ⟨n, H1⟩, hp, e⟩ := e
    cases e
    exact pushB_grow hp
  | box t x =>
    simp only [evOp, Option.bind_eq_some_iff, Option.map_eq_some_iff] at e
    obtain ⟨c, _, ⟨n, H1⟩, hp, e⟩ := e
    cases e
    exact pushB_grow hp
  | buildSlice t n ps =>
    simp only [evOp, abuildSlice] at e
    split at e
    · simp only [Option.bind_eq_some_iff] at e
      obtain ⟨s, _, e⟩ := e
      cases hq : (Nat.ble (n * s) 16777216 && Nat.blt 0 s) with
      | false => rw [hq] at e; cases e
      | true =>
        rw [hq] at e
        simp only [cond_true, Option.bind_eq_some_iff] at e
        obtain ⟨zc, _, e⟩ := e
        cases hz : (zc.length == s) with
        | false => rw [hz] at e; cases e
        | true =>
          rw [hz] at e
          simp only [cond_true, Option.bind_eq_some_iff, Option.map_eq_some_iff] at e
          obtain ⟨cs, _, ⟨k, H1⟩, hp, e⟩ := e
          cases e
          exact pushB_grow hp
    · cases e
  | makeSlice t l c =>
    simp only [evOp, amake] at e
    split at e
    · simp only [Option.bind_eq_some_iff] at e
      obtain ⟨i, _, ln, _, cn, _, e⟩ := e
      cases hq : (decide (0 ≤ ln) && decide (ln ≤ cn) && decide (cn ≤ 140737488355328) && decide (i.bytes * cn ≤ 140737488355328) && Nat.blt 0 i.size) with
      | false => rw [hq] at e; cases e
      | true =>
        rw [hq] at e
        simp only [cond_true, Option.bind_eq_some_iff] at e
        obtain ⟨zc, _, e⟩ := e
        cases hz : (zc.length == i.size) with
        | false => rw [hz] at e; cases e
        | true =>
          rw [hz] at e
          simp only [cond_true, Option.map_eq_some_iff] at e
          obtain ⟨⟨k, H1⟩, hp, e⟩ := e
          cases e
          exact pushB_grow hp
    · cases e
  | call c =>
    obtain ⟨cal, args, ts⟩ := c
    cases cal with
    | builtin b => cases b <;> simp [opClass] at hc
    | value f =>
      cases f with
      | func f => simp only [opClass] at hc; cases h : pureF f <;> rw [h] at hc <;> cases hc
      | _ => simp [opClass] at hc
    | invoke r m => simp [opClass] at hc
  | _ => simp [opClass] at hc
theorem evOp_pure {pureF : FuncId → Bool} (hp : ∀ f args H z H', pureF f = true → call f args H = some (z, H') → H' = H) {o : Oper} (hc : opClass pureF o = 4) {fr : List AV} {H : Heap} {z : AV} {H' : Heap} (e : evOp P call lim o fr H = some (z, H')) : H' = H := by
  obtain ⟨dst, op, type, pos, after, guard⟩ := o
  cases op with
  | call c =>
    obtain ⟨cal, args, ts⟩ := c
    cases cal with
    | builtin b => cases b <;> simp [opClass] at hc
    | value f =>
      cases f with
      | func f =>
        simp only [opClass] at hc
        cases h : pureF f with
        | false => rw [h] at hc; cases hc
        | true =>
          simp only [evOp, aeval] at e
          exact hp f _ _ _ _ h e
      | _ => simp [opClass] at hc
    | invoke r m => simp [opClass] at hc
  | _ => simp [opClass] at hc

/-- Does an operation change the heap? -/
theorem opClass_cases (pureF : FuncId → Bool) (o : Oper) : opClass pureF o = 0 ∨ opClass pureF o = 1 ∨ opClass pureF o = 2 ∨ opClass pureF o = 3 ∨ opClass pureF o = 4 := by
  unfold opClass
  split <;> first
    | exact .inl rfl
    | exact .inr (.inl rfl)
    | exact .inr (.inr (.inl rfl))
    | exact .inr (.inr (.inr (.inl rfl)))
    | (split <;> first
        | exact .inl rfl
        | exact .inr (.inr (.inr (.inl rfl)))
        | (rename_i f _; cases pureF f <;> simp))
theorem evGuarded_still {pureF : FuncId → Bool} (hp : ∀ f args H z H', pureF f = true → call f args H = some (z, H') → H' = H) {all : List Oper} {o : Oper} (hc : chainC (opClass pureF o) = false) {fr : List AV} {H : Heap} {z : AV} {H' : Heap}
    (e : evGuarded P call lim all o fr H = some (z, H')) : H' = H := by
  have key : evOp P call lim o fr H = some (z, H') → H' = H := by
    intro e
    rcases opClass_cases pureF o with h | h | h | h | h
    · exact (evOp_plain h e H).1
    · exact (evOp_load h e).1
    · rw [h] at hc; cases hc
    · rw [h] at hc; cases hc
    · exact evOp_pure hp h e
  unfold evGuarded at e
  split at e
  · exact key e
  · simp only [Option.bind_eq_some_iff] at e
    obtain ⟨y, hy, e⟩ := e
    rename_i j want hg
    cases hq : (y == some want) with
    | true => rw [hq] at e; exact key e
    | false => rw [hq] at e; simp only [cond_false] at e; cases e; rfl
theorem evGuarded_plain {pureF : FuncId → Bool} {all : List Oper} {o : Oper} (hc : opClass pureF o = 0) {fr : List AV} {H : Heap} {z : AV} {H' : Heap} (e : evGuarded P call lim all o fr H = some (z, H')) (H2 : Heap) : evGuarded P call lim all o fr H2 = some (z, H2) := by
  unfold evGuarded at e ⊢
  split at e
  · exact (evOp_plain hc e H2).2
  · simp only [Option.bind_eq_some_iff] at e ⊢
    obtain ⟨y, hy, e⟩ := e
    refine ⟨y, hy, ?_⟩
    rename_i j want hg
    cases hq : (y == some want) with
    | true => rw [hq] at e; exact (evOp_plain hc e H2).2
    | false => rw [hq] at e; simp only [cond_false] at e ⊢; cases e; rfl
theorem evGuarded_load {pureF : FuncId → Bool} {all : List Oper} {o : Oper} (hc : opClass pureF o = 1) {fr : List AV} {H : Heap} {z : AV} {H' : Heap} (e : evGuarded P call lim all o fr H = some (z, H')) {H2 : Heap} (h2 : GrowE H H2) : evGuarded P call lim all o fr H2 = some (z, H2) := by
  unfold evGuarded at e ⊢
  split at e
  · exact (evOp_load hc e).2 H2 h2
  · simp only [Option.bind_eq_some_iff] at e ⊢
    obtain ⟨y, hy, e⟩ := e
    refine ⟨y, hy, ?_⟩
    rename_i j want hg
    cases hq : (y == some want) with
    | true => rw [hq] at e; exact (evOp_load hc e).2 H2 h2
    | false => rw [hq] at e; simp only [cond_false] at e ⊢; cases e; rfl
theorem evGuarded_makes {pureF : FuncId → Bool} {all : List Oper} {o : Oper} (hc : opClass pureF o = 2) {fr : List AV} {H : Heap} {z : AV} {H' : Heap} (e : evGuarded P call lim all o fr H = some (z, H')) : GrowE H H' := by
  unfold evGuarded at e
  split at e
  · exact .inr (evOp_makes hc e)
  · simp only [Option.bind_eq_some_iff] at e
    obtain ⟨y, hy, e⟩ := e
    rename_i j want hg
    cases hq : (y == some want) with
    | true => rw [hq] at e; exact .inr (evOp_makes hc e)
    | false => rw [hq] at e; simp only [cond_false] at e; cases e; exact .inl rfl
end
end Go.Ev

/- A region whose order is open: the theorem. -/
namespace Go.Ev
open Go Go.RowKit

/-- The last of those that are told. -/
def lastOf {α : Type} (f : Nat → Option α) : Nat → α → α
  | 0, d => d
  | n + 1, d => match f n with
    | some x => x
    | none => lastOf f n d
theorem lastOf_congr {α : Type} {f g : Nat → Option α} : ∀ {n : Nat} (_ : ∀ i, i < n → f i = g i) (d : α), lastOf f n d = lastOf g n d
  | 0, _, _ => rfl
  | n + 1, h, d => by
    simp only [lastOf]
    rw [h n (by omega), lastOf_congr (fun i hi => h i (by omega)) d]
theorem lastOf_at {α : Type} {f : Nat → Option α} {j : Nat} {x : α} (hj : f j = some x) : ∀ {n : Nat} (_ : j < n) (_ : ∀ i, j < i → i < n → f i = none) (d : α), lastOf f n d = x
  | 0, h, _, _ => by omega
  | n + 1, h, hn, d => by
    simp only [lastOf]
    rcases Nat.lt_or_ge j n with hlt | hge
    · rw [hn n hlt (by omega)]
      exact lastOf_at hj hlt (fun i h1 h2 => hn i h1 (by omega)) d
    · obtain rfl : n = j := by omega
      rw [hj]
theorem lastOf_none {α : Type} {f : Nat → Option α} : ∀ {n : Nat} (_ : ∀ i, i < n → f i = none) (d : α), lastOf f n d = d
  | 0, _, _ => rfl
  | n + 1, h, d => by
    simp only [lastOf]
    rw [h n (by omega)]
    exact lastOf_none (fun i hi => h i (by omega)) d

theorem lastOf_cases {α : Type} {f : Nat → Option α} : ∀ {n : Nat} (d : α), (∃ j, j < n ∧ f j = some (lastOf f n d) ∧ ∀ i, j < i → i < n → f i = none) ∨ ((∀ i, i < n → f i = none) ∧ lastOf f n d = d)
  | 0, d => .inr ⟨fun i h => by omega, rfl⟩
  | n + 1, d => by
    simp only [lastOf]
    cases h : f n with
    | some x => exact .inl ⟨n, by omega, h, fun i h1 h2 => by omega⟩
    | none =>
      rcases lastOf_cases (f := f) (n := n) d with ⟨j, h1, h2, h3⟩ | ⟨h1, h2⟩
      · refine .inl ⟨j, by omega, h2, fun i h4 h5 => ?_⟩
        rcases Nat.lt_or_ge i n with h6 | h6
        · exact h3 i h4 h6
        · obtain rfl : i = n := by omega
          exact h
      · refine .inr ⟨fun i h4 => ?_, h2⟩
        rcases Nat.lt_or_ge i n with h6 | h6
        · exact h1 i h6
        · obtain rfl : i = n := by omega
          exact h

/-! ### What stands ahead of what -/
inductive Ahead (ops : List Oper) : Nat → Nat → Prop
  | edge {j i : Nat} {o : Oper} {e : Edge} (ho : ops[j]? = some o) (he : e ∈ o.after.toList) (hb : Region.binds .any e = true) (hi : e.on = i) : Ahead ops j i
  | step {j k i : Nat} {o : Oper} {e : Edge} (ho : ops[j]? = some o) (he : e ∈ o.after.toList) (hb : Region.binds .any e = true) (hi : e.on = k) (h : Ahead ops k i) : Ahead ops j i
theorem bits_mem {acc : List Nat} : ∀ {es : List Edge} {i : Nat}, (bitsOf acc es).testBit i = true → ∃ e ∈ es, Region.binds .any e = true ∧ (e.on = i ∨ (acc.getD e.on 0).testBit i = true)
  | [], i, h => by simp [bitsOf] at h
  | e :: es, i, h => by
    unfold bitsOf at h
    cases hb : Region.binds .any e with
    | false =>
      rw [hb] at h
      obtain ⟨x, hx, h2⟩ := bits_mem h
      exact ⟨x, List.mem_cons_of_mem _ hx, h2⟩
    | true =>
      rw [hb] at h
      simp only [cond_true, Nat.testBit_or, Bool.or_eq_true, Nat.testBit_two_pow, decide_eq_true_eq] at h
      rcases h with h | h
      · exact ⟨e, List.mem_cons_self, hb, h⟩
      · obtain ⟨x, hx, h2⟩ := bits_mem h
        exact ⟨x, List.mem_cons_of_mem _ hx, h2⟩
theorem preds_aux (all : List Oper) : ∀ (rest pre : List Oper) (acc : List Nat), all = pre ++ rest → acc.length = pre.length → (∀ j i, (acc.getD j 0).testBit i = true → Ahead all j i) →
    ∀ j i, ((predsGo rest acc).getD j 0).testBit i = true → Ahead all j i
  | [], pre, acc, _, _, h => h
  | o :: rest, pre, acc, he, hl, h => by
    simp only [predsGo]
    refine preds_aux all rest (pre ++ [o]) _ (by simp [he]) (by simp [hl]) (fun j i hi => ?_)
    rw [List.getD_eq_getElem?_getD] at hi
    rcases Nat.lt_trichotomy j acc.length with hj | hj | hj
    · rw [List.getElem?_append_left hj, ← List.getD_eq_getElem?_getD] at hi
      exact h j i hi
    · subst hj
      rw [List.getElem?_append_right (Nat.le_refl _)] at hi
      simp only [Nat.sub_self, List.getElem?_cons_zero, Option.getD_some] at hi
      obtain ⟨e, he', hb, hi⟩ := bits_mem hi
      have ho : all[acc.length]? = some o := by rw [he, hl, List.getElem?_append_right (Nat.le_refl _)]; simp
      rcases hi with hi | hi
      · exact .edge ho he' hb hi
      · exact .step ho he' hb rfl (h _ _ hi)
    · rw [List.getElem?_eq_none (by simp; omega)] at hi
      simp at hi
theorem preds_ahead {ops : List Oper} {j i : Nat} (h : ((predsOf ops).getD j 0).testBit i = true) : Ahead ops j i :=
  preds_aux ops ops [] [] rfl rfl (fun j i h => by simp at h) j i h

/-- Whatever is done, what stands ahead of it is done. -/
def Closed (ops : List Oper) (L : Nat → Prop) : Prop := ∀ j o e, L j → ops[j]? = some o → e ∈ o.after.toList → Region.binds .any e = true → L e.on
theorem Closed.ahead {ops : List Oper} {L : Nat → Prop} (h : Closed ops L) {j i : Nat} (k : Ahead ops j i) : (∀ o e, ops[j]? = some o → e ∈ o.after.toList → Region.binds .any e = true → L e.on) → L i := by
  induction k with
  | edge ho he hb hi => intro hj; subst hi; exact hj _ _ ho he hb
  | step ho he hb hi _ ih => intro hj; subst hi; exact ih fun o' e' ho' he' hb' => h _ o' e' (hj _ _ ho he hb) ho' he' hb'

section
variable {P : Program} {call : ACall} {lim : Nat} {pureF : FuncId → Bool}

/-- The text's own order, step by step. -/
structure Trace (P : Program) (call : ACall) (lim : Nat) (ops : List Oper) (fr : List AV) (H : Heap) (zs : Nat → AV) (Hs : Nat → Heap) (frs : Nat → List AV) : Prop where
  fr0 : frs 0 = fr
  H0 : Hs 0 = H
  step : ∀ j o, ops[j]? = some o → evGuarded P call lim ops o (frs j) (Hs j) = some (zs j, Hs (j + 1)) ∧ frs (j + 1) = putA (frs j) o.dst (zs j)
theorem trace_aux (all : List Oper) : ∀ (rest : List Oper) {k : List AV → Heap → Option Res} {fr : List AV} {H : Heap} {r : Res} (_ : evOps P call lim all rest k fr H = some r),
    ∃ (zs : Nat → AV) (Hs : Nat → Heap) (frs : Nat → List AV), frs 0 = fr ∧ Hs 0 = H ∧ (∀ j o, rest[j]? = some o → evGuarded P call lim all o (frs j) (Hs j) = some (zs j, Hs (j + 1)) ∧ frs (j + 1) = putA (frs j) o.dst (zs j)) ∧ k (frs rest.length) (Hs rest.length) = some r
  | [], k, fr, H, r, e => ⟨fun _ => .junk, fun _ => H, fun _ => fr, rfl, rfl, fun j o h => by simp at h, e⟩
  | o :: rest, k, fr, H, r, e => by
    simp only [evOps_cons, Option.bind_eq_some_iff] at e
    obtain ⟨⟨z, H'⟩, hz, e⟩ := e
    obtain ⟨zs, Hs, frs, h1, h2, h3, h4⟩ := trace_aux all rest e
    refine ⟨fun j => match j with | 0 => z | j + 1 => zs j, fun j => match j with | 0 => H | j + 1 => Hs j, fun j => match j with | 0 => fr | j + 1 => frs j, rfl, rfl, fun j o' ho' => ?_, h4⟩
    cases j with
    | zero =>
      simp at ho'
      subst ho'
      refine ⟨?_, h1⟩
      show evGuarded P call lim all o fr H = some (z, Hs 0)
      rw [h2]
      exact hz
    | succ j => exact h3 j o' (by simpa using ho')

/-- What an open order asks besides. -/
structure Open (P : Program) (call : ACall) (lim : Nat) (pureF : FuncId → Bool) (ops : List Oper) (zs : Nat → AV) (Hs : Nat → Heap) (frs : Nat → List AV) : Prop where
  still : ∀ j, j < ops.length → stillI pureF ops (predsOf ops) j = true → Hs (j + 1) = Hs j
  late : ∀ j i o, j < ops.length → i ∈ lates pureF ops (predsOf ops) j → ops[i]? = some o → evGuarded P call lim ops o (frs i) (Hs (j + 1)) = some (zs i, Hs (j + 1))
  early : ∀ j i o, j < ops.length → i ∈ earlies pureF ops (predsOf ops) j → ops[j]? = some o → evGuarded P call lim ops o (frs j) (Hs i) = some (zs j, Hs i)
theorem allD_mem : ∀ {l : List Bool} (_ : allD l = true) {b : Bool} (_ : b ∈ l), b = true
  | _ :: _, h, _, .head _ => (by simp only [allD, Bool.and_eq_true] at h; exact h.1)
  | _ :: _, h, _, .tail _ hb => allD_mem (by simp only [allD, Bool.and_eq_true] at h; exact h.2) hb
def pendAt (zs : Nat → AV) (Hs : Nat → Heap) (frs : Nat → List AV) (pend : Nat → Option (List AV × AV × Heap)) (j0 j : Nat) : Nat → Option (List AV × AV × Heap) := fun i => bif Nat.ble j0 i && Nat.blt i j then some (frs i, zs i, Hs i) else pend i
theorem traceD_aux {pureF : FuncId → Bool} (all : List Oper) : ∀ (rest : List Oper) {j0 : Nat} {pend : Nat → Option (List AV × AV × Heap)} {k : List AV → Heap → Option Res} {fr : List AV} {H : Heap} {r : Res} (_ : evOpsD P call lim pureF all rest j0 pend k fr H = some r),
    ∃ (zs : Nat → AV) (Hs : Nat → Heap) (frs : Nat → List AV), frs j0 = fr ∧ Hs j0 = H ∧ (∀ j o, rest[j]? = some o → evGuarded P call lim all o (frs (j0 + j)) (Hs (j0 + j)) = some (zs (j0 + j), Hs (j0 + j + 1)) ∧ frs (j0 + j + 1) = putA (frs (j0 + j)) o.dst (zs (j0 + j))) ∧
      (∀ j, j < rest.length → allD (checks P call lim pureF all (j0 + j) (pendAt zs Hs frs pend j0 (j0 + j)) (frs (j0 + j)) (zs (j0 + j)) (Hs (j0 + j)) (Hs (j0 + j + 1))) = true) ∧ k (frs (j0 + rest.length)) (Hs (j0 + rest.length)) = some r
  | [], j0, pend, k, fr, H, r, e => ⟨fun _ => .junk, fun _ => H, fun _ => fr, rfl, rfl, fun j o h => by simp at h, fun j h => by simp at h, e⟩
  | o :: rest, j0, pend, k, fr, H, r, e => by
    simp only [evOpsD_cons, Option.bind_eq_some_iff] at e
    obtain ⟨⟨z, H'⟩, hz, e⟩ := e
    simp only at e
    cases hck : allD (checks P call lim pureF all j0 pend fr z H H') with
    | false => rw [hck] at e; cases e
    | true =>
      rw [hck] at e
      simp only [cond_true] at e
      obtain ⟨zs, Hs, frs, h1, h2, h3, h4, h5⟩ := traceD_aux all rest e
      have hne : ∀ m, j0 + 1 + m ≠ j0 := fun m => by omega
      refine ⟨fun j => if j = j0 then z else zs j, fun j => if j = j0 then H else Hs j, fun j => if j = j0 then fr else frs j, by simp, by simp, fun j o' ho' => ?_, fun j hj => ?_, ?_⟩
      · cases j with
        | zero =>
          simp only [List.getElem?_cons_zero, Option.some.injEq] at ho'
          subst ho'
          simp only [Nat.add_zero, if_true]
          rw [if_neg (by omega), if_neg (by omega), h1, h2]
          exact ⟨hz, rfl⟩
        | succ j =>
          have := h3 j o' (by simpa using ho')
          rw [show j0 + (j + 1) = j0 + 1 + j by omega]
          simp only [hne, if_false]
          rw [if_neg (by omega), if_neg (by omega)]
          exact this
      · cases j with
        | zero =>
          simp only [Nat.add_zero, if_true]
          rw [if_neg (by omega), h2]
          refine Eq.trans (congrArg (fun p => allD (checks P call lim pureF all j0 p fr z H H')) ?_) hck
          funext i
          unfold pendAt
          have : (Nat.ble j0 i && Nat.blt i j0) = false := by
            rw [Bool.and_eq_false_iff]
            rcases Nat.lt_or_ge i j0 with h | h
            · left
              cases hq : Nat.ble j0 i with
              | false => rfl
              | true => have := Nat.le_of_ble_eq_true hq; omega
            · right
              cases hq : Nat.blt i j0 with
              | false => rfl
              | true => have : i + 1 ≤ j0 := Nat.le_of_ble_eq_true hq; omega
          rw [this]
          rfl
        | succ j =>
          have := h4 j (by simp at hj; omega)
          rw [show j0 + (j + 1) = j0 + 1 + j by omega]
          simp only [hne, if_false]
          rw [if_neg (show ¬ j0 + 1 + j + 1 = j0 by omega)]
          refine Eq.trans (congrArg (fun p => allD (checks P call lim pureF all (j0 + 1 + j) p (frs (j0 + 1 + j)) (zs (j0 + 1 + j)) (Hs (j0 + 1 + j)) (Hs (j0 + 1 + j + 1)))) ?_) this
          funext i
          unfold pendAt
          by_cases hi : i = j0
          · subst hi
            have e1 : (Nat.ble i i && Nat.blt i (i + 1 + j)) = true := by
              rw [Bool.and_eq_true]
              exact ⟨Nat.ble_eq_true_of_le (Nat.le_refl _), Nat.ble_eq_true_of_le (show i + 1 ≤ i + 1 + j by omega)⟩
            have e2 : (Nat.ble (i + 1) i && Nat.blt i (i + 1 + j)) = false := by
              rw [Bool.and_eq_false_iff]
              left
              cases hq : Nat.ble (i + 1) i with
              | false => rfl
              | true => have := Nat.le_of_ble_eq_true hq; omega
            rw [e1, e2]
            simp
          · have e1 : Nat.ble j0 i = Nat.ble (j0 + 1) i := by
              rw [Bool.eq_iff_iff]
              constructor
              · intro h; have := Nat.le_of_ble_eq_true h; exact Nat.ble_eq_true_of_le (by omega)
              · intro h; have := Nat.le_of_ble_eq_true h; exact Nat.ble_eq_true_of_le (by omega)
            rw [e1]
            simp only [if_neg hi]
            rw [show (i == j0) = false by simpa using hi]
            rfl
      · rw [show j0 + (o :: rest).length = j0 + 1 + rest.length by simp; omega]
        simp only [hne, if_false]
        exact h5
theorem open_of_checks {pureF : FuncId → Bool} {ops : List Oper} {zs : Nat → AV} {Hs : Nat → Heap} {frs : Nat → List AV}
    (h : ∀ j, j < ops.length → allD (checks P call lim pureF ops (0 + j) (pendAt zs Hs frs (fun _ => none) 0 (0 + j)) (frs (0 + j)) (zs (0 + j)) (Hs (0 + j)) (Hs (0 + j + 1))) = true) (hcall : Drops call lim) (hl : 1 ≤ lim) (hs : ∀ j, j < ops.length → (Hs (j + 1)).drop lim = (Hs j).drop lim) : Open P call lim pureF ops zs Hs frs where
  still j hj hs'' := by
    have hs' := hs
    have := h j hj
    rw [Nat.zero_add] at this
    have := allD_mem this (b := stays lim (Hs j) (Hs (j + 1))) (by unfold checks; rw [hs'']; simp)
    exact stays_eq this (hs' j hj)
  late j i o hj hi ho := by
    have h1 := h j hj
    rw [Nat.zero_add] at h1
    have hij : i < j := by
      unfold lates at hi
      cases hc : chainI pureF ops (predsOf ops) j with
      | false => rw [hc] at hi; cases hi
      | true => rw [hc] at hi; exact List.mem_range.1 (List.mem_filter.1 hi).1
    have := allD_mem h1 (b := again lim (evGuarded P call lim ops o (frs i) (Hs (j + 1))) (zs i) (Hs (j + 1))) (by
      unfold checks
      refine List.mem_append_left _ (List.mem_append_right _ (List.mem_map.2 ⟨i, hi, ?_⟩))
      have e : pendAt zs Hs frs (fun _ => none) 0 j i = some (frs i, zs i, Hs i) := by
        unfold pendAt
        have : (Nat.ble 0 i && Nat.blt i j) = true := by
          rw [Bool.and_eq_true]
          exact ⟨Nat.ble_eq_true_of_le (Nat.zero_le _), Nat.ble_eq_true_of_le hij⟩
        rw [this]
        rfl
      rw [e, ho])
    exact again_eq this fun r hr => evGuarded_drop hcall hl hr
  early j i o hj hi ho := by
    have h1 := h j hj
    rw [Nat.zero_add] at h1
    have hij : i < j := by
      unfold earlies at hi
      cases hc : (chainI pureF ops (predsOf ops) j || classAt pureF ops j == 0) with
      | true => rw [hc] at hi; cases hi
      | false => rw [hc] at hi; exact List.mem_range.1 (List.mem_filter.1 hi).1
    have := allD_mem h1 (b := again lim (evGuarded P call lim ops o (frs j) (Hs i)) (zs j) (Hs i)) (by
      unfold checks
      refine List.mem_append_right _ (List.mem_map.2 ⟨i, hi, ?_⟩)
      have e : pendAt zs Hs frs (fun _ => none) 0 j i = some (frs i, zs i, Hs i) := by
        unfold pendAt
        have : (Nat.ble 0 i && Nat.blt i j) = true := by
          rw [Bool.and_eq_true]
          exact ⟨Nat.ble_eq_true_of_le (Nat.zero_le _), Nat.ble_eq_true_of_le hij⟩
        rw [this]
        rfl
      rw [e, ho])
    exact again_eq this fun r hr => evGuarded_drop hcall hl hr

theorem trace_len {ops : List Oper} {fr : List AV} {H : Heap} {zs : Nat → AV} {Hs : Nat → Heap} {frs : Nat → List AV} (t : Trace P call lim ops fr H zs Hs frs) : ∀ j, j ≤ ops.length → (frs j).length = fr.length
  | 0, _ => by rw [t.fr0]
  | j + 1, hj => by
    have hlt : j < ops.length := by omega
    rw [(t.step j ops[j] (List.getElem?_eq_getElem hlt)).2]
    have := trace_len t j (by omega)
    unfold putA
    split
    · simpa using this
    · exact this
/-- The destination of an operation. -/
def dstOf (ops : List Oper) (i : Nat) : Option Nat := (ops[i]?).bind (·.dst)
def chainAt (pureF : FuncId → Bool) (ops : List Oper) (i : Nat) : Bool := chainI pureF ops (predsOf ops) i
open Classical in
noncomputable def fSel (ops : List Oper) (zs : Nat → AV) (L : Nat → Prop) (t : Nat) : Nat → Option AV := fun i => if L i ∧ dstOf ops i = some t then some (zs i) else none
open Classical in
noncomputable def hSel (pureF : FuncId → Bool) (ops : List Oper) (Hs : Nat → Heap) (L : Nat → Prop) : Nat → Option Heap := fun i => if L i ∧ chainAt pureF ops i = true then some (Hs (i + 1)) else none

theorem trace_fr {ops : List Oper} {fr : List AV} {H : Heap} {zs : Nat → AV} {Hs : Nat → Heap} {frs : Nat → List AV} (t : Trace P call lim ops fr H zs Hs frs) (x : Nat) (hx : x < fr.length) :
    ∀ j, j ≤ ops.length → ∀ n, j ≤ n → (frs j).getD x .junk = lastOf (fSel ops zs (fun i => i < j) x) n (fr.getD x .junk) := by
  intro j
  induction j with
  | zero =>
    intro _ n _
    rw [t.fr0, lastOf_none]
    intro i _
    simp [fSel]
  | succ j ih =>
    intro hj n hn
    have hlt : j < ops.length := by omega
    have hs := (t.step j ops[j] (List.getElem?_eq_getElem hlt)).2
    rw [hs]
    have hd : dstOf ops j = ops[j].dst := by simp [dstOf, List.getElem?_eq_getElem hlt]
    by_cases hdx : ops[j].dst = some x
    · have hl : (frs j).length = fr.length := trace_len t j (by omega)
      rw [lastOf_at (j := j) (x := zs j) (by simp [fSel, hd, hdx]) (by omega) (fun i h1 h2 => by simp [fSel]; intro h3; omega)]
      simp [putA, hdx, List.getD_eq_getElem?_getD, hl, hx]
    · rw [show (putA (frs j) ops[j].dst (zs j)).getD x .junk = (frs j).getD x .junk by
        unfold putA
        split
        · rename_i d hdd
          have : d ≠ x := fun e => hdx (by rw [hdd, e])
          simp [List.getD_eq_getElem?_getD, List.getElem?_set, this]
        · rfl]
      rw [ih (by omega) n (by omega)]
      refine lastOf_congr (fun i _ => ?_) _
      unfold fSel
      by_cases hi : i = j
      · subst hi
        rw [if_neg (by omega), if_neg (by rw [hd]; exact fun h => hdx h.2)]
      · by_cases h1 : i < j ∧ dstOf ops i = some x
        · rw [if_pos h1, if_pos ⟨by omega, h1.2⟩]
        · rw [if_neg h1, if_neg (fun h => h1 ⟨by omega, h.2⟩)]
theorem trace_still (hp : ∀ f args H z H', pureF f = true → call f args H = some (z, H') → H' = H) {ops : List Oper} {fr : List AV} {H : Heap} {zs : Nat → AV} {Hs : Nat → Heap} {frs : Nat → List AV} (t : Trace P call lim ops fr H zs Hs frs) (hop : Open P call lim pureF ops zs Hs frs)
    {j : Nat} (hj : j < ops.length) (hc : chainAt pureF ops j = false) : Hs (j + 1) = Hs j := by
  have hs := (t.step j ops[j] (List.getElem?_eq_getElem hj)).1
  unfold chainAt chainI at hc
  rw [Bool.and_eq_false_iff] at hc
  rcases hc with hc | hc
  · exact evGuarded_still hp (by simpa [classAt, List.getElem?_eq_getElem hj] using hc) hs
  · exact hop.still j hj (by simpa using hc)
theorem trace_heap (hp : ∀ f args H z H', pureF f = true → call f args H = some (z, H') → H' = H) {ops : List Oper} {fr : List AV} {H : Heap} {zs : Nat → AV} {Hs : Nat → Heap} {frs : Nat → List AV} (t : Trace P call lim ops fr H zs Hs frs) (hop : Open P call lim pureF ops zs Hs frs) :
    ∀ j, j ≤ ops.length → ∀ n, j ≤ n → Hs j = lastOf (hSel pureF ops Hs (fun i => i < j)) n H := by
  intro j
  induction j with
  | zero =>
    intro _ n _
    rw [t.H0, lastOf_none]
    intro i _
    simp [hSel]
  | succ j ih =>
    intro hj n hn
    have hlt : j < ops.length := by omega
    cases hd : chainAt pureF ops j with
    | true =>
      rw [lastOf_at (j := j) (x := Hs (j + 1)) (by simp [hSel, hd]) (by omega) (fun i h1 h2 => by simp [hSel]; intro h3; omega)]
    | false =>
      rw [trace_still hp t hop hlt hd, ih (by omega) n (by omega)]
      refine lastOf_congr (fun i _ => ?_) _
      unfold hSel
      by_cases hi : i = j
      · subst hi
        rw [if_neg (by omega), if_neg (by rw [hd]; simp)]
      · by_cases h1 : i < j ∧ chainAt pureF ops i = true
        · rw [if_pos h1, if_pos ⟨by omega, h1.2⟩]
        · rw [if_neg h1, if_neg (fun h => h1 ⟨by omega, h.2⟩)]

theorem first_chain (hp : ∀ f args H z H', pureF f = true → call f args H = some (z, H') → H' = H) {ops : List Oper} {fr : List AV} {H : Heap} {zs : Nat → AV} {Hs : Nat → Heap} {frs : Nat → List AV} (t : Trace P call lim ops fr H zs Hs frs) (hop : Open P call lim pureF ops zs Hs frs) :
    ∀ d a, a + d ≤ ops.length → Hs (a + d) = Hs a ∨ ∃ m, a ≤ m ∧ m < a + d ∧ chainAt pureF ops m = true ∧ Hs m = Hs a := by
  intro d
  induction d with
  | zero => intro a _; exact .inl rfl
  | succ d ih =>
    intro a ha
    cases hc : chainAt pureF ops a with
    | true => exact .inr ⟨a, Nat.le_refl _, by omega, hc, rfl⟩
    | false =>
      have h1 := trace_still hp t hop (show a < ops.length by omega) hc
      rcases ih (a + 1) (by omega) with h2 | ⟨m, h2, h3, h4, h5⟩
      · left
        rw [show a + (d + 1) = a + 1 + d by omega, h2, h1]
      · exact .inr ⟨m, by omega, by omega, h4, by rw [h5, h1]⟩
theorem drawOk_pair {ops : List Oper} (h : drawOk pureF ops = true) {i j : Nat} {x y : Oper} (hij : i < j) (hx : ops[i]? = some x) (hy : ops[j]? = some y) :
    ((predsOf ops).getD j 0).testBit i = true ∨ (tmpsApart ops x y = true ∧ (classAt pureF ops i = 0 ∨ classAt pureF ops j = 0 ∨ chainAt pureF ops i = false ∨ chainAt pureF ops j = false)) := by
  have hj : j < ops.length := (List.getElem?_eq_some_iff.1 hy).1
  unfold drawOk at h
  rw [List.all_eq_true] at h
  replace h := fun j hj => h j (List.mem_range.2 hj)
  have := h j hj
  rw [Bool.and_eq_true] at this
  have := List.all_eq_true.1 this.2 i (List.mem_range.2 hij)
  rw [hx, hy, Bool.or_eq_true] at this
  rcases this with h1 | h1
  · exact .inl h1
  · simp only [Bool.and_eq_true, Bool.or_eq_true, beq_iff_eq, Bool.not_eq_true'] at h1
    exact .inr ⟨h1.1, by rcases h1.2 with ((h | h) | h) | h; exact .inl h; exact .inr (.inl h); exact .inr (.inr (.inl h)); exact .inr (.inr (.inr h))⟩
theorem drawOk_back {ops : List Oper} (h : drawOk pureF ops = true) {j : Nat} {o : Oper} {e : Edge} (ho : ops[j]? = some o) (he : e ∈ o.after.toList) (hb : Region.binds .any e = true) : e.on < j := by
  have hj : j < ops.length := (List.getElem?_eq_some_iff.1 ho).1
  unfold drawOk at h
  rw [List.all_eq_true] at h
  have := h j (List.mem_range.2 hj)
  rw [Bool.and_eq_true] at this
  have h1 := this.1
  rw [ho] at h1
  simp only [Option.toList_some, List.all_cons, List.all_nil, Bool.and_true, List.all_eq_true] at h1
  have h2 := h1 e he
  rw [hb] at h2
  have h3 : Nat.blt e.on j = true := by simpa only [Bool.not_true, Bool.false_or] using h2
  exact Nat.le_of_ble_eq_true h3
theorem apart_looks {ops : List Oper} {x y : Oper} (h : tmpsApart ops x y = true) : (∀ d, x.dst = some d → d ∉ looks ops y ∧ y.dst ≠ some d) ∧ (∀ d, y.dst = some d → d ∉ looks ops x) := by
  simp only [tmpsApart, Bool.and_eq_true] at h
  refine ⟨fun d hd => ?_, fun d hd => ?_⟩
  · have h1 := h.1
    rw [hd] at h1
    simp only [Bool.and_eq_true, Bool.not_eq_true', bne_iff_ne] at h1
    exact ⟨by simpa using h1.1, h1.2⟩
  · have h1 := h.2
    rw [hd] at h1
    simpa using h1

theorem filter_lt {p q : Nat → Bool} (h : ∀ x, q x = true → p x = true) : ∀ {l : List Nat} {i : Nat} (_ : i ∈ l) (_ : p i = true) (_ : q i = false), (l.filter q).length < (l.filter p).length
  | a :: l, i, hi, h1, h2 => by
    have hle : (l.filter q).length ≤ (l.filter p).length := by
      clear hi
      induction l with
      | nil => simp
      | cons b l ih =>
        simp only [List.filter_cons]
        cases hq : q b with
        | true => rw [if_pos rfl, if_pos (h b hq)]; simpa using ih
        | false =>
          rw [if_neg Bool.false_ne_true]
          split
          · rw [List.length_cons]; omega
          · exact ih
    simp only [List.filter_cons]
    rcases List.mem_cons.1 hi with rfl | hi
    · rw [if_pos h1, h2, if_neg Bool.false_ne_true, List.length_cons]; omega
    · have := filter_lt h hi h1 h2
      cases hq : q a with
      | true => rw [if_pos rfl, if_pos (h a hq)]; simpa using this
      | false =>
        rw [if_neg Bool.false_ne_true]
        split
        · rw [List.length_cons]; omega
        · exact this
theorem wpAny_of_trace (hcall : CallOk P call lim) (hlim : 1 ≤ lim) (hp : ∀ f args H z H', pureF f = true → call f args H = some (z, H') → H' = H) {ops : List Oper} (hok : drawOk pureF ops = true)
    {fr : List AV} {H : Heap} {zs : Nat → AV} {Hs : Nat → Heap} {frs : Nat → List AV} (t : Trace P call lim ops fr H zs Hs frs) (hop : Open P call lim pureF ops zs Hs frs) {I0 : IM} {G0 : GM} {H0 : Heap} {base nt : Nat} {w0 : World}
    {Q : Exit → Act → World → Prop} (hQ : ∀ a w, St I0 G0 H0 base lim nt w0 (frs ops.length) (Hs ops.length) a w → Q .normal a w) :
    ∀ (fuel : Nat) (listed : Array Bool) (frS : List AV) (HS : Heap) (a : Act) (w : World), listed.size = ops.length → Closed ops (fun i => listed.getD i false = true) →
      ((List.range ops.length).filter fun i => !listed.getD i false).length ≤ fuel → frS.length = fr.length → (∀ x, x < fr.length → frS.getD x .junk = lastOf (fSel ops zs (fun i => listed.getD i false = true) x) ops.length (fr.getD x .junk)) →
      HS = lastOf (hSel pureF ops Hs (fun i => listed.getD i false = true)) ops.length H → St I0 G0 H0 base lim nt w0 frS HS a w → wpAny P .any ops.toArray Q fuel listed a w := by
  intro fuel listed frS HS a w hsz hcl hfuel hflen hfr hhs hst
  -- what is ready: not done, all ahead of it done
  have hready : ∀ i, i ∈ Region.ready .any ops.toArray listed ↔ ∃ o, ops[i]? = some o ∧ listed.getD i false = false ∧ ∀ e ∈ o.after.toList, Region.binds .any e = true → listed.getD e.on false = true := by
    intro i
    simp only [Region.ready, List.mem_filter, List.mem_range, List.size_toArray, Bool.and_eq_true]
    have hg : i < ops.length → listed.getD i true = listed.getD i false := fun hi => by
      have : i < listed.size := by omega
      simp [Array.getD, this]
    constructor
    · rintro ⟨hi, h1, h2⟩
      refine ⟨ops[i], List.getElem?_eq_getElem hi, ?_, fun e he hb => ?_⟩
      · rw [hg hi] at h1
        simpa using h1
      · rw [show ops.toArray[i]? = some ops[i] by rw [List.getElem?_toArray]; exact List.getElem?_eq_getElem hi] at h2
        simp only [Option.map_some, Option.getD_some] at h2
        rw [← Array.all_toList, List.all_eq_true] at h2
        have := h2 e he
        rw [hb] at this
        simpa using this
    · rintro ⟨o, ho, h1, h2⟩
      have hi : i < ops.length := (List.getElem?_eq_some_iff.1 ho).1
      refine ⟨hi, by rw [hg hi, h1]; rfl, ?_⟩
      rw [show ops.toArray[i]? = some o by simp [ho]]
      simp only [Option.map_some, Option.getD_some]
      rw [← Array.all_toList, List.all_eq_true]
      intro e he
      cases hb : Region.binds .any e with
      | false => rfl
      | true => rw [h2 e he hb]; rfl
  -- nothing is ready: all is done
  have hdone : Region.ready .any ops.toArray listed = [] → Q .normal a w := by
    intro hnil
    have hall : ∀ i, i < ops.length → listed.getD i false = true := by
      intro i
      induction i using Nat.strongRecOn with
      | _ i ih =>
        intro hi
        cases hq : listed.getD i false with
        | true => rfl
        | false =>
          exfalso
          have : i ∈ Region.ready .any ops.toArray listed := (hready i).2 ⟨ops[i], List.getElem?_eq_getElem hi, hq, fun e he hb => ?_⟩
          · rw [hnil] at this; cases this
          · have hlt := drawOk_back hok (List.getElem?_eq_getElem hi) he hb
            exact ih e.on hlt (by omega)
    refine hQ a w ?_
    have e1 : frS = frs ops.length := by
      refine List.ext_getElem? fun x => ?_
      have hl := trace_len t ops.length (Nat.le_refl _)
      rcases Nat.lt_or_ge x fr.length with hx | hx
      · have h1 := hfr x hx
        have h2 := trace_fr t x hx ops.length (Nat.le_refl _) ops.length (Nat.le_refl _)
        have h3 : frS.getD x .junk = (frs ops.length).getD x .junk := by
          rw [h1, h2]
          refine lastOf_congr (fun i hi => ?_) _
          simp [fSel, hall i hi, hi]
        rw [List.getD_eq_getElem?_getD, List.getD_eq_getElem?_getD] at h3
        rw [List.getElem?_eq_getElem (by omega), List.getElem?_eq_getElem (by omega)] at h3 ⊢
        simpa using h3
      · rw [List.getElem?_eq_none (by omega), List.getElem?_eq_none (by omega)]
    have e2 : HS = Hs ops.length := by
      rw [hhs, trace_heap hp t hop ops.length (Nat.le_refl _) ops.length (Nat.le_refl _)]
      refine lastOf_congr (fun i hi => ?_) _
      simp [hSel, hall i hi, hi]
    rw [← e1, ← e2]
    exact hst
  cases fuel with
  | zero =>
    have hnil : Region.ready .any ops.toArray listed = [] := by
      rw [List.eq_nil_iff_forall_not_mem]
      intro i hi
      obtain ⟨o, ho, h1, _⟩ := (hready i).1 hi
      have hi' : i < ops.length := (List.getElem?_eq_some_iff.1 ho).1
      have : i ∈ (List.range ops.length).filter fun i => !listed.getD i false := List.mem_filter.2 ⟨List.mem_range.2 hi', by rw [h1]; rfl⟩
      have := List.length_pos_of_mem this
      omega
    exact ⟨hnil, hdone hnil⟩
  | succ fuel =>
    refine ⟨hdone, fun i hi => ?_⟩
    obtain ⟨o, ho, hnl, hedges⟩ := (hready i).1 hi
    have hilt : i < ops.length := (List.getElem?_eq_some_iff.1 ho).1
    have hstep := t.step i o ho
    have hA : ∀ k, Ahead ops i k → listed.getD k false = true := fun k hk => hcl.ahead hk fun o' e ho' he hb => by
      rw [ho] at ho'; cases ho'; exact hedges e he hb
    have hB : ∀ k, listed.getD k false = true → ¬ Ahead ops k i := fun k hk ha => by
      have := hcl.ahead ha fun o' e ho' he hb => hcl k o' e hk ho' he hb
      have : listed.getD i false = true := this
      rw [hnl] at this; cases this
    -- pairs that no order binds
    have hcls : classAt pureF ops i = opClass pureF o := by simp [classAt, ho]
    have hbef : ∀ k x, k < i → ops[k]? = some x → listed.getD k false = true ∨ (tmpsApart ops x o = true ∧ (classAt pureF ops k = 0 ∨ classAt pureF ops i = 0 ∨ chainAt pureF ops k = false ∨ chainAt pureF ops i = false)) := fun k x hk hx =>
      (drawOk_pair hok hk hx ho).imp (fun h => hA k (preds_ahead h)) id
    have haft : ∀ k x, i < k → ops[k]? = some x → listed.getD k false = true → ((predsOf ops).getD k 0).testBit i = false ∧ tmpsApart ops o x = true ∧ (classAt pureF ops i = 0 ∨ classAt pureF ops k = 0 ∨ chainAt pureF ops i = false ∨ chainAt pureF ops k = false) := fun k x hk hx hl => by
      rcases drawOk_pair hok hk ho hx with h | h
      · exact absurd (preds_ahead h) (hB k hl)
      · refine ⟨?_, h⟩
        cases hq : ((predsOf ops).getD k 0).testBit i with
        | false => rfl
        | true => exact absurd (preds_ahead hq) (hB k hl)
    have hch0 : ∀ k, chainAt pureF ops k = true → classAt pureF ops k ≠ 0 := fun k hk h0 => by
      unfold chainAt chainI at hk
      rw [h0] at hk
      cases hk
    have hne : ∀ k, listed.getD k false = true → k ≠ i := fun k hk e => by rw [e, hnl] at hk; cases hk
    -- the frame, where it is looked at
    have hlook : ∀ x ∈ looks ops o, frS.getD x .junk = (frs i).getD x .junk := by
      intro x hx
      have hl := trace_len t i (by omega)
      rcases Nat.lt_or_ge x fr.length with hlt | hge
      · rw [hfr x hlt, trace_fr t x hlt i (by omega) ops.length (by omega)]
        refine lastOf_congr (fun k hk => ?_) _
        unfold fSel
        have hox : ops[k]? = some ops[k] := List.getElem?_eq_getElem hk
        by_cases hd : dstOf ops k = some x
        · have hdk : ops[k].dst = some x := by simpa [dstOf, hox] using hd
          by_cases h1 : listed.getD k false = true
          · rw [if_pos ⟨h1, hd⟩, if_pos]
            refine ⟨?_, hd⟩
            rcases Nat.lt_trichotomy k i with h2 | h2 | h2
            · exact h2
            · exact absurd h2 (hne k h1)
            · exact absurd hx ((apart_looks (haft k _ h2 hox h1).2.1).2 x hdk)
          · rw [if_neg (fun h => h1 h.1), if_neg]
            rintro ⟨h2, _⟩
            rcases hbef k _ h2 hox with h3 | h3
            · exact h1 h3
            · exact ((apart_looks h3.1).1 x hdk).1 hx
        · rw [if_neg (fun h => hd h.2), if_neg (fun h => hd h.2)]
      · rw [List.getD_eq_getElem?_getD, List.getD_eq_getElem?_getD, List.getElem?_eq_none (by omega), List.getElem?_eq_none (by omega)]
    -- the operation's answer here
    have hval : evGuarded P call lim ops o frS HS = some (zs i, if chainAt pureF ops i = true then Hs (i + 1) else HS) := by
      rw [evGuarded_same hlook]
      by_cases hc0 : opClass pureF o = 0
      · have : ¬ chainAt pureF ops i = true := fun h => hch0 i h (by rw [hcls]; exact hc0)
        rw [if_neg this]
        exact evGuarded_plain hc0 hstep.1 HS
      · have hci0 : classAt pureF ops i ≠ 0 := by rw [hcls]; exact hc0
        by_cases hci : chainAt pureF ops i = true
        · -- what changed the heap before it is done
          have hpast : ∀ k, k < i → chainAt pureF ops k = true → listed.getD k false = true := fun k hk hc => by
            have hox : ops[k]? = some ops[k] := List.getElem?_eq_getElem (by omega)
            rcases hbef k _ hk hox with h3 | ⟨_, h3 | h3 | h3 | h3⟩
            · exact h3
            · exact absurd h3 (hch0 k hc)
            · exact absurd h3 hci0
            · rw [hc] at h3; cases h3
            · rw [hci] at h3; cases h3
          have hH : HS = Hs i := by
            rw [hhs, trace_heap hp t hop i (by omega) ops.length (by omega)]
            refine lastOf_congr (fun k hk => ?_) _
            unfold hSel
            have hox : ops[k]? = some ops[k] := List.getElem?_eq_getElem hk
            by_cases hd : chainAt pureF ops k = true
            · by_cases h1 : listed.getD k false = true
              · rw [if_pos ⟨h1, hd⟩, if_pos]
                refine ⟨?_, hd⟩
                rcases Nat.lt_trichotomy k i with h2 | h2 | h2
                · exact h2
                · exact absurd h2 (hne k h1)
                · rcases (haft k _ h2 hox h1).2.2 with h3 | h3 | h3 | h3
                  · exact absurd h3 hci0
                  · exact absurd h3 (hch0 k hd)
                  · rw [hci] at h3; cases h3
                  · rw [hd] at h3; cases h3
              · rw [if_neg (fun h => h1 h.1), if_neg]
                rintro ⟨h2, _⟩
                exact h1 (hpast k h2 hd)
            · rw [if_neg (fun h => hd h.2), if_neg (fun h => hd h.2)]
          rw [if_pos hci, hH]
          exact hstep.1
        · rw [if_neg hci]
          have hst0 : Hs (i + 1) = Hs i := trace_still hp t hop hilt (by simpa using hci)
          have hhere : evGuarded P call lim ops o (frs i) (Hs i) = some (zs i, Hs i) := by
            have := hstep.1
            rwa [hst0] at this
          have hgo : ∀ a, a ≤ i → (∀ m, a ≤ m → m < i → chainAt pureF ops m = true → ¬ listed.getD m false = true) → evGuarded P call lim ops o (frs i) (Hs a) = some (zs i, Hs a) := by
            intro a ha hm
            rcases first_chain hp t hop (i - a) a (by omega) with h2 | ⟨m, h2, h3, h4, h5⟩
            · rw [show a + (i - a) = i by omega] at h2
              rw [← h2]
              exact hhere
            · rw [← h5]
              refine hop.early i m o hilt ?_ ho
              have hcf : chainI pureF ops (predsOf ops) i = false := by simpa [chainAt] using hci
              unfold earlies
              rw [hcf, show (classAt pureF ops i == 0) = false by simpa using hci0]
              simp only [Bool.or_false, cond_false]
              refine List.mem_filter.2 ⟨List.mem_range.2 (by omega), ?_⟩
              rw [Bool.and_eq_true]
              refine ⟨?_, h4⟩
              cases hq : ((predsOf ops).getD i 0).testBit m with
              | false => rfl
              | true => exact absurd (hA m (preds_ahead hq)) (hm m h2 (by omega) h4)
          rcases lastOf_cases (f := hSel pureF ops Hs (fun i => listed.getD i false = true)) (n := ops.length) H with ⟨k, hk, hfk, hlast⟩ | ⟨hnone, hH⟩
          · rw [← hhs] at hfk
            have hsel : listed.getD k false = true ∧ chainAt pureF ops k = true := by
              unfold hSel at hfk
              split at hfk
              · assumption
              · cases hfk
            have hHk : HS = Hs (k + 1) := by
              unfold hSel at hfk
              rw [if_pos hsel] at hfk
              exact (Option.some.inj hfk).symm
            have hox : ops[k]? = some ops[k] := List.getElem?_eq_getElem hk
            rcases Nat.lt_trichotomy k i with h2 | h2 | h2
            · rw [hHk]
              refine hgo (k + 1) (by omega) fun m h3 h4 h5 => ?_
              intro h6
              have := hlast m (by omega) (by omega)
              unfold hSel at this
              rw [if_pos ⟨h6, h5⟩] at this
              cases this
            · exact absurd h2 (hne k hsel.1)
            · rw [hHk]
              refine hop.late k i o hk ?_ ho
              unfold lates
              have hck : chainI pureF ops (predsOf ops) k = true := hsel.2
              rw [hck]
              refine List.mem_filter.2 ⟨List.mem_range.2 h2, ?_⟩
              rw [(haft k _ h2 hox hsel.1).1]
              simpa using hci0
          · rw [hhs, hH, ← t.H0]
            refine hgo 0 (by omega) fun m h3 h4 h5 => ?_
            intro h6
            have := hnone m (by omega)
            unfold hSel at this
            rw [if_pos ⟨h6, h5⟩] at this
            cases this
    unfold wpOp
    rw [show ops.toArray[i]? = some o by simp [ho]]
    simp only
    have hset : ∀ k, (listed.setIfInBounds i true).getD k false = true ↔ listed.getD k false = true ∨ k = i := by
      intro k
      have hil : i < listed.size := by omega
      rw [Array.getD_eq_getD_getElem?, Array.getD_eq_getD_getElem?, Array.getElem?_setIfInBounds]
      by_cases hk : i = k
      · subst hk; simp [hil]
      · rw [if_neg hk]
        constructor
        · exact .inl
        · rintro (h | h)
          · exact h
          · exact absurd h.symm hk
    refine evGuarded_spec hcall hlim hval hst fun a' w' hst' => ?_
    refine wpAny_of_trace hcall hlim hp hok t hop hQ fuel (listed.setIfInBounds i true) _ _ a' w' (by simpa using hsz) ?_ ?_ ?_ ?_ ?_ hst'
    · intro j o' e hj ho' he hb
      have hj : (listed.setIfInBounds i true).getD j false = true := hj
      show (listed.setIfInBounds i true).getD e.on false = true
      rw [hset] at hj ⊢
      rcases hj with hj | rfl
      · exact .inl (hcl j o' e hj ho' he hb)
      · rw [ho] at ho'; cases ho'; exact .inl (hedges e he hb)
    · have := filter_lt (p := fun k => !listed.getD k false) (q := fun k => !(listed.setIfInBounds i true).getD k false) (fun x hx => by
        simp only [Bool.not_eq_true'] at hx ⊢
        cases hq : listed.getD x false with
        | false => rfl
        | true => rw [(hset x).2 (.inl hq)] at hx; cases hx) (List.mem_range.2 hilt) (by rw [hnl]; rfl) (by rw [(hset i).2 (.inr rfl)]; rfl)
      omega
    · unfold putA
      split
      · simpa using hflen
      · exact hflen
    · intro x hx
      by_cases hdx : o.dst = some x
      · rw [lastOf_at (j := i) (x := zs i)]
        · simp [putA, hdx, List.getD_eq_getElem?_getD, hflen, hx]
        · unfold fSel
          rw [if_pos ⟨(hset i).2 (.inr rfl), by simp [dstOf, ho, hdx]⟩]
        · exact hilt
        · intro k hk1 hk2
          unfold fSel
          rw [if_neg]
          rintro ⟨h1, h2⟩
          have hox : ops[k]? = some ops[k] := List.getElem?_eq_getElem hk2
          have h3 : listed.getD k false = true := ((hset k).1 h1).resolve_right (by omega)
          have hdk : ops[k].dst = some x := by simpa [dstOf, hox] using h2
          exact ((apart_looks (haft k _ hk1 hox h3).2.1).1 x hdx).2 hdk
      · rw [show (putA frS o.dst (zs i)).getD x .junk = frS.getD x .junk by
          unfold putA
          split
          · rename_i d hdd
            have : d ≠ x := fun e => hdx (by rw [hdd, e])
            simp [List.getD_eq_getElem?_getD, List.getElem?_set, this]
          · rfl]
        rw [hfr x hx]
        refine lastOf_congr (fun k _ => ?_) _
        unfold fSel
        by_cases hk : k = i
        · subst hk
          have : dstOf ops k ≠ some x := by simp [dstOf, ho]; exact hdx
          rw [if_neg (fun h => this h.2), if_neg (fun h => this h.2)]
        · by_cases h1 : listed.getD k false = true ∧ dstOf ops k = some x
          · rw [if_pos h1, if_pos ⟨(hset k).2 (.inl h1.1), h1.2⟩]
          · rw [if_neg h1, if_neg (fun h => h1 ⟨((hset k).1 h.1).resolve_right hk, h.2⟩)]
    · by_cases hch : chainAt pureF ops i = true
      · rw [if_pos hch]
        rw [lastOf_at (j := i) (x := Hs (i + 1))]
        · unfold hSel
          rw [if_pos ⟨(hset i).2 (.inr rfl), hch⟩]
        · exact hilt
        · intro k hk1 hk2
          unfold hSel
          rw [if_neg]
          rintro ⟨h1, h2⟩
          have hox : ops[k]? = some ops[k] := List.getElem?_eq_getElem hk2
          have h3 : listed.getD k false = true := ((hset k).1 h1).resolve_right (by omega)
          rcases (haft k _ hk1 hox h3).2.2 with h4 | h4 | h4 | h4
          · exact hch0 i hch h4
          · exact hch0 k h2 h4
          · rw [hch] at h4; cases h4
          · rw [h2] at h4; cases h4
      · rw [if_neg hch, hhs]
        refine lastOf_congr (fun k _ => ?_) _
        unfold hSel
        by_cases hk : k = i
        · subst hk
          rw [if_neg (fun h => hch h.2), if_neg (fun h => hch h.2)]
        · by_cases h1 : listed.getD k false = true ∧ chainAt pureF ops k = true
          · rw [if_pos h1, if_pos ⟨(hset k).2 (.inl h1.1), h1.2⟩]
          · rw [if_neg h1, if_neg (fun h => h1 ⟨((hset k).1 h.1).resolve_right hk, h.2⟩)]
end
end Go.Ev

/- Code and calls: what the evaluator says is what the machine does. -/
namespace Go.Ev
open Go Go.RowKit

def AX.exitOf : AX → Exit
  | .normal => .normal
  | .exit id => .exit id
  | .ret => .ret

theorem VRs.setA {I : IM} {G : GM} {x : List AV} {v : List Value} (h : VRs I G x v) (n : Nat) {a : AV} (ha : ∀ b, v[n]? = some b → VR I G a b) : VRs I G (x.set n a) v := by
  refine ⟨by simp [h.1], fun j a' b' e f => ?_⟩
  rw [List.getElem?_set] at e
  split at e
  · rename_i hn
    subst hn
    split at e
    · cases e; exact ha b' f
    · cases e
  · exact h.2 j a' b' e f
theorem placeIn_spec {I : IM} {G : GM} {fr : List AV} {v : List Value} (hf : VRs I G fr v) (vals : List AV) : ∀ (ks : List Nat) (j : Nat) (base : List AV), VRs I G base v → (∀ i k, ks[i]? = some k → vals.getD (j + i) .junk = fr.getD k .junk) → VRs I G (placeIn base ks j vals) v
  | [], j, base, hb, _ => hb
  | k :: ks, j, base, hb, h => by
    simp only [placeIn]
    refine placeIn_spec hf vals ks (j + 1) _ (hb.setA k fun b hb' => ?_) (fun i k' hi => by rw [show j + 1 + i = j + (i + 1) by omega]; exact h (i + 1) k' (by simpa using hi))
    have := h 0 k rfl
    rw [Nat.add_zero] at this
    rw [this]
    have hk : k < fr.length := by rw [hf.1]; exact (List.getElem?_eq_some_iff.1 hb').1
    rw [List.getD_eq_getElem?_getD, List.getElem?_eq_getElem hk]
    exact hf.2 k _ b (List.getElem?_eq_getElem hk) hb'
theorem place_spec {I : IM} {G : GM} {fr : List AV} {v : List Value} (hf : VRs I G fr v) (ks : List Nat) {nt : Nat} (hn : v.length = nt) : VRs I G (place nt ks (takes ks fr)) v := by
  refine placeIn_spec hf _ ks 0 _ ⟨by simp [hn], fun j x u hx _ => ?_⟩ (fun i k hi => ?_)
  · rw [List.getElem?_replicate] at hx
    split at hx
    · cases hx; exact .junk u
    · cases hx
  · rw [Nat.zero_add, List.getD_eq_getElem?_getD, takes, List.getElem?_map, hi]
    rfl

theorem dspE_spec {i : Nat} {K : Nat → List Nat → Option Res} {r : Res} : ∀ {qs : List (Nat × List Nat)} (_ : dspE i (qs.map fun q => (q.1, K q.1 q.2)) = some r), ∃ ks, exitKs i qs = ks ∧ K i ks = some r
  | [], e => by cases e
  | q :: qs, e => by
    simp only [List.map_cons, dspE, exitKs] at e ⊢
    cases h : i == q.1 with
    | true =>
      rw [h] at e
      obtain rfl : i = q.1 := by simpa using h
      exact ⟨q.2, rfl, e⟩
    | false =>
      rw [h] at e
      exact dspE_spec e
theorem rep_false {n i : Nat} (h : (Array.replicate n false).getD i false = true) : False := by
  simp only [Array.getD_eq_getD_getElem?, Array.getElem?_replicate] at h
  split at h <;> cases h

section
variable {P : Program} {call : ACall} {pureF : FuncId → Bool} {lim nt : Nat} {I0 : IM} {G0 : GM} {H0 : Heap} {base : Nat} {w0 : World}

theorem St.place {fr : List AV} {H : Heap} {a : Act} {w : World} (h : St I0 G0 H0 base lim nt w0 fr H a w) (ks : List Nat) : St I0 G0 H0 base lim nt w0 (Ev.place nt ks (takes ks fr)) H a w := by
  obtain ⟨⟨I, G, hI, hG, hr, hf⟩, hb, hd, hl, hdf, hsz⟩ := h
  exact ⟨⟨I, G, hI, hG, hr, place_spec hf ks (by simpa using hsz)⟩, hb, hd, hl, hdf, hsz⟩
theorem St.eval {fr : List AV} {H : Heap} {a : Act} {w : World} (h : St I0 G0 H0 base lim nt w0 fr H a w) {c : Operand} {t : Bool} (e : asB (aeval fr c) = some t) : a.eval c = .bool t := by
  obtain ⟨⟨I, G, hI, hG, hr, hf⟩, _⟩ := h
  exact asB_spec e (aeval_spec hf c)

theorem evCode_spec (hcall : CallOk P call lim) (hlim : 1 ≤ lim) (hp : ∀ f args H z H', pureF f = true → call f args H = some (z, H') → H' = H) (hm : P.follows .mixedOrders = true) :
    ∀ (c : AC) {k : AX → List AV → Heap → Option Res} {fr : List AV} {H : Heap} {r : Res} (_ : evCode P call pureF lim nt c k fr H = some r) {a : Act} {w : World} (_ : St I0 G0 H0 base lim nt w0 fr H a w)
      {Q : Exit → Act → World → Prop} (_ : ∀ e fr' H' a' w', k e fr' H' = some r → St I0 G0 H0 base lim nt w0 fr' H' a' w' → Q e.exitOf a' w'), c.erase.wp P Q a w := by
  intro c
  induction c with
  | skip => intro k fr H r e a w hs Q hQ; exact wp_skip (hQ .normal _ _ _ _ e hs)
  | exit id => intro k fr H r e a w hs Q hQ; exact wp_exit (hQ (.exit id) _ _ _ _ e hs)
  | ret => intro k fr H r e a w hs Q hQ; exact wp_ret (hQ .ret _ _ _ _ e hs)
  | orc F => intro k fr H r e; cases e
  | refuse s => intro k fr H r e; cases e
  | region id ops draw =>
    intro k fr H r e a w hs Q hQ
    simp only [evCode, bnd_eq] at e
    cases draw with
    | false =>
      simp only [cond_false] at e
      exact wp_region_lit (evOps_spec hcall hlim ops e hs fun fr' H' a' w' hk hs' => hQ .normal fr' H' a' w' hk hs')
    | true =>
      cases hok : drawOk pureF ops with
      | false => rw [hok] at e; cases e
      | true =>
        rw [hok] at e
        simp only [cond_true] at e
        obtain ⟨zs, Hs, frs, h1, h2, h3, h5, h4⟩ := traceD_aux ops ops e
        refine wp_region_any hm ?_
        simp only [Nat.zero_add] at h3 h4
        refine wpAny_of_trace hcall hlim hp hok ⟨h1, h2, h3⟩ (open_of_checks h5 hcall.drops hlim (fun j hj => evGuarded_drop hcall.drops hlim (h3 j _ (List.getElem?_eq_getElem hj)).1)) (fun a' w' hs' => hQ .normal _ _ a' w' h4 hs') _ _ fr H a _ (by simp) ?_ ?_ rfl ?_ ?_ hs.drew
        · intro j o e hj
          exact (rep_false hj).elim
        · simp only [List.size_toArray]
          exact Nat.le_trans (List.length_filter_le _ _) (by simp)
        · intro x hx
          rw [lastOf_none]
          intro i _
          unfold fSel
          rw [if_neg]
          rintro ⟨h, _⟩
          exact rep_false h
        · rw [lastOf_none]
          intro i _
          unfold hSel
          rw [if_neg]
          rintro ⟨h, _⟩
          exact rep_false h
  | seq x y ihx ihy =>
    intro k fr H r e a w hs Q hQ
    simp only [evCode, bnd_eq] at e
    refine wp_seq (ihx e hs fun ex fr' H' a' w' hk hs' => ?_)
    cases ex with
    | normal => exact ihy hk hs' hQ
    | exit id => exact hQ (.exit id) _ _ _ _ hk hs'
    | ret => exact hQ .ret _ _ _ _ hk hs'
  | cut p x y ihx ihy =>
    intro k fr H r e a w hs Q hQ
    simp only [evCode, bnd_eq, Option.bind_eq_some_iff] at e
    obtain ⟨r1, h1, e⟩ := e
    refine wp_seq (ihx h1 hs fun ex fr' H' a' w' hk hs' => ?_)
    cases hk
    cases ex with
    | normal => exact ihy e (hs'.place _) hQ
    | exit id =>
      obtain ⟨ks, hks, e⟩ := dspE_spec (K := fun i ks => k (.exit i) (place nt ks (takes (p.of (.exit id)) fr')) H') e
      refine hQ (.exit id) _ _ _ _ e ?_
      rw [show p.of (.exit id) = ks from hks]
      exact hs'.place _
    | ret =>
      simp only [dsp, Option.bind_eq_some_iff] at e
      obtain ⟨ks, hks, e⟩ := e
      refine hQ .ret _ _ _ _ e ?_
      rw [show p.of .ret = ks by simp [Proj.of, hks]]
      exact hs'.place _
  | cond c x y ihx ihy =>
    intro k fr H r e a w hs Q hQ
    simp only [evCode, bnd_eq, Option.bind_eq_some_iff] at e
    obtain ⟨t, ht, e⟩ := e
    refine wp_cond (t := t) (hs.eval ht) ?_
    cases t with
    | true => exact ihx e hs hQ
    | false => exact ihy e hs hQ
  | block id x ih =>
    intro k fr H r e a w hs Q hQ
    simp only [evCode, bnd_eq] at e
    refine wp_block (ih e hs fun ex fr' H' a' w' hk hs' => ?_)
    cases ex with
    | normal => exact hQ .normal _ _ _ _ hk hs'
    | ret => exact hQ .ret _ _ _ _ hk hs'
    | exit i =>
      simp only [AX.exitOf, Exit.inBlock]
      by_cases hi : i = id
      · subst hi
        rw [if_pos rfl]
        exact hQ .normal _ _ _ _ (by simpa using hk) hs'
      · rw [if_neg hi]
        have : (i == id) = false := by simpa using hi
        simp only [this, cond_false] at hk
        exact hQ (.exit i) _ _ _ _ hk hs'
  | loop p x ih =>
    intro k fr H r e a w hs Q hQ
    simp only [evCode, bnd_eq, Option.bind_eq_some_iff] at e
    obtain ⟨r1, h1, e⟩ := e
    refine wp_loop_rounds LB ?_
    have key : ∀ (n : Nat) (vals : List AV) (H1 : Heap) (a' : Act) (w' : World), iterN n (fun vals H1 => evCode P call pureF lim nt x (fun e fr1 H2 => some (e, takes (p.of e) fr1, H2)) (place nt p.normal vals) H1) vals H1 = some r1 →
        St I0 G0 H0 base lim nt w0 (place nt p.normal vals) H1 a' w' → Code.rounds P x.erase Q n a' w' := by
      intro n
      induction n with
      | zero => intro vals H1 a' w' hi; cases hi
      | succ n ihn =>
        intro vals H1 a' w' hi hs'
        simp only [iterN, Option.bind_eq_some_iff] at hi
        obtain ⟨r2, h2, hi⟩ := hi
        rw [rounds_succ]
        refine ih h2 hs' fun ex fr2 H2 a2 w2 hk hs2 => ?_
        cases hk
        cases ex with
        | normal => exact ihn _ _ _ _ hi (hs2.place _)
        | exit id =>
          cases hi
          obtain ⟨ks, hks, e⟩ := dspE_spec (K := fun i ks => k (.exit i) (place nt ks (takes (p.of (.exit id)) fr2)) H2) e
          refine hQ (.exit id) _ _ _ _ e ?_
          rw [show p.of (.exit id) = ks from hks]
          exact hs2.place _
        | ret =>
          cases hi
          simp only [dsp, Option.bind_eq_some_iff] at e
          obtain ⟨ks, hks, e⟩ := e
          refine hQ .ret _ _ _ _ e ?_
          rw [show p.of .ret = ks by simp [Proj.of, hks]]
          exact hs2.place _
    exact key LB _ H a w h1 (hs.place _)

/-! ### Calls -/
theorem aresult_spec {I : IM} {G : GM} {fr : List AV} {a : Act} {H : Heap} {w : World} (hr : HRel I G H base w) (hf : VRs I G fr a.tmps.toList) {x : ResultVar} {z : AV} (e : aresult P fr H x = some z) :
    ∃ v, ((match x with
    | .tmp t => pure (a.tmps.getD t undef)
    | .cell c t => do loadVar t (← asAddr (a.tmps.getD c undef))) : Sem Value).run P w = .ok v w ∧ VR I G z v := by
  cases x with
  | tmp t =>
    simp only [aresult, Option.some.injEq] at e
    subst e
    exact ⟨_, rfl, aeval_spec hf (.tmp t)⟩
  | cell c t =>
    simp only [aresult] at e
    have hc := aeval_spec hf (.tmp c)
    simp only [aeval, Act.eval] at hc
    obtain ⟨v, hv, hz⟩ := aload_spec e hr hc
    refine ⟨v, ?_, hz⟩
    have hptr : ∃ ad, a.tmps.getD c undef = .pointer (some ad) := by
      unfold aload at e
      simp only [Option.bind_eq_some_iff] at e
      obtain ⟨ag, _, e⟩ := e
      split at e
      · rename_i l i o heq; rw [heq] at hc; generalize a.tmps.getD c undef = u at hc; cases hc; exact ⟨_, rfl⟩
      · rename_i l o heq; rw [heq] at hc; generalize a.tmps.getD c undef = u at hc; cases hc; exact ⟨_, rfl⟩
      · cases e
    obtain ⟨ad, had⟩ := hptr
    rw [had] at hv
    show ((do loadVar t (← asAddr (a.tmps.getD c undef))) : Sem Value).run P w = _
    rw [had]
    simpa [Instr.loadAt, Instr.sureAddr, asAddr] using hv
theorem aresults_spec {I : IM} {G : GM} {fr : List AV} {a : Act} {H : Heap} {w : World} (hr : HRel I G H base w) (hf : VRs I G fr a.tmps.toList) : ∀ {rs : List ResultVar} {zs : List AV} (_ : aresults P fr H rs = some zs),
    ∃ vs, (rs.mapM fun x => ((match x with
    | .tmp t => pure (a.tmps.getD t undef)
    | .cell c t => do loadVar t (← asAddr (a.tmps.getD c undef))) : Sem Value)).run P w = .ok vs w ∧ VRs I G zs vs
  | [], zs, e => by simp [aresults] at e; subst e; exact ⟨[], rfl, VRs.nil _ _⟩
  | x :: rs, zs, e => by
    simp only [aresults, Option.bind_eq_some_iff, Option.map_eq_some_iff] at e
    obtain ⟨z, hz, zs', hzs, rfl⟩ := e
    obtain ⟨v, hv, hzv⟩ := aresult_spec (P := P) hr hf hz
    obtain ⟨vs, hvs, hzvs⟩ := aresults_spec hr hf hzs
    refine ⟨v :: vs, ?_, .cons hzv hzvs⟩
    rw [List.mapM_cons, Sem.run_bind, hv, Result.andThen_ok, Sem.run_bind, hvs, Result.andThen_ok, Sem.run_pure]
theorem results_spec {I : IM} {G : GM} {fr : List AV} {a : Act} {H : Heap} {w : World} (hr : HRel I G H base w) (hf : VRs I G fr a.tmps.toList) {fn : Func} {rs : List ResultVar} (hfn : fn.results = rs.toArray) {zs : List AV} (e : aresults P fr H rs = some zs) :
    ∃ v, (results fn a.tmps).run P w = .ok v w ∧ VR I G (one zs) v := by
  obtain ⟨vs, hvs, hz⟩ := aresults_spec (P := P) hr hf e
  have hm : (fn.results.mapM fun x => ((match x with
    | .tmp t => pure (a.tmps.getD t undef)
    | .cell c t => do loadVar t (← asAddr (a.tmps.getD c undef))) : Sem Value)).run P w = .ok vs.toArray w := by
    rw [hfn, Array.mapM_eq_mapM_toList, Sem.run_map, hvs]
    rfl
  refine ⟨if h : vs.toArray.size = 1 then vs.toArray[0] else .tuple vs.toArray, ?_, ?_⟩
  · have hres : results fn a.tmps = (do
        let vs ← fn.results.mapM fun x => ((match x with
          | .tmp t => pure (a.tmps.getD t undef)
          | .cell c t => do loadVar t (← asAddr (a.tmps.getD c undef))) : Sem Value)
        pure (if h : vs.size = 1 then vs[0] else .tuple vs)) := rfl
    rw [hres, Sem.run_bind, hm, Result.andThen_ok, Sem.run_pure]
  · match zs, vs, hz with
    | [], vs, hz => obtain rfl := hz.nil_inv; exact .tup (vs := []) rfl (fun j x v e => by simp at e)
    | [z], vs, hz =>
      obtain ⟨v, vs', rfl, hzv, hvs'⟩ := hz.cons_inv
      obtain rfl := hvs'.nil_inv
      simpa [one] using hzv
    | z :: z' :: zs, vs, hz =>
      obtain ⟨v, vs', rfl, hzv, hvs'⟩ := hz.cons_inv
      obtain ⟨v', vs'', rfl, hzv', hvs''⟩ := hvs'.cons_inv
      simp only [one, List.size_toArray, List.length_cons]
      rw [dif_neg (by omega)]
      exact .tup hz.1 hz.2

/-- The table of texts is the program's. -/
structure Fits (P : Program) (f : FuncId) (fi : FI) (fn : Func) : Prop where
  func : P.funcs[f]? = some fn
  body : fn.body = some fi.code.erase
  ntmps : fn.ntmps = fi.nt
  results : fn.results = fi.res.toArray
  name : (fn.name == "runtime.NumGoroutine") = false

/-- A function of which a contract is proved by hand: it answers from its arguments alone. -/
def OrcOk (P : Program) (f : FuncId) (F : List AV → Option AV) : Prop := ∀ args z, F args = some z → ∀ I G H base lim w vs, HRel I G H base w → VRs I G args vs →
    ((callFunc f vs.toArray).run P w = .ok (.enter f vs.toArray) w ∧ Calls P f vs.toArray w (CallPost I G H base lim w z H)) ∨
    ∃ r w', (callFunc f vs.toArray).run P w = .ok (.value r) w' ∧ CallPost I G H base lim w z H (.returned r) w'
inductive FitO (P : Program) (f : FuncId) (fi : FI) : Prop
  | code (fn : Func) (h : Fits P f fi fn) (hm : fi.mode ≠ 3)
  | orc (F : List AV → Option AV) (hm : fi.mode = 3) (hc : fi.code = .orc F) (h : OrcOk P f F)
theorem enters_of {P : Program} {f : FuncId} {fn : Func} (hf : P.funcs[f]? = some fn) (hb : fn.body.isNone = false) (hn : (fn.name == "runtime.NumGoroutine") = false) (vs : Array Value) (w : World) : (callFunc f vs).run P w = .ok (.enter f vs) w := by
  have hb : ¬ (fn.body = none) := by intro h; rw [h] at hb; cases hb
  have hn : ¬ (fn.name = "runtime.NumGoroutine") := by simpa using hn
  simp [callFunc, hf, hn, hb]
theorem Fits.enters {P : Program} {f : FuncId} {fi : FI} {fn : Func} (hfit : Fits P f fi fn) (vs : Array Value) (w : World) : (callFunc f vs).run P w = .ok (.enter f vs) w := by
  have hb : ¬ (fn.body = none) := by rw [hfit.body]; simp
  have hn : ¬ (fn.name = "runtime.NumGoroutine") := by simpa using hfit.name
  simp [callFunc, hfit.func, hn, hb]

theorem evBody_spec (hcall : CallOk P call lim) (hlim : 1 ≤ lim) (hp : ∀ f args H z H', pureF f = true → call f args H = some (z, H') → H' = H) (hm : P.follows .mixedOrders = true)
    {f : FuncId} {fi : FI} {fn : Func} (hfit : Fits P f fi fn) {args : List AV} {H : Heap} {r : Res} (e : evBody P call pureF lim fi args H = some r) {I : IM} {G : GM} {w : World} (hr : HRel I G H base w) {vs : List Value} (hv : VRs I G args vs) :
    Calls P f vs.toArray w (CallPost I G H base lim w (headA r.2.1) r.2.2) := by
  unfold evBody at e
  cases hble : Nat.ble args.length fi.nt with
  | false => rw [hble] at e; cases e
  | true =>
    rw [hble] at e
    simp only [cond_true] at e
    have hle : args.length ≤ fi.nt := Nat.le_of_ble_eq_true hble
    have hvl : args.length = vs.length := hv.1
    refine calls_of_wp hfit.func hfit.body ?_
    have hst : St I G H base lim fi.nt w (args ++ List.replicate (fi.nt - args.length) .undef) H { tmps := vs.toArray ++ Array.replicate (fn.ntmps - vs.toArray.size) undef, defers := [] } w := by
      refine ⟨⟨I, G, IM.le.refl _, GM.le.refl _, hr, ?_⟩, Below.refl _ _, rfl, rfl, rfl, ?_⟩
      · simp only [Array.toList_append, Array.toList_replicate, hfit.ntmps, List.size_toArray]
        refine hv.append ⟨by simp [hvl], fun j x v hx hv' => ?_⟩
        rw [List.getElem?_replicate] at hx hv'
        split at hx
        · split at hv'
          · cases hx; cases hv'; exact .undef
          · cases hv'
        · cases hx
      · simp [hfit.ntmps]
        omega
    refine evCode_spec hcall hlim hp hm fi.code e hst fun ex fr' H' a' w' hk hs' => ?_
    have fin : (aresults P fr' H' fi.res).map (fun vs => (AX.ret, [one vs], H')) = some r → a'.defers = [] ∧ ∃ v, (results fn a'.tmps).run P w' = .ok v w' ∧ CallPost I G H base lim w (headA r.2.1) r.2.2 (.returned v) w' := by
      intro hk
      simp only [Option.map_eq_some_iff] at hk
      obtain ⟨zs, hzs, rfl⟩ := hk
      obtain ⟨⟨I', G', hI, hG, hr', hf'⟩, hb, hd, hl, hdf, _⟩ := hs'
      obtain ⟨v, hv, hz⟩ := results_spec (P := P) hr' hf' hfit.results hzs
      exact ⟨hdf, v, hv, v, I', G', rfl, hI, hG, hr', hz, hb, hd, hl⟩
    cases ex with
    | normal => exact fin hk
    | ret => exact fin hk
    | exit id => cases hk

theorem evCall_pure {C : FuncId → Option FI} {d lim : Nat} {f : FuncId} {args : List AV} {H : Heap} {z : AV} {H' : Heap} (hf : pureOf C f = true) (e : evCall P C d lim f args H = some (z, H')) : H' = H := by
  cases d with
  | zero => cases e
  | succ d =>
    simp only [evCall, Option.bind_eq_some_iff] at e
    obtain ⟨fi, hfi, e⟩ := e
    have hm : fi.mode = 0 ∨ fi.mode = 3 := by simpa [pureOf, hfi] using hf
    rcases hm with hm | hm
    · rw [hm] at e
      simp only [Option.bind_eq_some_iff] at e
      obtain ⟨r, _, e⟩ := e
      split at e
      · simp only [Option.map_eq_some_iff] at e
        obtain ⟨v, _, e⟩ := e
        cases e
        rfl
      · cases e
    · rw [hm] at e
      simp only at e
      split at e
      · simp only [Option.map_eq_some_iff] at e
        obtain ⟨v, _, e⟩ := e
        cases e
        rfl
      · cases e

theorem evCall_spec {C : FuncId → Option FI} (hC : ∀ f fi, C f = some fi → FitO P f fi) (hm : P.follows .mixedOrders = true) : ∀ (d lim : Nat), 1 ≤ lim → CallOk P (evCall P C d lim) lim
  | 0, lim, hl => ⟨fun _ _ _ _ _ e => (by cases e), evCall_drop 0 lim hl⟩
  | d + 1, lim, hlim => by
    refine ⟨fun f args H z H' e I G base w vs hr hv => ?_, evCall_drop (d + 1) lim hlim⟩
    simp only [evCall, Option.bind_eq_some_iff] at e
    obtain ⟨fi, hfi, e⟩ := e
    rcases hC f fi hfi with ⟨fn, hfit, hm3⟩ | ⟨F, hm3, hcode, horc⟩
    rotate_left
    · rw [hm3, hcode] at e
      simp only [Option.map_eq_some_iff] at e
      obtain ⟨z', hz', e⟩ := e
      cases e
      exact horc args z hz' I G H base lim w vs hr hv
    refine .inl ⟨hfit.enters _ _, ?_⟩
    have hargs : VRs I (GM.enter G) (AV.upL 1 args) vs := VRs.upL 1 (by rw [GM.enter_at]; exact hv)
    split at e
    · -- nothing of the caller's changes
      simp only [Option.bind_eq_some_iff] at e
      obtain ⟨r, hb, e⟩ := e
      have := evBody_spec (evCall_spec hC hm d 1 (Nat.le_refl _)) (Nat.le_refl _) (fun f args H z H' hf he => evCall_pure hf he) hm hfit hb hr.enter hargs
      refine this.mono fun ex w' hpost => ?_
      obtain ⟨v, I', G', rfl, hI, hG, hr', hz, hbel, hdr, hlen⟩ := hpost
      split at e
      · rename_i A Ht hH
        simp only [Option.map_eq_some_iff] at e
        obtain ⟨z', hz', e⟩ := e
        cases e
        rw [hH] at hr' hdr
        simp only [List.drop_succ_cons, List.drop_zero] at hdr
        subst hdr
        exact ⟨v, _, _, rfl, hI.trans (IM.leave_le _ _ _ _), GM.enter_le hG, hr'.leave, AV.leave_spec hr' hz _ hz', hbel, rfl, rfl⟩
      · cases e
    · simp only [Option.bind_eq_some_iff] at e
      obtain ⟨r, hb, e⟩ := e
      have := evBody_spec (evCall_spec hC hm d (lim + 1) (by omega)) (by omega) (fun f args H z H' hf he => evCall_pure hf he) hm hfit hb hr.enter hargs
      refine this.mono fun ex w' hpost => ?_
      obtain ⟨v, I', G', rfl, hI, hG, hr', hz, hbel, hdr, hlen⟩ := hpost
      split at e
      · rename_i A Ht hH
        simp only [Option.map_eq_some_iff] at e
        obtain ⟨z', hz', e⟩ := e
        cases e
        rw [hH] at hr' hdr hlen
        simp only [List.drop_succ_cons] at hdr
        simp only [List.length_cons] at hlen
        exact ⟨v, _, _, rfl, hI.trans (IM.leave_le _ _ _ _), GM.enter_le hG, hr'.leave, AV.leave_spec hr' hz _ hz', hbel, hdr, by omega⟩
      · cases e
    · rename_i h3
      exact absurd h3 hm3
    · simp only [Option.map_eq_some_iff] at e
      obtain ⟨r, hb, e⟩ := e
      cases e
      exact evBody_spec (evCall_spec hC hm d lim hlim) hlim (fun f args H z H' hf he => evCall_pure hf he) hm hfit hb hr hv
end
end Go.Ev

/- The words of a function's plain text: each operation without the program's tables, and how the text goes on. -/
namespace Go.Ev
open Go Go.RowKit

/-! ### How a text goes on -/
noncomputable def pu (X : Option AV) (H : Heap) (f : AV × Heap → Option Res) : Option Res := bnd f (X.map fun v => (v, H))
noncomputable def bi (X : Option (AV × Heap)) (f : AV × Heap → Option Res) : Option Res := bnd f X
noncomputable def gd (y : Option (Option Bool)) (want : Bool) (X : Option (AV × Heap)) (H : Heap) (f : AV × Heap → Option Res) : Option Res := bnd f (y.bind fun y => bif y == some want then X else some (.undef, H))
noncomputable def cn (t : Option Bool) (x y : Option Res) : Option Res := bnd (fun t => bif t then x else y) t
noncomputable def jn (X : Option Res) (f : Res → Option Res) : Option Res := bnd f X
noncomputable def lp (f : List AV → Heap → Option Res) (init : List AV) (H : Heap) (g : Res → Option Res) : Option Res := bnd g (iterN LB f init H)
def ck (bs : List Bool) (X : Option Res) : Option Res := bif allD bs then X else none
def gq (y : Option (Option Bool)) (want : Bool) (X : Option (AV × Heap)) (H : Heap) : Option (AV × Heap) := y.bind fun y => bif y == some want then X else some (.undef, H)
def rt (v : AV) (H : Heap) : Option Res := some (.ret, [v], H)
def gv (r : Res) (j : Nat) : AV := r.2.1.getD j .junk

theorem pu_congr {X X' : Option AV} {H H' : Heap} {f : AV × Heap → Option Res} (h : X = X') (k : H = H') : pu X H f = pu X' H' f := by rw [h, k]
theorem bi_congr {X X' : Option (AV × Heap)} {f : AV × Heap → Option Res} (h : X = X') : bi X f = bi X' f := by rw [h]
theorem gd_congr {y y' : Option (Option Bool)} {want : Bool} {X : Option (AV × Heap)} {H : Heap} {f : AV × Heap → Option Res} (h : y = y') : gd y want X H f = gd y' want X H f := by rw [h]
theorem cn_congr {t t' : Option Bool} {x y : Option Res} (h : t = t') : cn t x y = cn t' x y := by rw [h]
theorem jn_congr {X X' : Option Res} {f : Res → Option Res} (h : X = X') : jn X f = jn X' f := by rw [h]
theorem lp_congr {f : List AV → Heap → Option Res} {i i' : List AV} {H H' : Heap} {g : Res → Option Res} (h : i = i') (k : H = H') : lp f i H g = lp f i' H' g := by rw [h, k]
attribute [congr] pu_congr bi_congr gd_congr cn_congr jn_congr lp_congr
theorem pu_some (v : AV) (H : Heap) (f : AV × Heap → Option Res) : pu (some v) H f = f (v, H) := (rfl)
theorem bi_some (v : AV × Heap) (f : AV × Heap → Option Res) : bi (some v) f = f v := (rfl)
theorem gd_yes (want : Bool) (X : Option (AV × Heap)) (H : Heap) (f : AV × Heap → Option Res) : gd (some (some want)) want X H f = bi X f := by
  cases want <;> rfl
theorem gd_no (want : Bool) (X : Option (AV × Heap)) (H : Heap) (f : AV × Heap → Option Res) : gd (some (some (!want))) want X H f = f (.undef, H) := by
  cases want <;> rfl
theorem gd_tf (X : Option (AV × Heap)) (H : Heap) (f : AV × Heap → Option Res) : gd (some (some true)) false X H f = f (.undef, H) := (rfl)
theorem gd_ft (X : Option (AV × Heap)) (H : Heap) (f : AV × Heap → Option Res) : gd (some (some false)) true X H f = f (.undef, H) := (rfl)
theorem gd_none (want : Bool) (X : Option (AV × Heap)) (H : Heap) (f : AV × Heap → Option Res) : gd (some none) want X H f = f (.undef, H) := by
  cases want <;> rfl
theorem ck_true {bs : List Bool} (h : allD bs = true) (X : Option Res) : ck bs X = X := by
  unfold ck
  rw [h]
  rfl
theorem cn_true (x y : Option Res) : cn (some true) x y = x := (rfl)
theorem cn_false (x y : Option Res) : cn (some false) x y = y := (rfl)
theorem jn_some (r : Res) (f : Res → Option Res) : jn (some r) f = f r := (rfl)

/-! ### Operations -/
def fa (off : Nat) (x : AV) : Option AV :=
  match x with
  | .ptr l i o => some (.ptr l i (o + off))
  | .dptr c o => some (.dptr c (o + off))
  | .bptr l i => some (.ptr l i off)
  | _ => none
def ldA (n : Nat) (H : Heap) (x : AV) : Option AV :=
  match x with
  | .ptr l i o => (getB H l i).bind fun c => (cut c o n).map fun cs => .agg (upN l cs)
  | .dptr c o => (cut c o n).map fun cs => .agg (cs.map .d)
  | _ => none
def ld (H : Heap) (x : AV) : Option AV :=
  match x with
  | .ptr l i o => (getB H l i).bind fun c => (c[o]?).bind fun v => (upN l [v])[0]?
  | .dptr c o => (c[o]?).map .d
  | _ => none
def stA (n lim : Nat) (H : Heap) (a v : AV) : Option (AV × Heap) :=
  (match a with
  | .ptr l i o => bif Nat.blt l lim then
      (acells v).bind fun cs => bif n == cs.length then
        (downN l cs).bind fun cs' => (getB H l i).bind fun c => bif Nat.ble (o + cs.length) c.length then some (setB H l i (some (setMany c o cs'))) else none
      else none
    else none
  | _ => none).map fun H' => (.undef, H')
def ixS (s : Nat) (x ix : AV) : Option AV :=
  match x with
  | .sl l b o n _ => (inB ix n).map fun i => .ptr l b (o + i * s)
  | .d (.seq _ n c) => (inB ix n).map fun i => .dptr c (i * s)
  | _ => none
def ixA (len s : Nat) (x ix : AV) : Option AV :=
  (inB ix len).bind fun i =>
    match x with
    | .ptr l b o => some (.ptr l b (o + i * s))
    | .dptr c o => some (.dptr c (o + i * s))
    | _ => none
def ixStr (x ix : AV) : Option AV :=
  match x with
  | .d (.str s) => (inB ix s.size).bind fun i => (s[i]?).map fun b => .d (.int .u8 b.toNat)
  | _ => none
def ixG (len s : Nat) (ag : Bool) (x ix : AV) : Option AV :=
  match x with
  | .agg cs => (inB ix len).bind fun i => bif ag then (cut cs (i * s) s).map .agg else cs[i * s]?
  | _ => none
def fldG (off n : Nat) (ag : Bool) (x : AV) : Option AV :=
  match x with
  | .agg cs => bif ag then (cut cs off n).map .agg else cs[off]?
  | _ => none
def lnS (x : AV) : Option AV :=
  match x with
  | .d (.seq _ n _) => some (.d (.int .i64 n))
  | .sl _ _ _ n _ => some (.d (.int .i64 n))
  | .bs _ _ n => some (.d (.int .i64 n))
  | _ => none
def lnStr (x : AV) : Option AV :=
  match x with
  | .d (.str s) => some (.d (.int .i64 s.size))
  | _ => none
def cvI (k : IntKind) (x : AV) : Option AV :=
  match x with
  | .d (.int _ n) => some (.d (.int k (k.wrap n)))
  | _ => none
def cvS (x : AV) : Option AV :=
  match x with
  | .d (.str s) => some (.d (.str s))
  | _ => none
/-- A builder's address, as a pointer to whatever. -/
def cvP (x : AV) : Option AV :=
  match x with
  | .bptr l i => some (.bptr l i)
  | _ => none
def usS (lim : Nat) (H : Heap) (x n : AV) : Option (AV × Heap) :=
  match x, n with
  | .bp l i, .d (.int .i64 n) => bif Nat.blt l lim && decide (0 < n) && decide (n ≤ 9223372036854775807) && true then
      (getB H l i).bind fun c => (cut c 0 n.toNat).bind fun cs => (bytesOf cs).map fun b => (.d (.str ⟨b.toArray⟩), setB H l i none)
    else none
  | .nilptr, .d (.int .i64 n) => bif decide (n = 0) then some (.d (.str .empty), H) else none
  | _, _ => none
def slStr (x : AV) (lo hi : Option AV) : Option AV :=
  match x with
  | .d (.str s) => (bounds s.size lo hi).map fun b => .d (.str (s.extract b.1 b.2))
  | _ => none
def slS (z : Nat) (x : AV) (lo hi : Option AV) : Option AV :=
  match x with
  | .sl l i o n s => bif z == s then (bounds n lo hi).map fun b => .sl l i (o + b.1 * z) (b.2 - b.1) s else none
  | .d (.seq nl n c) => (bounds n lo hi).map fun b => .d (.seq nl (b.2 - b.1) ((c.drop (b.1 * z)).take ((b.2 - b.1) * z)))
  | _ => none
def al (z : List AV) (H : Heap) : Option (AV × Heap) := (pushB H z).map fun r => (.ptr 0 r.1 0, r.2)
def alB (z : List AV) (H : Heap) : Option (AV × Heap) := (pushB H z).map fun r => (.bptr 0 r.1, r.2)
def bx (x : AV) (H : Heap) : Option (AV × Heap) := (acells x).bind fun z => (pushB H z).map fun r => (.ptr 0 r.1 0, r.2)
def bld (ps : List (Nat × Nat)) (z : List AV) (parts : List (Nat × AV)) : Option AV := (afill (fun i => ps[i]?) z parts).map .agg
def bldA (s : Nat) (z : List AV) (parts : List (Nat × AV)) : Option AV := (afill (fun i => some (i * s, s)) z parts).map .agg
def bldS (s len : Nat) (z : List AV) (parts : List (Nat × AV)) (H : Heap) : Option (AV × Heap) :=
  (afill (fun i => some (i * s, s)) (reps z len) parts).bind fun cs => (pushB H cs).map fun r => (.sl 0 r.1 0 len s, r.2)
def mkS (s bytes : Nat) (z : List AV) (H : Heap) (l c : AV) : Option (AV × Heap) :=
  (asI l).bind fun l => (asI c).bind fun c =>
    bif decide (0 ≤ l) && decide (l ≤ c) && decide (c ≤ 140737488355328) && decide (bytes * c ≤ 140737488355328) && Nat.blt 0 s then
      (pushB H (reps z c.toNat)).map fun r => (.sl 0 r.1 0 l.toNat s, r.2)
    else none
/-- The elements of a slice that is appended or copied. -/
def elS (s : Nat) (H : Heap) (x : AV) : Option (Nat × List AV) :=
  match x with
  | .d (.seq _ n c) => bif c.length == n * s then some (n, c.map .d) else none
  | .sl l i o n z => bif z == s then (getB H l i).bind fun c => (cut c o (n * s)).map fun cs => (n, upN l cs) else none
  | _ => none
def elStr (x : AV) : Option (Nat × List AV) :=
  match x with
  | .d (.str b) => some (b.size, byteCells b)
  | _ => none
def appW (bt : Bool) (size bytes lim : Nat) (H : Heap) (s : AV) (el : Option (Nat × List AV)) : Option (AV × Heap) :=
  el.bind fun r =>
    match s with
    | .d (.seq nl _ _) => bif r.1 == 0 then some (s, H) else
      bif nl && Nat.ble r.1 140737488355328 && Nat.ble (r.1 * bytes) 140737488355328 && r.2.all AV.leaf then (pushB H r.2).map fun q => (bif bt && Nat.beq size 1 then .bs 0 q.1 r.1 else .sl 0 q.1 0 r.1 size, q.2) else none
    | .bs l b n => bif r.1 == 0 then some (s, H) else
      bif Nat.blt l lim && Nat.beq size 1 && bt && Nat.ble (n + r.1) 140737488355328 && Nat.ble ((n + r.1) * bytes) 140737488355328 && r.2.all AV.leaf then
        (getB H l b).bind fun c => (cut c 0 (n * size)).bind fun old => (pushB (setB H l b none) (upN l old ++ r.2)).map fun q => (.bs 0 q.1 (n + r.1), q.2)
      else none
    | .sl l b 0 n z => bif r.1 == 0 then some (s, H) else
      bif Nat.blt l lim && z == size && Nat.ble (n + r.1) 140737488355328 && Nat.ble ((n + r.1) * bytes) 140737488355328 && r.2.all AV.leaf then
        (getB H l b).bind fun c => (cut c 0 (n * size)).bind fun old => (pushB (setB H l b none) (upN l old ++ r.2)).map fun q => (.sl 0 q.1 0 (n + r.1) size, q.2)
      else none
    | _ => none
def app (size bytes lim : Nat) (H : Heap) (s : AV) (el : Option (Nat × List AV)) : Option (AV × Heap) := appW false size bytes lim H s el
def cpy (size lim : Nat) (H : Heap) (dst : AV) (el : Option (Nat × List AV)) : Option (AV × Heap) :=
  match dst with
  | .sl l b o m z => bif z == size && Nat.blt 0 size && Nat.blt l lim then
      el.bind fun r => (downN l (r.2.take (min r.1 m * size))).bind fun cs => bif cs.all AV.leaf then
        (getB H l b).bind fun c => bif Nat.ble (o + cs.length) c.length then some (.d (.int .i64 (min r.1 m : Nat)), setB H l b (some (setMany c o cs))) else none
      else none
    else none
  | _ => none
def cal (call : ACall) (f : AV) (args : List AV) (H : Heap) : Option (AV × Heap) :=
  match f with
  | .fn g caps => call g (args ++ caps) H
  | _ => none
def pk (c a b : AV) (H : Heap) : Option (AV × Heap) := (asB c).map fun t => (bif t then a else b, H)
def pm (X : Option AV) (H : Heap) : Option (AV × Heap) := X.map fun v => (v, H)
def rsL : List (Option AV) → Option (List AV)
  | [] => some []
  | x :: xs => x.bind fun v => (rsL xs).map fun vs => v :: vs
def rs (xs : List (Option AV)) (H : Heap) : Option Res := (rsL xs).map fun vs => (.ret, [one vs], H)
/-- A block's text: what is behind it, and what a call hands back. -/
theorem evCall_pureEq {P : Program} {C : FuncId → Option FI} {d lim : Nat} {f : FuncId} {args : List AV} {H : Heap} {fi : FI} (hf : C f = some fi) (hm : fi.mode = 0) {X : Option Res}
    (hb : evBody P (evCall P C d 1) (pureOf C) 1 fi (AV.upL 1 args) ([] :: H) = X) :
    evCall P C (d + 1) lim f args H = X.bind fun r => match r.2.2 with | A :: _ => (AV.leave A (headA r.2.1)).map fun v => (v, H) | [] => none := by
  subst hb
  simp only [evCall, hf, Option.bind_some, hm]
  try rfl
theorem evCall_arenaEq {P : Program} {C : FuncId → Option FI} {d lim : Nat} {f : FuncId} {args : List AV} {H : Heap} {fi : FI} (hf : C f = some fi) (hm : fi.mode = 1) {X : Option Res}
    (hb : evBody P (evCall P C d (lim + 1)) (pureOf C) (lim + 1) fi (AV.upL 1 args) ([] :: H) = X) :
    evCall P C (d + 1) lim f args H = X.bind fun r => match r.2.2 with | A :: H' => (AV.leave A (headA r.2.1)).map fun v => (v, H') | [] => none := by
  subst hb
  simp only [evCall, hf, Option.bind_some, hm]
  try rfl
theorem evCall_inEq {P : Program} {C : FuncId → Option FI} {d lim : Nat} {f : FuncId} {args : List AV} {H : Heap} {fi : FI} (hf : C f = some fi) (hm : fi.mode = 2) {X : Option Res}
    (hb : evBody P (evCall P C d lim) (pureOf C) lim fi args H = X) :
    evCall P C (d + 1) lim f args H = X.map fun r => (headA r.2.1, r.2.2) := by
  subst hb
  simp only [evCall, hf, Option.bind_some, hm]
  try rfl
end Go.Ev
