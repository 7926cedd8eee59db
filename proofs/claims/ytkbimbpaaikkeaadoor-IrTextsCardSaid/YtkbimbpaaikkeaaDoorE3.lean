import Derived.Test.YtkbimbpaaikkeaaDoorE2
import Derived.Laws.Strings
import Derived.Carry
import Derived.OpenShut
set_option linter.unusedSimpArgs false
set_option linter.unusedVariables false
/- Words of texts, each with its laws, for the simplifier. -/
namespace Go.Ev
open Go Go.RowKit

mutual
theorem up_zero : ∀ v : AV, AV.up 0 v = v
  | .ptr l i o => rfl
  | .sl l i o n s => rfl
  | .fn f caps => by simp only [AV.up, upL_zero caps]
  | .agg cs => by simp only [AV.up, upL_zero cs]
  | .tup vs => by simp only [AV.up, upL_zero vs]
  | .d x => rfl
  | .nilptr => rfl
  | .dptr c o => rfl
  | .nilfn => rfl
  | .junk => rfl
  | .undef => rfl
  | .bptr l i => rfl
  | .bs l i n => rfl
  | .bp l i => rfl
theorem upL_zero : ∀ vs : List AV, AV.upL 0 vs = vs
  | [] => rfl
  | v :: vs => by simp only [AV.upL, up_zero v, upL_zero vs]
end
theorem upN_eq (l : Nat) (cs : List AV) : upN l cs = cs.map (AV.up l) := by
  cases l with
  | zero => simp [upN, show (AV.up 0) = id from funext up_zero]
  | succ l =>
    simp only [upN]
    induction cs with
    | nil => rfl
    | cons v vs ih => simp [AV.upL, ih]
theorem upL_eq (l : Nat) (cs : List AV) : AV.upL l cs = cs.map (AV.up l) := by
  induction cs with
  | nil => rfl
  | cons v vs ih => simp [AV.upL, ih]

theorem ld_ptr (H : Heap) (l i o : Nat) : ld H (.ptr l i o) = (getB H l i).bind fun c => (c[o]?).map (AV.up l) := by
  unfold ld
  simp only
  congr 1
  funext c
  cases c[o]? with
  | none => rfl
  | some v => simp [upN_eq]
theorem ld_dptr (H : Heap) (c : List D) (o : Nat) : ld H (.dptr c o) = (c[o]?).map .d := (rfl)
theorem ldA_ptr (n : Nat) (H : Heap) (l i o : Nat) : ldA n H (.ptr l i o) = (getB H l i).bind fun c => (cut c o n).map fun cs => .agg (cs.map (AV.up l)) := by
  simp only [ldA, upN_eq]
theorem ldA_dptr (n : Nat) (H : Heap) (c : List D) (o : Nat) : ldA n H (.dptr c o) = (cut c o n).map fun cs => .agg (cs.map .d) := (rfl)
theorem fa_ptr (f l i o : Nat) : fa f (.ptr l i o) = some (.ptr l i (o + f)) := (rfl)
theorem fa_dptr (f o : Nat) (c : List D) : fa f (.dptr c o) = some (.dptr c (o + f)) := (rfl)
theorem fa_bptr (f l i : Nat) : fa f (.bptr l i) = some (.ptr l i f) := (rfl)
theorem anil_bptr (l i : Nat) : anil (.bptr l i) = some (.bptr l i) := (rfl)
theorem lnS_bs (l i n : Nat) : lnS (.bs l i n) = some (.d (.int .i64 n)) := (rfl)
theorem cvP_bptr (l i : Nat) : cvP (.bptr l i) = some (.bptr l i) := (rfl)
theorem anil_ptr (l i o : Nat) : anil (.ptr l i o) = some (.ptr l i o) := (rfl)
theorem anil_dptr (c : List D) (o : Nat) : anil (.dptr c o) = some (.dptr c o) := (rfl)
theorem inB_int (k : IntKind) (x : Int) (n : Nat) : inB (.d (.int k x)) n = bif decide (0 ≤ x) && decide (x < n) then some x.toNat else none := (rfl)
theorem inB_yes {k : IntKind} {x : Int} {n : Nat} (h0 : 0 ≤ x) (h1 : x < n) : inB (.d (.int k x)) n = some x.toNat := by rw [inB_int]; simp [h0, h1]
theorem inB_nat {k : IntKind} {x n : Nat} (h1 : x < n) : inB (.d (.int k (x : Int))) n = some x := by rw [inB_yes (by omega) (by omega)]; simp
theorem ixS_sl (s l b o n z : Nat) (ix : AV) : ixS s (.sl l b o n z) ix = (inB ix n).map fun i => .ptr l b (o + i * s) := (rfl)
theorem ixS_d (s : Nat) (nl : Bool) (n : Nat) (c : List D) (ix : AV) : ixS s (.d (.seq nl n c)) ix = (inB ix n).map fun i => .dptr c (i * s) := (rfl)
theorem lnS_sl (l i o n s : Nat) : lnS (.sl l i o n s) = some (.d (.int .i64 n)) := (rfl)
theorem lnS_d (nl : Bool) (n : Nat) (c : List D) : lnS (.d (.seq nl n c)) = some (.d (.int .i64 n)) := (rfl)
theorem lnStr_d (s : ByteArray) : lnStr (.d (.str s)) = some (.d (.int .i64 s.size)) := (rfl)
theorem yv_b (b : Bool) : yv (.d (.bool b)) = some (some b) := (rfl)
theorem yv_u : yv .undef = some none := (rfl)
theorem asB_b (b : Bool) : asB (.d (.bool b)) = some b := (rfl)
theorem gd_b (b want : Bool) (X : Option (AV × Heap)) (H : Heap) (f : AV × Heap → Option Res) : gd (some (some b)) want X H f = if b = want then bi X f else f (.undef, H) := by
  cases b <;> cases want <;> rfl
theorem pm_some (v : AV) (H : Heap) : pm (some v) H = some (v, H) := (rfl)
theorem pk_b (b : Bool) (x y : AV) (H : Heap) : pk (.d (.bool b)) x y H = some (if b then x else y, H) := by cases b <;> rfl
theorem cn_b (b : Bool) (x y : Option Res) : cn (some b) x y = if b then x else y := by cases b <;> rfl
theorem abin_int (P : Program) (op : BinOp) (t : TypeId) (k : IntKind) (a b : Int) (h : op ≠ .shl ∧ op ≠ .shr) : abin P op t (.d (.int k a)) (.d (.int k b)) = (intOp op k a b).map .d := by
  unfold abin
  cases op <;> simp_all
theorem abin_lss (P : Program) (t : TypeId) (k : IntKind) (a b : Int) : abin P .lss t (.d (.int k a)) (.d (.int k b)) = some (.d (.bool (decide (a < b)))) := by rw [abin_int _ _ _ _ _ _ (by decide)]; rfl
theorem abin_leq (P : Program) (t : TypeId) (k : IntKind) (a b : Int) : abin P .leq t (.d (.int k a)) (.d (.int k b)) = some (.d (.bool (decide (a ≤ b)))) := by rw [abin_int _ _ _ _ _ _ (by decide)]; rfl
theorem abin_gtr (P : Program) (t : TypeId) (k : IntKind) (a b : Int) : abin P .gtr t (.d (.int k a)) (.d (.int k b)) = some (.d (.bool (decide (b < a)))) := by rw [abin_int _ _ _ _ _ _ (by decide)]; rfl
theorem abin_geq (P : Program) (t : TypeId) (k : IntKind) (a b : Int) : abin P .geq t (.d (.int k a)) (.d (.int k b)) = some (.d (.bool (decide (b ≤ a)))) := by rw [abin_int _ _ _ _ _ _ (by decide)]; rfl
theorem abin_eql (P : Program) (t : TypeId) (k : IntKind) (a b : Int) : abin P .eql t (.d (.int k a)) (.d (.int k b)) = some (.d (.bool (decide (a = b)))) := by rw [abin_int _ _ _ _ _ _ (by decide)]; rfl
theorem abin_neq (P : Program) (t : TypeId) (k : IntKind) (a b : Int) : abin P .neq t (.d (.int k a)) (.d (.int k b)) = some (.d (.bool (!decide (a = b)))) := by rw [abin_int _ _ _ _ _ _ (by decide)]; rfl
theorem abin_add (P : Program) (t : TypeId) (k : IntKind) (a b : Int) : abin P .add t (.d (.int k a)) (.d (.int k b)) = some (.d (.int k (k.wrap (a + b)))) := by rw [abin_int _ _ _ _ _ _ (by decide)]; rfl
theorem abin_sub (P : Program) (t : TypeId) (k : IntKind) (a b : Int) : abin P .sub t (.d (.int k a)) (.d (.int k b)) = some (.d (.int k (k.wrap (a - b)))) := by rw [abin_int _ _ _ _ _ _ (by decide)]; rfl
theorem abin_mul (P : Program) (t : TypeId) (k : IntKind) (a b : Int) : abin P .mul t (.d (.int k a)) (.d (.int k b)) = some (.d (.int k (k.wrap (a * b)))) := by rw [abin_int _ _ _ _ _ _ (by decide)]; rfl
theorem abin_quo (P : Program) (t : TypeId) (k : IntKind) (a b : Int) (h : b ≠ 0) : abin P .quo t (.d (.int k a)) (.d (.int k b)) = some (.d (.int k (k.wrap (a.tdiv b)))) := by rw [abin_int _ _ _ _ _ _ (by decide)]; simp only [intOp, show (b == 0) = false from by simpa using h]; rfl
theorem abin_rem (P : Program) (t : TypeId) (k : IntKind) (a b : Int) (h : b ≠ 0) : abin P .rem t (.d (.int k a)) (.d (.int k b)) = some (.d (.int k (a.tmod b))) := by rw [abin_int _ _ _ _ _ _ (by decide)]; simp only [intOp, show (b == 0) = false from by simpa using h]; rfl
theorem toList_beq (a b : ByteArray) : (a.toList == b.toList) = decide (a = b) := by
  rw [Bool.eq_iff_iff]
  simp only [beq_iff_eq, decide_eq_true_eq]
  constructor
  · intro h
    rw [ByteArray.toList_eq, ByteArray.toList_eq] at h
    exact ByteArray.ext (Array.toList_inj.1 h)
  · rintro rfl; rfl
theorem aun_not (b : Bool) : aun .not (.d (.bool b)) = some (.d (.bool !b)) := (rfl)
theorem aext (vs : List AV) (i : Nat) : aextract (.tup vs) i = vs[i]? := by
  unfold aextract
  simp
theorem headA_cons (v : AV) (vs : List AV) : headA (v :: vs) = v := (rfl)
/-- One round more. -/
theorem iterN_succ (n : Nat) (f : List AV → Heap → Option Res) (vals : List AV) (H : Heap) : iterN (n + 1) f vals H = (f vals H).bind fun r => match r.1 with | .normal => iterN n f r.2.1 r.2.2 | _ => some r := (rfl)
theorem iterN_go {n : Nat} {f : List AV → Heap → Option Res} {vals vals' : List AV} {H H' : Heap} (h : f vals H = some (.normal, vals', H')) : iterN (n + 1) f vals H = iterN n f vals' H' := by rw [iterN_succ, h]; rfl
theorem iterN_exit {n i : Nat} {f : List AV → Heap → Option Res} {vals vals' : List AV} {H H' : Heap} (h : f vals H = some (.exit i, vals', H')) : iterN (n + 1) f vals H = some (.exit i, vals', H') := by rw [iterN_succ, h]; rfl
theorem iterN_ret {n : Nat} {f : List AV → Heap → Option Res} {vals vals' : List AV} {H H' : Heap} (h : f vals H = some (.ret, vals', H')) : iterN (n + 1) f vals H = some (.ret, vals', H') := by rw [iterN_succ, h]; rfl
theorem iterN_normal {n : Nat} {f : List AV → Heap → Option Res} {vals : List AV} {H : Heap} {r : Res} : iterN n f vals H = some r → r.1 ≠ .normal := by
  induction n generalizing vals H with
  | zero => intro h; cases h
  | succ n ih =>
    intro h
    rw [iterN_succ] at h
    simp only [Option.bind_eq_some_iff] at h
    obtain ⟨q, hq, h⟩ := h
    split at h
    · exact ih h
    · rename_i hne
      cases h
      exact hne
theorem pk_t (x y : AV) (H : Heap) : pk (.d (.bool true)) x y H = some (x, H) := (rfl)
theorem pk_f (x y : AV) (H : Heap) : pk (.d (.bool false)) x y H = some (y, H) := (rfl)
theorem gd_tt (X : Option (AV × Heap)) (H : Heap) (f : AV × Heap → Option Res) : gd (some (some true)) true X H f = bi X f := (rfl)
theorem gd_ff (X : Option (AV × Heap)) (H : Heap) (f : AV × Heap → Option Res) : gd (some (some false)) false X H f = bi X f := (rfl)
theorem leave_d (A : Arena) (x : D) : AV.leave A (.d x) = some (.d x) := by rw [AV.leave]
theorem leave_nilptr (A : Arena) : AV.leave A .nilptr = some .nilptr := by rw [AV.leave]
theorem leave_sl (A : Arena) (l i o n s : Nat) : AV.leave A (.sl (l + 1) i o n s) = some (.sl l i o n s) := by rw [AV.leave]
theorem leave_ptr (A : Arena) (l i o : Nat) : AV.leave A (.ptr (l + 1) i o) = some (.ptr l i o) := by rw [AV.leave]
theorem leave_agg (A : Arena) (cs : List AV) : AV.leave A (.agg cs) = (AV.leaveL A cs).map .agg := by rw [AV.leave]
theorem leave_tup (A : Arena) (cs : List AV) : AV.leave A (.tup cs) = (AV.leaveL A cs).map .tup := by rw [AV.leave]
attribute [simp] fa_bptr anil_bptr lnS_bs cvP_bptr rt pu_some bi_some jn_some cn_true cn_false gd_tt gd_ff gd_tf gd_ft gd_none pm_some pk_t pk_f yv_b yv_u asB_b fa_ptr fa_dptr anil_ptr anil_dptr ixS_sl ixS_d lnS_sl lnS_d lnStr_d abin_lss abin_leq abin_gtr abin_geq abin_eql abin_neq abin_add abin_sub abin_mul aun_not aext headA_cons up_zero ld_dptr ld_ptr ldA_ptr ldA_dptr AV.up upL_eq upN_eq leave_d leave_nilptr leave_sl leave_ptr leave_agg leave_tup AV.leaveL stays_self toList_beq
end Go.Ev

/- Words of texts over the arena at hand: new blocks, stores, slices that grow. -/
namespace Go.Ev
open Go Go.RowKit

theorem leaf_up (k : Nat) (v : AV) : (AV.up k v).leaf = v.leaf := by cases v <;> simp [AV.up, AV.leaf]
theorem map_up_zero (cs : List AV) : cs.map (AV.up 0) = cs := by simp [show (AV.up 0) = id from funext up_zero]
theorem omap_up_zero (x : Option AV) : x.map (AV.up 0) = x := by simp [show (AV.up 0) = id from funext up_zero]
theorem getB_zero (A : Arena) (H : Heap) (i : Nat) : getB (A :: H) 0 i = (A[i]?).join := rfl
theorem getB_succ (A : Arena) (H : Heap) (l i : Nat) : getB (A :: H) (l + 1) i = getB H l i := (rfl)
theorem setB_zero (A : Arena) (H : Heap) (i : Nat) (b : Option (List AV)) : setB (A :: H) 0 i b = A.set i b :: H := (rfl)
theorem leaf_d (x : D) : (AV.d x).leaf = true := (rfl)
theorem leaf_sl (l i o n s : Nat) : (AV.sl l i o n s).leaf = true := (rfl)
theorem leaf_ptr (l i o : Nat) : (AV.ptr l i o).leaf = true := (rfl)
theorem all_leaf_d (c : List D) : (c.map AV.d).all AV.leaf = true := by simp [leaf_d]
theorem all_leaf_up (k : Nat) (c : List AV) : (c.map (AV.up k)).all AV.leaf = c.all AV.leaf := by simp [List.all_map, Function.comp_def, leaf_up]
theorem acells_agg {cs : List AV} (h : cs.all AV.leaf = true) : acells (.agg cs) = some cs := by simp only [acells, if_pos h]
theorem acells_leaf {v : AV} (h : v.leaf = true) : acells v = some [v] := by
  unfold acells
  split
  · cases h
  · rw [if_pos h]
theorem acells_d (x : D) : acells (.d x) = some [.d x] := (rfl)
theorem bx_agg {cs : List AV} {A : Arena} {H : Heap} (h : cs.all AV.leaf = true) : bx (.agg cs) (A :: H) = some (.ptr 0 A.length 0, (A ++ [some cs]) :: H) := by
  simp only [bx, acells, if_pos h, pushB]
  rfl
theorem bx_leaf {v : AV} {A : Arena} {H : Heap} (h : v.leaf = true) : bx v (A :: H) = some (.ptr 0 A.length 0, (A ++ [some [v]]) :: H) := by
  simp only [bx, acells_leaf h, pushB]
  rfl
theorem al_eq (z : List AV) (A : Arena) (H : Heap) : al z (A :: H) = some (.ptr 0 A.length 0, (A ++ [some z]) :: H) := (rfl)
theorem cut_eq {α : Type} {c : List α} {o n : Nat} (h : o + n ≤ c.length) : cut c o n = some ((c.drop o).take n) := by simp only [cut, if_pos h]
theorem cut_all {α : Type} {c : List α} {n : Nat} (h : n = c.length) : cut c 0 n = some c := by rw [cut_eq (by omega)]; simp [h]
theorem upN_zero (cs : List AV) : upN 0 cs = cs := (rfl)
theorem downN_zero (cs : List AV) : downN 0 cs = some cs := (rfl)
theorem setMany_all : ∀ (vs c : List AV), c.length = vs.length → setMany c 0 vs = vs := by
  intro vs c h
  rw [setMany_eq _ _ _ (by omega)]
  simp [h]
theorem blt_of {a b : Nat} (h : a < b) : Nat.blt a b = true := by simpa using h
theorem ble_of {a b : Nat} (h : a ≤ b) : Nat.ble a b = true := Nat.ble_eq_true_of_le h
theorem ble_dec (a b : Nat) : Nat.ble a b = decide (a ≤ b) := by
  by_cases h : a ≤ b
  · rw [ble_of h]; simp [h]
  · simp only [h, decide_false]; exact Bool.eq_false_iff.2 fun e => h (Nat.le_of_ble_eq_true e)
theorem blt_dec (a b : Nat) : Nat.blt a b = decide (a < b) := ble_dec (a + 1) b
attribute [simp] ble_dec blt_dec
/-- A value stored into a block of the arena at hand. -/
theorem stA_agg {n lim : Nat} {A : Arena} {H : Heap} {i o : Nat} {cs c : List AV} (hl : 0 < lim) (hc : cs.all AV.leaf = true) (hn : cs.length = n) (hA : (A[i]?).join = some c) (ho : o + n ≤ c.length) :
    stA n lim (A :: H) (.ptr 0 i o) (.agg cs) = some (.undef, A.set i (some (setMany c o cs)) :: H) := by
  subst hn
  simp only [stA, acells_agg hc, Option.bind_some, downN_zero, getB_zero, hA, setB_zero]
  simp [hl, ho]
theorem stA_leaf {lim : Nat} {A : Arena} {H : Heap} {i o : Nat} {v : AV} {c : List AV} (hl : 0 < lim) (hc : v.leaf = true) (hA : (A[i]?).join = some c) (ho : o < c.length) :
    stA 1 lim (A :: H) (.ptr 0 i o) v = some (.undef, A.set i (some (c.set o v)) :: H) := by
  simp only [stA, acells_leaf hc, Option.bind_some, downN_zero, getB_zero, hA, setB_zero]
  simp [hl, Nat.succ_le_of_lt ho, setMany]
theorem stA_at {n lim : Nat} {A : Arena} {H : Heap} {i : Nat} {cs : List AV} (c : List AV) (hl : 0 < lim) (hc : cs.all AV.leaf = true) (hn : cs.length = n) (hz : c.length = n) (hA : (A[i]?).join = some c) :
    stA n lim (A :: H) (.ptr 0 i 0) (.agg cs) = some (.undef, A.set i (some cs) :: H) := by
  rw [stA_agg (c := c) hl hc hn hA (by omega), setMany_all _ _ (by omega)]
theorem stA_new {n lim : Nat} {A : Arena} {H : Heap} {cs c : List AV} (hl : 0 < lim) (hc : cs.all AV.leaf = true) (hn : cs.length = n) (hz : c.length = n) :
    stA n lim ((A ++ [some c]) :: H) (.ptr 0 A.length 0) (.agg cs) = some (.undef, (A ++ [some cs]) :: H) := by
  rw [stA_agg (c := c) hl hc hn (by simp) (by omega), setMany_all _ _ (by omega)]
  simp
theorem stA_newv {lim : Nat} {A : Arena} {H : Heap} {u v : AV} (hl : 0 < lim) (hc : v.leaf = true) :
    stA 1 lim ((A ++ [some [u]]) :: H) (.ptr 0 A.length 0) v = some (.undef, (A ++ [some [v]]) :: H) := by
  rw [stA_leaf (c := [u]) hl hc (by simp) (by simp)]
  simp
/-- A literal of one element, as `append` has it. -/
theorem bldS_one {s : Nat} {z cs : List AV} {A : Arena} {H : Heap} (hz : z.length = s) (hn : cs.length = s) (hc : cs.all AV.leaf = true) :
    bldS s 1 z [(0, .agg cs)] (A :: H) = some (.sl 0 A.length 0 1 s, (A ++ [some cs]) :: H) := by
  simp only [bldS, afill, Option.bind_some, acells_agg hc, Nat.zero_mul, reps]
  simp only [List.append_nil, hn, hz, beq_self_eq_true, Nat.zero_add, ble_of (Nat.le_refl s), Bool.true_and, cond_true, Option.bind_some, pushB]
  rw [setMany_all _ _ (by omega)]
  rfl
theorem bldS_onev {z v : AV} {A : Arena} {H : Heap} (hc : v.leaf = true) :
    bldS 1 1 [z] [(0, v)] (A :: H) = some (.sl 0 A.length 0 1 1, (A ++ [some [v]]) :: H) := by
  simp only [bldS, afill, Option.bind_some, acells_leaf hc, Nat.zero_mul, reps, pushB]
  rfl
theorem bldS_zero (s : Nat) (z : List AV) (A : Arena) (H : Heap) : bldS s 0 z [] (A :: H) = some (.sl 0 A.length 0 0 s, (A ++ [some []]) :: H) := by
  simp only [bldS, afill, Option.bind_some, reps, pushB]
  rfl
theorem elS_here {s : Nat} {A : Arena} {H : Heap} {i o n : Nat} {c : List AV} (hA : (A[i]?).join = some c) (ho : o + n * s ≤ c.length) :
    elS s (A :: H) (.sl 0 i o n s) = some (n, (c.drop o).take (n * s)) := by
  simp only [elS, getB_zero, hA, Option.bind_some, cut_eq ho, Option.map_some, upN_zero]
  simp
theorem elS_d {s : Nat} {H : Heap} {n : Nat} {b : Bool} {c : List D} (hc : c.length = n * s) : elS s H (.d (.seq b n c)) = some (n, c.map .d) := by
  simp [elS, hc]
/-- A slice of the arena at hand grows. -/
theorem app_sl {size bytes lim : Nat} {A : Arena} {H : Heap} {b n m : Nat} {old cs : List AV} (hl : 0 < lim) (hA : (A[b]?).join = some old) (hold : old.length = n * size) (hm : m ≠ 0)
    (h1 : n + m ≤ 140737488355328) (h2 : (n + m) * bytes ≤ 140737488355328) (hc : cs.all AV.leaf = true) :
    app size bytes lim (A :: H) (.sl 0 b 0 n size) (some (m, cs)) = some (.sl 0 A.length 0 (n + m) size, (A.set b none ++ [some (old ++ cs)]) :: H) := by
  have e : (m == 0) = false := by simpa using hm
  have f1 : Nat.ble (n + m) 140737488355328 = true := Nat.ble_eq_true_of_le h1
  have f2 : Nat.ble ((n + m) * bytes) 140737488355328 = true := Nat.ble_eq_true_of_le h2
  have f3 : Nat.blt 0 lim = true := by simpa using hl
  simp only [app, appW, Option.bind_some, e, f1, f2, f3, hc, beq_self_eq_true, Bool.true_and, cond_true, cond_false, getB_zero, hA, setB_zero, upN_zero, pushB]
  rw [cut_eq (by omega)]
  simp only [Option.bind_some, List.drop_zero, List.length_set, Option.map_some]
  rw [List.take_of_length_le (by omega)]
theorem app_nil {size bytes lim : Nat} {A : Arena} {H : Heap} {m : Nat} {cs : List AV} (hm : m ≠ 0) (h1 : m ≤ 140737488355328) (h2 : m * bytes ≤ 140737488355328) (hc : cs.all AV.leaf = true) :
    app size bytes lim (A :: H) (.d (.seq true 0 [])) (some (m, cs)) = some (.sl 0 A.length 0 m size, (A ++ [some cs]) :: H) := by
  have e : (m == 0) = false := by simpa using hm
  have f1 : Nat.ble m 140737488355328 = true := Nat.ble_eq_true_of_le h1
  have f2 : Nat.ble (m * bytes) 140737488355328 = true := Nat.ble_eq_true_of_le h2
  simp only [app, appW, Bool.false_and, Option.bind_some, e, f1, f2, hc, Bool.true_and, cond_true, cond_false, pushB, Option.map_some]
theorem app_zero {size bytes lim : Nat} {H : Heap} {l b n z : Nat} {cs : List AV} : app size bytes lim H (.sl l b 0 n z) (some (0, cs)) = some (.sl l b 0 n z, H) := by
  simp [app, appW]
theorem sealList_d (A : Arena) (r : List AV → Option (List D)) (c : List D) : sealList A r (c.map .d) = some c := by
  induction c with
  | nil => rfl
  | cons x c ih => simp [sealList, sealOne, ih]
theorem seals_d (A : Arena) (f : Nat) (c : List D) : seals A f (c.map .d) = some c := by
  cases f <;> exact sealList_d _ _ _
/-- A row of data only, as a call hands it back. -/
theorem leave_row {A : Arena} {i n s : Nat} {c : List D} (hA : (A[i]?).join = some (c.map .d)) (hc : c.length = n * s) : AV.leave A (.sl 0 i 0 n s) = some (.d (.seq false n c)) := by
  simp only [AV.leave, sealOne, hA]
  rw [if_pos (by simp [hc])]
  simp only [List.drop_zero]
  rw [List.take_of_length_le (by simp [hc])]
  simp [seals_d]

/-- It comes to an end, and so. -/
def Gives {α : Type} (X : Option α) (Q : α → Prop) : Prop := ∃ r, X = some r ∧ Q r
theorem gives_some {α : Type} (r : α) (Q : α → Prop) : Gives (some r) Q = Q r := by
  unfold Gives
  simp
theorem gives_bind {α β : Type} {X : Option α} {f : α → Option β} {Q : α → Prop} {R : β → Prop} (h : Gives X Q) (k : ∀ r, Q r → Gives (f r) R) : Gives (X.bind f) R := by
  obtain ⟨r, rfl, hr⟩ := h
  exact k r hr
theorem gives_bnd {α β : Type} {X : Option α} {f : α → Option β} {Q : α → Prop} {R : β → Prop} (h : Gives X Q) (k : ∀ r, Q r → Gives (f r) R) : Gives (bnd f X) R := by
  rw [bnd_eq]
  exact gives_bind h k
theorem gives_eq {α : Type} {X : Option α} {v : α} (h : Gives X fun r => r = v) : X = some v := by
  obtain ⟨r, rfl, rfl⟩ := h
  rfl
theorem gives_mono {α : Type} {X : Option α} {Q R : α → Prop} (h : Gives X Q) (k : ∀ r, Q r → R r) : Gives X R := by
  obtain ⟨r, e, hr⟩ := h
  exact ⟨r, e, k r hr⟩
/-- A loop: each round goes on, the invariant one further, or ends as asked. -/
theorem iter_gives {F : List AV → Heap → Option Res} {Q : Res → Prop} {Inv : Nat → List AV → Heap → Prop} (n : Nat) (hn : n < LB)
    (step : ∀ k, k ≤ n → ∀ s H, Inv k s H → (∃ s' H', k < n ∧ F s H = some (.normal, s', H') ∧ Inv (k + 1) s' H') ∨ ∃ r, F s H = some r ∧ r.1 ≠ .normal ∧ Q r) {s : List AV} {H : Heap} (h0 : Inv 0 s H) : Gives (iterN LB F s H) Q := by
  have key : ∀ (m k : Nat) (s : List AV) (H : Heap), k + m = n → Inv k s H → ∀ q, Gives (iterN (m + 1 + q) F s H) Q := by
    intro m
    induction m with
    | zero =>
      intro k s H hk h q
      rcases step k (by omega) s H h with ⟨_, _, h1, _⟩ | ⟨r, h1, h2, h3⟩
      · omega
      · refine ⟨r, ?_, h3⟩
        rw [show 0 + 1 + q = q + 1 by omega, iterN_succ, h1]
        rw [Option.bind_some]
        split
        · rename_i hr; exact absurd hr h2
        · rfl
    | succ m ih =>
      intro k s H hk h q
      rw [show m + 1 + 1 + q = (m + 1 + q) + 1 by omega, iterN_succ]
      rcases step k (by omega) s H h with ⟨s', H', h1, h2, h3⟩ | ⟨r, h1, h2, h3⟩
      · rw [h2]
        exact ih (k + 1) s' H' (by omega) h3 q
      · refine ⟨r, ?_, h3⟩
        rw [h1, Option.bind_some]
        split
        · rename_i hr; exact absurd hr h2
        · rfl
  have := key n 0 s H (by omega) h0 (LB - (n + 1))
  rwa [show n + 1 + (LB - (n + 1)) = LB by omega] at this
theorem big_lt {n : Nat} (h : n ≤ 9223372036854775807) : n < LB := by unfold LB; omega
/-- A loop that looks for a place. -/
theorem iter_any {F : List AV → Heap → Option Res} {H : Heap} {n : Nat} (S : Nat → List AV) (p : Nat → Bool) {rv ex : Res} (hn : n ≤ 9223372036854775807) (hgo : ∀ k, k < n → p k = false → F (S k) H = some (.normal, S (k + 1), H))
    (hret : ∀ k, k < n → p k = true → F (S k) H = some rv) (hrv : rv.1 ≠ .normal) (hex : F (S n) H = some ex) (hxn : ex.1 ≠ .normal) : iterN LB F (S 0) H = some (if (List.range n).any p then rv else ex) := by
  refine gives_eq (iter_gives (Inv := fun k s H' => s = S k ∧ H' = H ∧ ∀ j, j < k → p j = false) n (big_lt hn) (fun k hk s H' h => ?_) ⟨rfl, rfl, fun j hj => by omega⟩)
  obtain ⟨rfl, rfl, hp⟩ := h
  rcases Nat.lt_or_ge k n with hk' | hk'
  · cases hpk : p k with
    | false => exact .inl ⟨_, _, hk', hgo k hk' hpk, rfl, rfl, fun j hj => by rcases Nat.lt_succ_iff_lt_or_eq.1 hj with h | rfl; exact hp j h; exact hpk⟩
    | true =>
      refine .inr ⟨_, hret k hk' hpk, hrv, ?_⟩
      rw [if_pos]
      exact List.any_eq_true.2 ⟨k, by simpa using hk', hpk⟩
  · obtain rfl : k = n := by omega
    refine .inr ⟨_, hex, hxn, ?_⟩
    rw [if_neg]
    intro h
    obtain ⟨j, hj, hpj⟩ := List.any_eq_true.1 h
    rw [hp j (by simpa using hj)] at hpj
    cases hpj
/-- A slice that grows in the arena at hand, from `k0` on. -/
inductive OutAt (k0 : Nat) (A : Arena) : AV → List AV → Nat → Nat → Prop
  | nil (s : Nat) : OutAt k0 A (.d (.seq true 0 [])) [] 0 s
  | row {b n s : Nat} {cells : List AV} (hb : k0 ≤ b) (hA : A[b]? = some (some cells)) (hl : cells.length = n * s) : OutAt k0 A (.sl 0 b 0 n s) cells n s
theorem OutAt.len {k0 : Nat} {A : Arena} {v : AV} {cells : List AV} {n s : Nat} (h : OutAt k0 A v cells n s) : cells.length = n * s := by
  cases h with
  | nil => simp
  | row hb hA hl => exact hl
theorem OutAt.keep {k0 k1 : Nat} {A A' : Arena} {v : AV} {cells : List AV} {n s : Nat} (h : OutAt k0 A v cells n s) (hk : ∀ j, j < k1 → A'[j]? = A[j]?) (hle : A.length ≤ k1) : OutAt k0 A' v cells n s := by
  cases h with
  | nil => exact .nil _
  | row hb hA hl =>
    refine .row hb ?_ hl
    rw [hk _ (Nat.lt_of_lt_of_le (List.getElem?_eq_some_iff.1 hA).1 hle), hA]
theorem OutAt.more {k0 : Nat} {A : Arena} {v : AV} {cells : List AV} {n s : Nat} (h : OutAt k0 A v cells n s) (B : Arena) : OutAt k0 (A ++ B) v cells n s := h.keep (fun j hj => List.getElem?_append_left hj) (Nat.le_refl _)
/-- One element more. -/
theorem OutAt.append {k0 : Nat} {A : Arena} {H : Heap} {v : AV} {cells cs : List AV} {n s bytes lim : Nat} (h : OutAt k0 A v cells n s) (h0 : k0 ≤ A.length) (hl : 0 < lim) (hc : cs.all AV.leaf = true) (hn : cs.length = s)
    (h1 : n + 1 ≤ 140737488355328) (h2 : (n + 1) * bytes ≤ 140737488355328) :
    ∃ v' A', app s bytes lim ((A ++ [some cs]) :: H) v (elS s ((A ++ [some cs]) :: H) (.sl 0 A.length 0 1 s)) = some (v', A' :: H) ∧ OutAt k0 A' v' (cells ++ cs) (n + 1) s ∧ A.length ≤ A'.length ∧ ∀ j, j < k0 → A'[j]? = A[j]? := by
  have he : elS s ((A ++ [some cs]) :: H) (.sl 0 A.length 0 1 s) = some (1, cs) := by
    rw [elS_here (c := cs) (by simp) (by omega)]
    simp [← hn]
  rw [he]
  cases h with
  | nil =>
    refine ⟨_, _, app_nil (by decide) (by omega) (by omega) hc, .row (cells := cs) (by simp; omega) (by simp) (by omega), by simp, fun j hj => ?_⟩
    rw [List.getElem?_append_left (by simp; omega), List.getElem?_append_left (by omega)]
  | row hb hA hlen =>
    have hb' := (List.getElem?_eq_some_iff.1 hA).1
    refine ⟨_, _, app_sl (old := cells) hl (by rw [List.getElem?_append_left hb', hA]; rfl) hlen (by decide) h1 h2 hc, .row (by simp; omega) (by simp) (by simp [hlen, hn, Nat.add_mul]), by simp; omega, fun j hj => ?_⟩
    rw [List.getElem?_append_left (by simp; omega), List.getElem?_set_ne (by omega), List.getElem?_append_left (by omega)]
theorem OutAt.leaf {k0 : Nat} {A : Arena} {v : AV} {cells : List AV} {n s : Nat} (h : OutAt k0 A v cells n s) : v.leaf = true := by cases h <;> rfl
theorem OutAt.sl {k0 : Nat} {A : Arena} {v : AV} {cells : List AV} {n s : Nat} (h : OutAt k0 A v cells n s) (hn : n ≠ 0) : ∃ b, v = .sl 0 b 0 n s ∧ k0 ≤ b ∧ A[b]? = some (some cells) ∧ cells.length = n * s := by
  cases h with
  | nil => exact absurd rfl hn
  | row hb hA hl => exact ⟨_, rfl, hb, hA, hl⟩
theorem OutAt.leave {k0 : Nat} {A : Arena} {v : AV} {c : List D} {n s : Nat} (h : OutAt k0 A v (c.map .d) n s) (hn : n ≠ 0) : AV.leave A v = some (.d (.seq false n c)) := by
  generalize hc : c.map AV.d = cells at h
  cases h with
  | nil => exact absurd rfl hn
  | row hb hA hl =>
    subst hc
    exact leave_row (by rw [hA]; rfl) (by simpa using hl)
/-! ### Rows of data, told or in memory -/
theorem flat_len {s : Nat} : ∀ {rs : List (List D)}, (∀ r ∈ rs, r.length = s) → rs.flatten.length = rs.length * s
  | [], _ => by simp
  | r :: rs, h => by
    have := flat_len (rs := rs) fun x hx => h x (by simp [hx])
    simp only [List.flatten_cons, List.length_append, List.length_cons, this, h r (by simp)]
    rw [Nat.add_mul]
    omega
theorem flat_drop {s : Nat} : ∀ {rs : List (List D)} {k : Nat} {r : List D}, (∀ r ∈ rs, r.length = s) → rs[k]? = some r → (rs.flatten.drop (k * s)).take s = r
  | [], k, r, _, h => by simp at h
  | x :: rs, 0, r, hs, h => by
    simp at h
    subst h
    have := hs x (by simp)
    simp [List.take_append, this]
  | x :: rs, k + 1, r, hs, h => by
    have h1 := hs x (by simp)
    rw [List.flatten_cons, show (k + 1) * s = s + k * s by rw [Nat.add_mul]; omega, ← List.drop_drop, List.drop_left' h1]
    exact flat_drop (fun y hy => hs y (by simp [hy])) (by simpa using h)
/-- A slice of rows of data, told as data or in memory. -/
structure SV (H : Heap) (v : AV) (s : Nat) (rs : List (List D)) : Prop where
  rows : ∀ r ∈ rs, r.length = s
  val : (∃ nl, v = .d (.seq nl rs.length rs.flatten)) ∨ ∃ l x, v = .sl l x 0 rs.length s ∧ getB H l x = some (rs.flatten.map .d)
structure SRead (v : AV) (s : Nat) (k : Nat) (H : Heap) (r : List D) (p : AV) (q : Nat → AV) : Prop where
  ix : ixS s (v.up 1) (.d (.int .i64 k)) = some p
  fa : ∀ j, fa j p = some (q j)
  fa0 : q 0 = p
  cell : ∀ (A : Arena) (j : Nat) (x : D), r[j]? = some x → ld (A :: H) (q j) = some (.d x)
  all : ∀ A : Arena, ldA s (A :: H) p = some (.agg (r.map .d))
theorem SV.push {H : Heap} {v : AV} {s : Nat} {rs : List (List D)} (h : SV H v s rs) (A : Arena) : SV (A :: H) (v.up 1) s rs := by
  refine ⟨h.rows, ?_⟩
  rcases h.val with ⟨nl, rfl⟩ | ⟨l, x, rfl, hg⟩
  · exact .inl ⟨nl, by simp⟩
  · exact .inr ⟨l + 1, x, by simp, hg⟩
theorem SV.len {H : Heap} {v : AV} {s : Nat} {rs : List (List D)} (h : SV H v s rs) : lnS v = some (.d (.int .i64 rs.length)) := by
  rcases h.val with ⟨nl, rfl⟩ | ⟨l, x, rfl, h⟩ <;> simp
theorem SV.len1 {H : Heap} {v : AV} {s : Nat} {rs : List (List D)} (h : SV H v s rs) : lnS (v.up 1) = some (.d (.int .i64 rs.length)) := (h.push []).len
theorem SV.read {H : Heap} {v : AV} {s : Nat} {rs : List (List D)} (h : SV H v s rs) {k : Nat} {r : List D} (hr : rs[k]? = some r) : ∃ p q, SRead v s k H r p q := by
  have hk := (List.getElem?_eq_some_iff.1 hr).1
  have hc := flat_drop h.rows hr
  have hlen := flat_len h.rows
  have hrl := h.rows r (List.mem_of_getElem? hr)
  have hle : k * s + s ≤ rs.flatten.length := by
    rw [hlen]
    have : (k + 1) * s ≤ rs.length * s := Nat.mul_le_mul_right s hk
    rw [Nat.add_mul] at this
    omega
  have g : ∀ (j : Nat) (x : D), r[j]? = some x → rs.flatten[k * s + j]? = some x := fun j x hx => by
    have hj := (List.getElem?_eq_some_iff.1 hx).1
    rw [← hc, List.getElem?_take_of_lt (by omega), List.getElem?_drop] at hx
    exact hx
  rcases h.val with ⟨nl, rfl⟩ | ⟨l, x, rfl, hg⟩
  · refine ⟨.dptr rs.flatten (k * s), fun j => .dptr rs.flatten (k * s + j), by simp [inB_nat hk], fun j => by simp, by simp, fun A j x hx => ?_, fun A => ?_⟩
    · rw [ld_dptr, g j x hx]; rfl
    · rw [ldA_dptr, cut_eq hle, hc]; rfl
  · refine ⟨.ptr (l + 1) x (k * s), fun j => .ptr (l + 1) x (k * s + j), by simp [inB_nat hk], fun j => by simp, by simp, fun A j y hx => ?_, fun A => ?_⟩
    · rw [ld_ptr, getB_succ, hg, Option.bind_some, List.getElem?_map, g j y hx]; rfl
    · rw [ldA_ptr, getB_succ, hg, Option.bind_some, cut_eq (by rw [List.length_map]; exact hle), ← List.map_drop, ← List.map_take, hc]
      simp [Function.comp_def]
theorem get_add {α : Type} (A B : List α) (k : Nat) : (A ++ B)[A.length + k]? = B[k]? := by rw [List.getElem?_append_right (by omega)]; congr 1; omega
theorem get_add0 {α : Type} (A B : List α) : (A ++ B)[A.length]? = B[0]? := get_add A B 0
theorem set_add {α : Type} (A B : List α) (k : Nat) (x : α) : (A ++ B).set (A.length + k) x = A ++ B.set k x := by rw [List.set_append_right _ _ (by omega)]; congr 2; omega
theorem set_add0 {α : Type} (A B : List α) (x : α) : (A ++ B).set A.length x = A ++ B.set 0 x := set_add A B 0 x
attribute [simp] get_add get_add0 set_add set_add0
theorem ck_t (X : Option Res) : ck [true] X = X := (rfl)
theorem ck_tt (X : Option Res) : ck [true, true] X = X := (rfl)
attribute [simp] again_self ck_t ck_tt
theorem join_some {α : Type} (x : Option α) : (some x).join = x := (rfl)
attribute [simp] leaf_up map_up_zero omap_up_zero getB_zero getB_succ setB_zero leaf_d leaf_sl leaf_ptr all_leaf_d acells_d al_eq bldS_zero upN_zero downN_zero app_zero gives_some
end Go.Ev

/- Arguments: what a reading tells, as data. -/
namespace Go.Ev
open Go Go.RowKit Go.WideShapes

/-- All cells of a memory. -/
def IW (W : World) : IM := fun g o => W.cell? ⟨g, o, none⟩
def G0 : GM := fun _ _ => none
theorem hrel0 {W : World} (hL : LT W) : HRel (IW W) G0 [[]] W.heap.size W where
  dom l i p h := by cases h
  blk l i c h := by
    cases l with
    | zero => simp [getB] at h
    | succ l => simp [getB] at h
  inj l i l' i' c c' g s s' h := by
    cases l with
    | zero => simp [getB] at h
    | succ l => simp [getB] at h
  imm g o v h := h
  free l i c g s h := by
    cases l with
    | zero => simp [getB] at h
    | succ l => simp [getB] at h
  low := ⟨W, hL, Nat.le_refl _, fun _ _ => rfl⟩
  shp l i g s h := by cases h
  base := Nat.le_refl _

/-- Do fields lie one behind the other? -/
def rowB (P : Program) (q : TypeId → Bool) (n : Nat) : List Field → Nat → Bool
  | [], o => Nat.beq o n
  | g :: gs, o => Nat.beq g.offset o && q g.type && rowB P q n gs (o + P.cellsOf g.type)
/-- A struct's cells, field by field. -/
def partsOk (Q : TypeId → List D → Prop) : List TypeId → List D → Prop
  | [], ds => ds = []
  | t :: ts, ds => ∃ p q, ds = p ++ q ∧ Q t p ∧ partsOk Q ts q
def fieldTypes (P : Program) (t : TypeId) : Option (List TypeId) :=
  match P.underlying t with
  | some (.struct fs) => some (fs.toList.map (·.type))
  | _ => none
/-- Types of plain data. -/
def plainB (P : Program) : Nat → TypeId → Bool
  | 0, _ => false
  | f + 1, t =>
    match P.underlying t with
    | some .bool => true
    | some (.int _) => true
    | some .string => true
    | some (.slice e) => Nat.blt 0 (P.cellsOf e) && plainB P f e
    | some (.struct fs) => rowB P (plainB P f) (P.cellsOf t) fs.toList 0
    | _ => false
/-- Cells of a type. -/
def DOk (P : Program) : Nat → TypeId → List D → Prop
  | 0, _, _ => False
  | f + 1, t, ds =>
    match P.underlying t with
    | some .bool => ∃ b, ds = [.bool b]
    | some (.int k) => ∃ n, ds = [.int k n] ∧ (Lit.int k n).wf = true
    | some .string => ∃ s, ds = [.str s] ∧ s.size ≤ maxLen
    | some (.slice e) => ds = [.seq true 0 []] ∨ ∃ rows : List (List D), ds = [.seq false rows.length rows.flatten] ∧ rows.length ≤ maxLen ∧ ∀ r ∈ rows, r.length = P.cellsOf e ∧ DOk P f e r
    | some (.struct fs) => partsOk (DOk P f) (fs.toList.map (·.type)) ds
    | _ => False
theorem dok_struct {P : Program} {f : Nat} {t : TypeId} {ds : List D} {ts : List TypeId} (hu : fieldTypes P t = some ts) (h : DOk P (f + 1) t ds) : partsOk (DOk P f) ts ds := by
  unfold DOk at h
  unfold fieldTypes at hu
  split at hu
  · rename_i fs hf
    rw [hf] at h
    cases hu
    exact h
  · cases hu
def VDs (I : IM) (ds : List D) (vs : List Value) : Prop := ds.length = vs.length ∧ ∀ (j : Nat) (d : D) (v : Value), ds[j]? = some d → vs[j]? = some v → VD I d v
theorem VDs.one {I : IM} {d : D} {v : Value} (h : VD I d v) : VDs I [d] [v] := ⟨rfl, fun j a b ha hb => by
  cases j with
  | zero => simp at ha hb; subst ha hb; exact h
  | succ j => simp at ha⟩
theorem VDs.vrs {I : IM} {G : GM} {ds : List D} {vs : List Value} (h : VDs I ds vs) : VRs I G (ds.map .d) vs := by
  refine ⟨by simp [h.1], fun j x v hx hv => ?_⟩
  rw [List.getElem?_map, Option.map_eq_some_iff] at hx
  obtain ⟨d, hd, rfl⟩ := hx
  exact .d (h.2 j d v hd hv)
/-- One for each number below. -/
theorem rows_of {α : Type} {n : Nat} {Q : Nat → α → Prop} (h : ∀ i, i < n → ∃ r, Q i r) : ∃ l : List α, l.length = n ∧ ∀ i r, l[i]? = some r → Q i r := by
  induction n with
  | zero => exact ⟨[], rfl, fun i r h => by simp at h⟩
  | succ n ih =>
    obtain ⟨l, h1, h2⟩ := ih fun i hi => h i (by omega)
    obtain ⟨r, hr⟩ := h n (by omega)
    refine ⟨l ++ [r], by simp [h1], fun i x hx => ?_⟩
    rw [List.getElem?_append] at hx
    split at hx
    · exact h2 i x hx
    · rename_i hi
      have : i = n := by
        have := (List.getElem?_eq_some_iff.1 hx).1
        simp at this
        omega
      subst this
      simp [h1] at hx
      subst hx
      exact hr
theorem flat_get {s : Nat} {rs : List (List D)} (hs : ∀ r ∈ rs, r.length = s) (h0 : 0 < s) {j : Nat} {x : D} (h : rs.flatten[j]? = some x) : ∃ r, rs[j / s]? = some r ∧ r[j % s]? = some x := by
  have hj := (List.getElem?_eq_some_iff.1 h).1
  rw [flat_len hs] at hj
  have hk : j / s < rs.length := Nat.div_lt_of_lt_mul (by rw [Nat.mul_comm]; exact hj)
  refine ⟨rs[j / s], List.getElem?_eq_getElem hk, ?_⟩
  have := flat_drop hs (List.getElem?_eq_getElem hk)
  have hm := Nat.mod_lt j h0
  rw [← this, List.getElem?_take_of_lt hm, List.getElem?_drop]
  rw [show j / s * s + j % s = j by rw [Nat.mul_comm]; exact Nat.div_add_mod j s]
  exact h
section
variable {Ho : Type} {enc : TypeId × Value → Ho} {P : Program} {W : World} {held : Bool}
theorem cells_get {a : Addr} {n : Nat} {cs : List Value} (h : W.cells? 0 a n = some cs) : cs.length = n ∧ ∀ i, i < n → ∃ v, cs[i]? = some v ∧ W.cell? (a.add i) = some v := by
  unfold World.cells? at h
  rw [if_pos (Nat.zero_le _)] at h
  refine ⟨by simpa using mapM_some_length h, fun i hi => ?_⟩
  have := mapM_some_get h i i (by simp [hi])
  cases hc : W.cell? (a.add i) with
  | some v => rw [hc] at this; exact ⟨v, this.symm, rfl⟩
  | none =>
    rw [hc] at this
    have hl : cs.length = n := by simpa using mapM_some_length h
    rw [List.getElem?_eq_getElem (by omega)] at this
    cases this
theorem spot_none {a : Addr} {v : Value} (h : W.cell? (a.add 0) = some v) : a.spot = none := by
  simp only [Addr.add, if_true, World.cell?] at h
  split at h
  · cases hs : a.spot with
    | none => rfl
    | some x => rw [hs] at h; simp at h
  · cases h
theorem add_off {g o : Nat} (n : Nat) : (⟨g, o, none⟩ : Addr).add n = ⟨g, o + n, none⟩ := by
  unfold Addr.add
  split
  · rename_i h; subst h; rfl
  · rfl
theorem trod_open : ∀ (f : Nat) {fuel : Nat} {t : TypeId} {cs : List Value} {x : DataW Ho × List MemPlace}, plainB P f t = true → DataW.trod enc P W 0 (fun _ => true) held fuel t cs = some x → ∃ ds, VDs (IW W) ds cs ∧ DOk P f t ds
  | 0, _, _, _, _, h, _ => by cases h
  | f + 1, fuel, t, cs, x, hp, h => by
    unfold plainB at hp
    unfold DOk
    cases hu : P.underlying t with
    | none => rw [hu] at hp; cases hp
    | some u =>
      rw [hu] at hp
      cases u with
      | bool =>
        obtain ⟨b, rfl, _⟩ := DataW.trod_bool hu h
        exact ⟨[.bool b], .one (.bool b), b, rfl⟩
      | int k =>
        obtain ⟨n, rfl, _, hw⟩ := DataW.trod_int hu h
        exact ⟨[.int k n], .one (.int k n), n, rfl, hw⟩
      | string =>
        obtain ⟨s, rfl, _, hs⟩ := DataW.trod_string hu h
        exact ⟨[.str s], .one (.str s), s, rfl, hs⟩
      | struct fs =>
        obtain ⟨xs, n, rfl, _, hl, hxs, hf⟩ := DataW.trod_struct hu h
        have key : ∀ (gs : List Field) (i o : Nat), (∀ j g, gs[j]? = some g → fs[i + j]? = some g) → rowB P (plainB P f) (P.cellsOf t) gs o = true → ∃ ds, VDs (IW W) ds (cs.drop o) ∧ partsOk (DOk P f) (gs.map (·.type)) ds := by
          intro gs
          induction gs with
          | nil =>
            intro i o _ hb
            obtain rfl := nbeq.1 hb
            refine ⟨[], ⟨by simp [← hl], fun j d v h => by simp at h⟩, rfl⟩
          | cons g gs ih =>
            intro i o hg hb
            simp only [rowB, Bool.and_eq_true] at hb
            obtain ⟨⟨h1, h2⟩, h3⟩ := hb
            have ho := nbeq.1 h1
            have hfi := hf i g (by simpa using hg 0 g rfl)
            have hi : i < xs.length := by rw [hxs]; exact (Array.getElem?_eq_some_iff.1 (by simpa using hg 0 g rfl)).1
            rw [List.getElem?_eq_getElem hi] at hfi
            obtain ⟨dp, hdp, hok⟩ := trod_open f h2 hfi
            obtain ⟨dq, hdq, hokq⟩ := ih (i + 1) (o + P.cellsOf g.type) (fun j g' h => by rw [Nat.add_assoc, Nat.add_comm 1 j]; exact hg (j + 1) g' (by simpa using h)) h3
            rw [ho] at hdp
            have hc1 : (cs.drop o).take (P.cellsOf g.type) ++ cs.drop (o + P.cellsOf g.type) = cs.drop o := by
              rw [← List.drop_drop]
              exact List.take_append_drop _ _
            refine ⟨dp ++ dq, ?_, dp, dq, rfl, hok, hokq⟩
            rw [← hc1]
            refine ⟨by simp [hdp.1, hdq.1], fun j d v hd hv => ?_⟩
            rw [List.getElem?_append] at hd hv
            rw [hdp.1] at hd
            split at hd
            · rename_i hj
              rw [if_pos hj] at hv
              exact hdp.2 j d v hd hv
            · rename_i hj
              rw [if_neg hj] at hv
              exact hdq.2 _ d v hd hv
        obtain ⟨ds, h1, h2⟩ := key fs.toList 0 0 (fun j g h => by simpa using h) hp
        exact ⟨ds, by simpa using h1, h2⟩
      | slice e =>
        simp only [Bool.and_eq_true] at hp
        have hpos : 0 < P.cellsOf e := blt_lt hp.1
        rcases DataW.trod_slice hu h with ⟨rfl, _⟩ | ⟨a, len, cap, elems, rest, n, rfl, rfl, _, _, hlc, hcm, hel, hget, hrest, _⟩
        · exact ⟨[.seq true 0 []], .one .nil, .inl rfl⟩
        · obtain ⟨hrl, hrg⟩ := hrest rfl
          have hone : ∀ i, i < len → ∃ r : List D, r.length = P.cellsOf e ∧ DOk P f e r ∧ ∃ c, W.cells? 0 (a.add (i * P.cellsOf e)) (P.cellsOf e) = some c ∧ VDs (IW W) r c := fun i hi => by
            have hg := hget i hi
            rw [List.getElem?_eq_getElem (by omega)] at hg
            rw [Option.bind_eq_some_iff] at hg
            obtain ⟨c, hc, hg⟩ := hg
            obtain ⟨r, hr, hok⟩ := trod_open f hp.2 hg
            exact ⟨r, by rw [hr.1, (cells_get hc).1], hok, c, hc, hr⟩
          obtain ⟨rows, hrn, hrows⟩ := rows_of hone
          have hsz : ∀ r ∈ rows, r.length = P.cellsOf e := fun r hr => by
            obtain ⟨i, hi, rfl⟩ := List.mem_iff_getElem.1 hr
            exact (hrows i _ (List.getElem?_eq_getElem hi)).1
          refine ⟨[.seq false rows.length rows.flatten], .one ?_, .inr ⟨rows, rfl, by omega, fun r hr => ?_⟩⟩
          · by_cases hcap : cap = 0
            · subst hcap
              obtain rfl : len = 0 := by omega
              obtain rfl : rows = [] := List.eq_nil_of_length_eq_zero hrn
              exact .emp a
            · have hspot : a.spot = none := by
                by_cases hl0 : len = 0
                · have hg := hrg 0 (by omega)
                  rw [List.getElem?_eq_getElem (by omega), Option.bind_eq_some_iff] at hg
                  obtain ⟨c, hc, _⟩ := hg
                  obtain ⟨v, _, hv⟩ := (cells_get hc).2 0 hpos
                  simp only [hl0, Nat.add_zero, Nat.zero_mul] at hv
                  exact spot_none (by simpa [Addr.add] using hv)
                · obtain ⟨r, _, _, c, hc, _⟩ := hone 0 (by omega)
                  obtain ⟨v, _, hv⟩ := (cells_get hc).2 0 hpos
                  simp only [Nat.zero_mul] at hv
                  exact spot_none (by simpa [Addr.add] using hv)
              obtain ⟨g, o, sp⟩ := a
              simp only at hspot
              subst hspot
              have hcell : ∀ (j : Nat) (d : D), rows.flatten[j]? = some d → ∃ v, W.cell? ⟨g, o + j, none⟩ = some v ∧ VD (IW W) d v := fun j d hd => by
                obtain ⟨r, h1, h2⟩ := flat_get hsz hpos hd
                obtain ⟨h3, _, c, hc, hvd⟩ := hrows _ r h1
                obtain ⟨v, hv1, hv2⟩ := (cells_get hc).2 (j % P.cellsOf e) (Nat.mod_lt _ hpos)
                rw [add_off, add_off] at hv2
                rw [show o + j / P.cellsOf e * P.cellsOf e + j % P.cellsOf e = o + j by rw [Nat.add_assoc, Nat.mul_comm, Nat.div_add_mod]] at hv2
                exact ⟨v, hv2, hvd.2 _ d v h2 hv1⟩
              rw [hrn]
              refine .seq (fun j => (W.cell? ⟨g, o + j, none⟩).getD Go.undef) hlc (fun j hj => ?_) (fun j d hd => ?_)
              · obtain ⟨v, hv, _⟩ := hcell j _ (List.getElem?_eq_getElem hj)
                simp [IW, hv]
              · obtain ⟨v, hv, hvd⟩ := hcell j d hd
                simpa [hv] using hvd
          · obtain ⟨i, hi, rfl⟩ := List.mem_iff_getElem.1 hr
            have := hrows i _ (List.getElem?_eq_getElem hi)
            exact ⟨this.1, this.2.1⟩
      | _ => cases hp
/-- An argument that is no struct. -/
theorem leaf_open {f : Nat} {fuel : Nat} {t : TypeId} {v : Value} {x : DataW Ho × List MemPlace} {r : Reach} {b0 : Nat} (hp : plainB P f t = true) (hval : Value.okWide P W r b0 t v) (hs : ∀ fs, P.underlying t ≠ some (.struct fs)) (h : DataW.trod enc P W 0 (fun _ => true) held fuel t v.cells.toList = some x) :
    ∃ d, VR (IW W) G0 (.d d) v ∧ DOk P f t [d] := by
  obtain ⟨ds, h1, h2⟩ := trod_open f hp h
  have hv : v.cells = #[v] := by
    cases f with
    | zero => cases hp
    | succ f =>
      unfold plainB at hp
      cases hu : P.underlying t with
      | none => rw [hu] at hp; cases hp
      | some u =>
        rw [hu] at hp
        cases u with
        | bool => obtain ⟨b, rfl⟩ := okWide_bool hu hval; rfl
        | int k => obtain ⟨n, rfl⟩ := okWide_int hu hval; rfl
        | string => obtain ⟨s, rfl⟩ := okWide_string hu hval; rfl
        | slice e => obtain ⟨a, len, cap, rfl⟩ := okWide_slice hu hval; rfl
        | struct fs => exact absurd hu (hs fs)
        | _ => cases hp
  rw [hv] at h1
  match ds, h1 with
  | [d], h1 => exact ⟨d, .d (h1.2 0 d v rfl rfl), h2⟩
  | [], h1 => have := h1.1; simp at this
  | d :: d' :: ds, h1 => have := h1.1; simp at this
/-- An argument that is a struct. -/
theorem agg_open {f : Nat} {fuel : Nat} {t : TypeId} {v : Value} {x : DataW Ho × List MemPlace} {r : Reach} {b0 : Nat} (hp : plainB P f t = true) (hval : Value.okWide P W r b0 t v) {fs : Array Field} (hs : P.underlying t = some (.struct fs)) (h : DataW.trod enc P W 0 (fun _ => true) held fuel t v.cells.toList = some x) :
    ∃ ds : List D, VR (IW W) G0 (.agg (ds.map .d)) v ∧ DOk P f t ds := by
  obtain ⟨ds, h1, h2⟩ := trod_open f hp h
  obtain ⟨cs, rfl, _⟩ := okWide_struct hs hval
  refine ⟨ds, ?_, h2⟩
  have := h1.vrs (G := G0)
  exact .agg (vs := cs.toList) this.1 this.2
end
/-- A call that answers true, on the machine. -/
theorem calls_true {P : Program} {C : FuncId → Option FI} (hC : ∀ f fi, C f = some fi → FitO P f fi) (hm : P.follows .mixedOrders = true) {d f : Nat} {fi : FI} {fn : Func} (hfit : Fits P f fi fn) {avs : List AV} {vs : List Value} {W : World} (hL : LT W) {H' : Heap} (e : evCall P C d 1 f avs [[]] = some (.d (.bool true), H')) (hv : VRs (IW W) G0 avs vs) :
    Calls P f vs.toArray W (fun x W' => x = .returned (.bool true) ∧ Below W.heap.size W W') := by
  rcases (evCall_spec hC hm d 1 (Nat.le_refl _)).calls f avs [[]] _ _ e (IW W) G0 W.heap.size W vs (hrel0 hL) hv with ⟨_, this⟩ | ⟨r, w', hval, _⟩
  rotate_left
  · rw [hfit.enters] at hval
    cases hval
  refine this.mono fun x w' hp => ?_
  obtain ⟨r, I', G', rfl, _, _, _, hz, hb, _, _⟩ := hp
  cases hz with | d hz =>
  cases hz
  exact ⟨rfl, hb⟩
end Go.Ev
