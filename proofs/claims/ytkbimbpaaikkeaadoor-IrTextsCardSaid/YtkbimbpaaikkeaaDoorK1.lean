import Derived.Test.YtkbimbpaaikkeaaDoorT2
import Derived.Test.YtkbimbpaaikkeaaDoorE3
set_option linter.unusedSimpArgs false
set_option linter.unusedVariables false
/- Words of this seat's laws; the page's example. -/
set_option maxRecDepth 100000
namespace Go.Ev.Tryd
open Go Go.Ev Go.Proofs

abbrev vi (n : Int) : AV := .d (.int .i64 n)
abbrev vw (n : Int) : AV := .d (.int .u32 n)
abbrev vb (b : Bool) : AV := .d (.bool b)
abbrev vs (s : ByteArray) : AV := .d (.str s)
theorem dsp_ret (nrm ret : Option Res) (exs : List (Nat × Option Res)) : dsp .ret nrm ret exs = ret := (rfl)
theorem dsp_normal (nrm ret : Option Res) (exs : List (Nat × Option Res)) : dsp .normal nrm ret exs = nrm := (rfl)
theorem dsp_exit (i : Nat) (nrm ret : Option Res) (q : Option Res) : dsp (.exit i) nrm ret [(i, q)] = q := by simp [dsp, dspE]
theorem cal_fn (call : ACall) (g : FuncId) (caps args : List AV) (H : Heap) : cal call (.fn g caps) args H = call g (args ++ caps) H := (rfl)
theorem cvI_int (k k' : IntKind) (n : Int) : cvI k (.d (.int k' n)) = some (.d (.int k (k.wrap n))) := (rfl)
theorem gv_at (e : AX) (vs : List AV) (H : Heap) (j : Nat) : gv (e, vs, H) j = vs.getD j .junk := (rfl)
attribute [simp] dsp_ret dsp_normal dsp_exit cal_fn cvI_int gv_at
theorem wrap_ok (n : Int) (h0 : -9223372036854775808 ≤ n) (h1 : n < 9223372036854775808) : IntKind.i64.wrap n = n := by
  simp [IntKind.wrap, IntKind.bits, IntKind.signed]
  omega
structure Slt where
  name : ByteArray
  size : Int
  align : Int
  cell : Int
def sD (s : Slt) : List D := [.str s.name, .int .i64 s.size, .int .i64 s.align, .int .i64 s.cell]
def sizeAt (L : List Slt) (k : Nat) : Int := ((L[k]?).map (·.size)).getD 0
theorem sizeAt_eq {L : List Slt} {k : Nat} {s : Slt} (h : L[k]? = some s) : sizeAt L k = s.size := by simp [sizeAt, h]
theorem awake_d {d : Nat} {H : Heap} : evCall Tryd.prog C (d + 99) 1 7 [] H = some (vb true, H) := by kernel_rfl
end Go.Ev.Tryd

/- Modules as data: instructions, blocks, procedures; rows are read. -/
set_option maxRecDepth 100000
namespace Go.Ev.Tryd
open Go Go.Ev Go.Proofs

/-- A slice of rows. -/
def seqD {α : Type} (nl : Bool) (l : List α) (f : α → List D) : D := .seq nl l.length (l.flatMap f)
structure Ins where
  op : Int
  d : Int
  a : Int
  b : Int
  fn : Int
  obj : Int
  off : Int
  size : Int
  num : Int
  anl : Bool
  args : List Int
  log : Bool
def nD (n : Int) : List D := [.int .i64 n]
def byD (n : Int) : List D := [.int .u8 n]
def iD (i : Ins) : List D := [.int .i64 i.op, .int .i64 i.d, .int .i64 i.a, .int .i64 i.b, .int .i64 i.fn, .int .i64 i.obj, .int .i64 i.off, .int .i64 i.size, .int .u32 i.num, seqD i.anl i.args nD, .bool i.log]
structure Blk where
  inl : Bool
  ins : List Ins
  fin : Int
  a : Int
  to : Int
  els : Int
def bD (b : Blk) : List D := [seqD b.inl b.ins iD, .int .i64 b.fin, .int .i64 b.a, .int .i64 b.to, .int .i64 b.els]
structure Prc where
  name : ByteArray
  void : Bool
  params : Int
  regs : Int
  onl : Bool
  objs : List Slt
  bnl : Bool
  blks : List Blk
def pD (p : Prc) : List D := [.str p.name, .bool p.void, .int .i64 p.params, .int .i64 p.regs, seqD p.onl p.objs sD, seqD p.bnl p.blks bD]
structure Mdl where
  gnl : Bool
  globs : List Slt
  dnl : Bool
  datas : List (Bool × List Int)
  pnl : Bool
  procs : List Prc
  main : Int
def yD (x : Bool × List Int) : List D := [seqD x.1 x.2 byD]
def mD (m : Mdl) : List D := [seqD m.gnl m.globs sD, seqD m.dnl m.datas yD, seqD m.pnl m.procs pD, .int .i64 m.main]

theorem seq_len {α : Type} (nl : Bool) (l : List α) (f : α → List D) : lnS (.d (seqD nl l f)) = some (vi l.length) := by unfold seqD; simp
theorem flatMap_drop {α : Type} {f : α → List D} {s : Nat} (hs : ∀ x, (f x).length = s) : ∀ {l : List α} {k : Nat} {x : α}, l[k]? = some x → ((l.flatMap f).drop (k * s)).take s = f x
  | [], k, x, h => by simp at h
  | y :: l, 0, x, h => by
    simp at h
    subst h
    have := hs y
    simp [List.take_append, this]
  | y :: l, k + 1, x, h => by
    rw [List.flatMap_cons, show (k + 1) * s = s + k * s by rw [Nat.add_mul]; omega, ← List.drop_drop, List.drop_left' (hs y)]
    exact flatMap_drop hs (by simpa using h)
theorem flatMap_len {α : Type} {f : α → List D} {s : Nat} (hs : ∀ x, (f x).length = s) (l : List α) : (l.flatMap f).length = l.length * s := by
  induction l with
  | nil => simp
  | cons x l ih => rw [List.flatMap_cons, List.length_append, ih, hs, List.length_cons, Nat.add_mul]; omega
/-- A row's place and what is read there. -/
structure Row (v : D) (s k : Nat) (r : List D) (p : AV) (q : Nat → AV) : Prop where
  ix : ixS s (.d v) (vi k) = some p
  fa : ∀ j, fa j p = some (q j)
  q0 : q 0 = p
  cell : ∀ (H : Heap) (j : Nat) (x : D), r[j]? = some x → ld H (q j) = some (.d x)
  all : ∀ H : Heap, ldA s H p = some (.agg (r.map .d))
theorem seq_row {α : Type} {nl : Bool} {l : List α} {f : α → List D} {s k : Nat} {x : α} (hs : ∀ x, (f x).length = s) (hx : l[k]? = some x) : ∃ p q, Row (seqD nl l f) s k (f x) p q := by
  have hk := (List.getElem?_eq_some_iff.1 hx).1
  have hc := flatMap_drop hs hx
  have hl := flatMap_len hs l
  have hle : k * s + s ≤ (l.flatMap f).length := by
    rw [hl]
    have : (k + 1) * s ≤ l.length * s := Nat.mul_le_mul_right s hk
    rw [Nat.add_mul] at this
    omega
  refine ⟨.dptr (l.flatMap f) (k * s), fun j => .dptr (l.flatMap f) (k * s + j), by unfold seqD; simp [inB_nat hk], fun j => by simp, by simp, fun H j y hy => ?_, fun H => ?_⟩
  · have hj : j < s := by rw [← hs x]; exact (List.getElem?_eq_some_iff.1 hy).1
    rw [← hc, List.getElem?_take_of_lt hj, List.getElem?_drop] at hy
    rw [ld_dptr, hy]
    rfl
  · rw [ldA_dptr, cut_eq hle, hc]
    rfl
/-- Rows of one cell. -/
theorem seq_one {α : Type} {nl : Bool} {l : List α} {f : α → D} {k : Nat} {x : α} (hx : l[k]? = some x) : ∃ p, ixS 1 (.d (seqD nl l fun y => [f y])) (vi k) = some p ∧ ∀ H, ld H p = some (.d (f x)) := by
  obtain ⟨p, q, r⟩ := seq_row (nl := nl) (f := fun y => [f y]) (s := 1) (fun _ => rfl) hx
  exact ⟨p, r.ix, fun H => by rw [← r.q0]; exact r.cell H 0 _ rfl⟩

/-- An aggregate of data, boxed and looked at. -/
theorem bx_data {r : List D} {A : Arena} {H : Heap} : bx (.agg (r.map .d)) (A :: H) = some (.ptr 0 A.length 0, (A ++ [some (r.map .d)]) :: H) := bx_agg (all_leaf_d r)
theorem up_data (k : Nat) (r : List D) : (AV.agg (r.map .d)).up k = .agg (r.map .d) := by simp [AV.up, List.map_map, Function.comp_def]

/-! ### What is right -/
def slotOk (s : Slt) : Bool := decide (1 ≤ s.size) && decide (s.size ≤ 32768) && (decide (s.align = 1) || decide (s.align = 4))
section
variable {d lim : Nat} {H : Heap}
theorem slots37 {nl : Bool} {L : List Slt} (hL : L.length ≤ 1000000) : evCall Tryd.prog C (d + 1) lim 24 [.d (seqD nl L sD)] H = some (vb (L.all slotOk), H) := by
  rw [evCall_pureEq (fi := fi24) rfl rfl (b24 _ _ _ _)]
  unfold s24
  have hln := seq_len nl L sD
  have key : ∀ call : ACall, Gives (iterN LB (s24.l0 call 1) [.d (seqD nl L sD), vi L.length, vi 0] ([] :: H)) (fun r => (L.all slotOk = true ∧ ∃ A, r = (.exit 0, [], A :: H)) ∨ (L.all slotOk = false ∧ ∃ A, r = (.ret, [vb false], A :: H))) := by
    intro call
    refine iter_gives (Inv := fun k s H' => ∃ A, s = [.d (seqD nl L sD), vi L.length, vi k] ∧ H' = A :: H ∧ ∀ j s, j < k → L[j]? = some s → slotOk s = true) L.length (big_lt (by omega)) (fun k hk s H' h => ?_) ⟨[], rfl, rfl, fun j s hj => by omega⟩
    obtain ⟨A, rfl, rfl, hp⟩ := h
    rcases Nat.lt_or_ge k L.length with hlt | hge
    · obtain ⟨s, hs⟩ : ∃ s, L[k]? = some s := ⟨_, List.getElem?_eq_getElem hlt⟩
      obtain ⟨p, q, rr⟩ := seq_row (nl := nl) (f := sD) (s := 4) (fun _ => rfl) hs
      have hi : (k : Int) < L.length := by omega
      have hst := stA_new (n := 4) (lim := 1) (A := A) (H := H) (cs := (sD s).map .d) (c := [.d (.str ⟨#[]⟩), .d (.int .i64 0), .d (.int .i64 0), .d (.int .i64 0)]) (by decide) (all_leaf_d _) rfl rfl
      have h1 : (sD s)[1]? = some (.int .i64 s.size) := rfl
      have h2 : (sD s)[2]? = some (.int .i64 s.align) := rfl
      have w := wrap_ok ((k : Int) + 1) (by omega) (by omega)
      have hix := rr.ix
      have hall := rr.all
      cases hsl : slotOk s with
      | true =>
        left
        refine ⟨[.d (seqD nl L sD), vi L.length, vi (k + 1 : Nat)], (A ++ [some ((sD s).map .d)]) :: H, hlt, ?_, _, rfl, rfl, fun j t hj ht => ?_⟩
        · simp [slotOk] at hsl
          unfold s24.l0
          rcases hsl.2 with ha | ha
          · simp -implicitDefEqProofs [abin_lss, hi, hix, hall, hst, h1, h2, Int.not_lt.2 hsl.1.1, abin_gtr, Int.not_lt.2 hsl.1.2, abin_neq, ha, abin_add, w]
          · simp -implicitDefEqProofs [abin_lss, hi, hix, hall, hst, h1, h2, Int.not_lt.2 hsl.1.1, abin_gtr, Int.not_lt.2 hsl.1.2, abin_neq, ha, abin_add, w]
        · rcases Nat.lt_succ_iff_lt_or_eq.1 hj with h | rfl
          · exact hp j t h ht
          · rw [hs] at ht; cases ht; exact hsl
      | false =>
        right
        refine ⟨(.ret, [vb false], (A ++ [some ((sD s).map .d)]) :: H), ?_, by simp, .inr ⟨?_, _, rfl⟩⟩
        · unfold s24.l0
          by_cases x0 : s.size < 1
          · simp -implicitDefEqProofs [abin_lss, hi, hix, hall, hst, h1, h2, x0]
          · by_cases x1 : 32768 < s.size
            · simp -implicitDefEqProofs [abin_lss, hi, hix, hall, hst, h1, h2, x0, abin_gtr, x1]
            · have hne : s.align ≠ 1 ∧ s.align ≠ 4 := by
                simp [slotOk] at hsl
                exact hsl (by omega) (by omega)
              simp -implicitDefEqProofs [abin_lss, hi, hix, hall, hst, h1, h2, x0, abin_gtr, x1, abin_neq, hne.1, hne.2]
        · rw [List.all_eq_false]
          exact ⟨s, List.mem_of_getElem? hs, by simp [hsl]⟩
    · right
      obtain rfl : k = L.length := by omega
      refine ⟨(.exit 0, [], A :: H), ?_, by simp, .inl ⟨?_, _, rfl⟩⟩
      · unfold s24.l0
        simp -implicitDefEqProofs [abin_lss]
      · rw [List.all_eq_true]
        intro s hs
        obtain ⟨j, hj, he⟩ := List.getElem_of_mem hs
        exact hp j s hj (by rw [List.getElem?_eq_getElem hj, he])
  obtain ⟨r, hr, hq⟩ := key (evCall Tryd.prog C d 1)
  unfold lp
  rcases hq with ⟨ha, A, rfl⟩ | ⟨ha, A, rfl⟩
  · simp -implicitDefEqProofs [hln, hr, bnd_eq, ha]
  · simp -implicitDefEqProofs [hln, hr, bnd_eq, ha]
end
end Go.Ev.Tryd

/- The checker's smaller functions. -/
set_option maxRecDepth 100000
namespace Go.Ev.Tryd
open Go Go.Ev Go.Proofs

/-- One cell of a variable is written. -/
theorem st1 {A : Arena} {H : Heap} {i o : Nat} {x : D} : stA 1 1 (A :: H) (.ptr 0 i o) (.d x) = ((A[i]?).join).bind fun c => if o < c.length then some (.undef, A.set i (some (c.set o (.d x))) :: H) else none := by
  cases hA : (A[i]?).join with
  | none => simp [stA, getB_zero, hA, acells_d, downN]
  | some c =>
    by_cases ho : o < c.length
    · rw [stA_leaf (by decide) rfl hA ho]
      simp [ho]
    · have : ¬ (o + 1 ≤ c.length) := by omega
      simp [stA, getB_zero, hA, acells_d, downN, ho, this]
/-- Which operations set a register; which read. -/
def hasD (op : Int) : Bool := decide (op = 1 ∨ op = 2 ∨ op = 3 ∨ op = 4 ∨ op = 5 ∨ op = 7 ∨ op = 8 ∨ op = 9 ∨ op = 11)
def hasA (op : Int) : Bool := decide (op = 2 ∨ op = 3 ∨ op = 4 ∨ op = 5 ∨ op = 6 ∨ op = 10)
def hasB (op : Int) : Bool := decide (op = 3 ∨ op = 6)
theorem cut11 (x1 x2 x3 x4 x5 x6 x7 x8 x9 x10 x11 : AV) : cut [x1, x2, x3, x4, x5, x6, x7, x8, x9, x10, x11] 0 11 = some [x1, x2, x3, x4, x5, x6, x7, x8, x9, x10, x11] := rfl
theorem st11 (X : Option (List AV)) (H : Heap) (y1 y2 y3 y4 y5 y6 y7 y8 y9 y10 y11 : AV) (x1 x2 x3 x4 x5 x6 x7 x8 x9 x10 x11 : D) :
    stA 11 1 ([X, some [y1, y2, y3, y4, y5, y6, y7, y8, y9, y10, y11]] :: H) (.ptr 0 1 0) (.agg [.d x1, .d x2, .d x3, .d x4, .d x5, .d x6, .d x7, .d x8, .d x9, .d x10, .d x11]) =
      some (.undef, [X, some [.d x1, .d x2, .d x3, .d x4, .d x5, .d x6, .d x7, .d x8, .d x9, .d x10, .d x11]] :: H) := by kernel_rfl
section
variable {d lim : Nat} {H : Heap}
theorem def85 {i : Ins} : evCall Tryd.prog C (d + 1) lim 16 [.agg ((iD i).map .d)] H = some (vi (if hasD i.op then i.d else -1), H) := by
  rw [evCall_pureEq (fi := fi16) rfl rfl (b16 _ _ _ _), up_data]
  unfold s16
  have h0 : (iD i)[0]? = some (.int .i64 i.op) := rfl
  have h1 : (iD i)[1]? = some (.int .i64 i.d) := rfl
  have hb := bx_data (r := iD i) (A := []) (H := H)
  generalize iD i = r at *
  rw [hb]
  generalize i.op = op at *
  by_cases h : op = 1 ∨ op = 2 ∨ op = 3 ∨ op = 4 ∨ op = 5 ∨ op = 7 ∨ op = 8 ∨ op = 9 ∨ op = 11
  · rcases h with rfl | rfl | rfl | rfl | rfl | rfl | rfl | rfl | rfl <;> simp -implicitDefEqProofs [h0, h1, abin_eql, hasD]
  · have e : hasD op = false := by simpa [hasD] using h
    simp only [not_or] at h
    obtain ⟨n1, n2, n3, n4, n5, n7, n8, n9, n11⟩ := h
    simp -implicitDefEqProofs [h0, h1, abin_eql, e, n1, n2, n3, n4, n5, n7, n8, n9, n11]
theorem reads78 {op : Int} : evCall Tryd.prog C (d + 1) lim 36 [vi op] H = some (.tup [vb (hasA op), vb (hasB op)], H) := by
  rw [evCall_pureEq (fi := fi36) rfl rfl (b36 _ _ _ _)]
  unfold s36
  by_cases h : op = 2 ∨ op = 3 ∨ op = 4 ∨ op = 5 ∨ op = 6 ∨ op = 10
  · rcases h with rfl | rfl | rfl | rfl | rfl | rfl <;> simp -implicitDefEqProofs [abin_eql, hasA, hasB, leave_tup, AV.leaveL]
  · have e : hasA op = false := by simpa [hasA] using h
    simp only [not_or] at h
    obtain ⟨n2, n3, n4, n5, n6, n10⟩ := h
    have e2 : hasB op = false := by simp [hasB, n3, n6]
    simp -implicitDefEqProofs [abin_eql, e, e2, n2, n3, n4, n5, n6, n10, leave_tup, AV.leaveL]
theorem off82 {n : Int} : evCall Tryd.prog C (d + 1) lim 45 [vi n] H = some (vb (decide (-32768 ≤ n) && decide (n ≤ 32768)), H) := by
  rw [evCall_pureEq (fi := fi45) rfl rfl (b45 _ _ _ _)]
  unfold s45
  by_cases h : -32768 ≤ n
  · simp -implicitDefEqProofs [abin_geq, h, abin_leq]
  · simp -implicitDefEqProofs [abin_geq, h]
/-- An instruction without what its operation has. -/
def plainI (i : Ins) : Ins :=
  { op := i.op, d := -1, a := -1, b := -1, fn := if i.op = 3 ∨ i.op = 4 then 0 else i.fn, obj := if i.op = 7 ∨ i.op = 8 ∨ i.op = 9 then 0 else i.obj,
    off := if i.op = 5 ∨ i.op = 6 ∨ i.op = 7 ∨ i.op = 8 then 0 else i.off, size := if i.op = 5 ∨ i.op = 6 then 0 else i.size, num := if i.op = 1 then 0 else i.num,
    anl := true, args := [], log := if i.op = 6 ∨ (hasD i.op = true ∧ i.d ≠ -1) then false else i.log }
theorem plain84 {i : Ins} : evCall Tryd.prog C (d + 2) lim 49 [.agg ((iD i).map .d)] H = some (.agg ((iD (plainI i)).map .d), H) := by
  rw [evCall_pureEq (fi := fi49) rfl rfl (b49 _ _ _ _), up_data]
  unfold s49
  have hd := fun H => def85 (d := d) (lim := 1) (H := H) (i := i)
  obtain ⟨op, dd, a, b, fn, obj, off, size, num, anl, args, log⟩ := i
  simp only [iD, List.map_cons, List.map_nil] at hd ⊢
  generalize seqD anl args nD = sq at *
  have hsq : seqD (plainI ⟨op, dd, a, b, fn, obj, off, size, num, anl, args, log⟩).anl (plainI ⟨op, dd, a, b, fn, obj, off, size, num, anl, args, log⟩).args nD = .seq true 0 [] := rfl
  rw [hsq]
  have hb : bx (.agg [vi op, vi dd, vi a, vi b, vi fn, vi obj, vi off, vi size, vw num, .d sq, vb log]) ([] :: H) = some (.ptr 0 0 0, [some [vi op, vi dd, vi a, vi b, vi fn, vi obj, vi off, vi size, vw num, .d sq, vb log]] :: H) := rfl
  by_cases hdd : dd = -1
  · subst hdd
    by_cases h : op = 1 ∨ op = 2 ∨ op = 3 ∨ op = 4 ∨ op = 5 ∨ op = 6 ∨ op = 7 ∨ op = 8 ∨ op = 9 ∨ op = 11
    · rcases h with rfl | rfl | rfl | rfl | rfl | rfl | rfl | rfl | rfl | rfl <;>
      simp -implicitDefEqProofs [hb, hd, hasD, plainI, st1, cut11, st11, rs, rsL, one, abin_eql, abin_neq, leave_agg, AV.leaveL]
      done
    · have hn : hasD op = false := by simp only [hasD, decide_eq_false_iff_not]; omega
      simp only [not_or] at h
      obtain ⟨n1, n2, n3, n4, n5, n6, n7, n8, n9, n11⟩ := h
      simp -implicitDefEqProofs [hb, hd, hn, plainI, st1, cut11, st11, rs, rsL, one, abin_eql, abin_neq, n1, n2, n3, n4, n5, n6, n7, n8, n9, n11, leave_agg, AV.leaveL]
  ·
    by_cases h : op = 1 ∨ op = 2 ∨ op = 3 ∨ op = 4 ∨ op = 5 ∨ op = 6 ∨ op = 7 ∨ op = 8 ∨ op = 9 ∨ op = 11
    · rcases h with rfl | rfl | rfl | rfl | rfl | rfl | rfl | rfl | rfl | rfl <;>
      simp -implicitDefEqProofs [hb, hd, hasD, plainI, st1, cut11, st11, rs, rsL, one, abin_eql, abin_neq, hdd, leave_agg, AV.leaveL]
      done
    · have hn : hasD op = false := by simp only [hasD, decide_eq_false_iff_not]; omega
      simp only [not_or] at h
      obtain ⟨n1, n2, n3, n4, n5, n6, n7, n8, n9, n11⟩ := h
      simp -implicitDefEqProofs [hb, hd, hn, plainI, st1, cut11, st11, rs, rsL, one, abin_eql, abin_neq, n1, n2, n3, n4, n5, n6, n7, n8, n9, n11, leave_agg, AV.leaveL]
end
end Go.Ev.Tryd

/- The checker's functions of instructions and ends. -/
set_option maxRecDepth 100000
namespace Go.Ev.Tryd
open Go Go.Ev Go.Proofs

theorem cut_data {r : List D} {n : Nat} (h : r.length = n) : cut (r.map AV.d) 0 n = some (r.map AV.d) := cut_all (by simp [h])
/-- A procedure of a module that is looked at. -/
def lkD (m : Mdl) (p : Prc) : List D := mD m ++ pD p
def bareI (i : Ins) : Bool :=
  decide ((plainI i).fn = 0) && decide ((plainI i).obj = 0) && decide ((plainI i).off = 0) && decide ((plainI i).size = 0) && decide ((plainI i).num = 0) && !(plainI i).log && (decide (i.op = 9) || decide (i.args.length = 0))
def regOk (p : Prc) (r : Int) (should : Bool) : Bool := bif should then decide (0 ≤ r) && decide (r < p.regs) else decide (r = -1)
def blockOk (p : Prc) (n : Int) : Bool := decide (0 ≤ n) && decide (n < p.blks.length)
def endOk (p : Prc) (b : Blk) : Bool :=
  bif decide (b.fin = 1) then blockOk p b.to && decide (b.a = -1) && decide (b.els = 0)
  else bif decide (b.fin = 2) then blockOk p b.to && blockOk p b.els && regOk p b.a true
  else bif decide (b.fin = 3) then regOk p b.a (!p.void) && decide (b.to = 0) && decide (b.els = 0)
  else false
section
variable {d lim : Nat} {H : Heap}
theorem bare79 {i : Ins} : evCall Tryd.prog C (d + 3) lim 42 [.agg ((iD i).map .d)] H = some (vb (bareI i), H) := by
  rw [evCall_pureEq (fi := fi42) rfl rfl (b42 _ _ _ _), up_data]
  unfold s42
  have hp := fun H => plain84 (d := d) (lim := 1) (H := H) (i := i)
  have hb := bx_data (r := iD i) (A := []) (H := H)
  have hc := cut_data (r := iD i) (n := 11) rfl
  have h0 : (iD i)[0]? = some (.int .i64 i.op) := rfl
  have h9 : (iD i)[9]? = some (seqD i.anl i.args nD) := rfl
  have hl := seq_len i.anl i.args nD
  unfold bareI
  generalize iD i = r at *
  generalize hx : plainI i = x at *
  have hst := stA_at (n := 11) (lim := 1) (A := [some (r.map .d), some [.d (.int .i64 0), .d (.int .i64 0), .d (.int .i64 0), .d (.int .i64 0), .d (.int .i64 0), .d (.int .i64 0), .d (.int .i64 0), .d (.int .i64 0), .d (.int .u32 0), .d (.seq true 0 []), .d (.bool false)]]) (H := H) (i := 1)
    (cs := (iD x).map .d) _ (by decide) (all_leaf_d _) rfl rfl rfl
  have x4 : (iD x)[4]? = some (.int .i64 x.fn) := rfl
  have x5 : (iD x)[5]? = some (.int .i64 x.obj) := rfl
  have x6 : (iD x)[6]? = some (.int .i64 x.off) := rfl
  have x7 : (iD x)[7]? = some (.int .i64 x.size) := rfl
  have x8 : (iD x)[8]? = some (.int .u32 x.num) := rfl
  have x10 : (iD x)[10]? = some (.bool x.log) := rfl
  generalize iD x = r2 at *
  simp only [List.set_cons_succ, List.set_cons_zero] at hst
  by_cases c4 : x.fn = 0
  rotate_left; · simp -implicitDefEqProofs [hb, hc, hp, hst, x4, x5, abin_eql, c4]
  by_cases c5 : x.obj = 0
  rotate_left; · simp -implicitDefEqProofs [hb, hc, hp, hst, x4, x5, x6, x7, x8, x10, abin_eql, c4, c5]
  by_cases c6 : x.off = 0
  rotate_left; · simp -implicitDefEqProofs [hb, hc, hp, hst, x4, x5, x6, x7, x8, x10, abin_eql, c4, c5, c6]
  by_cases c7 : x.size = 0
  rotate_left; · simp -implicitDefEqProofs [hb, hc, hp, hst, x4, x5, x6, x7, x8, x10, abin_eql, c4, c5, c6, c7]
  by_cases c8 : x.num = 0
  rotate_left; · simp -implicitDefEqProofs [hb, hc, hp, hst, x4, x5, x6, x7, x8, x10, abin_eql, c4, c5, c6, c7, c8]
  cases hlog : x.log with
  | true => simp -implicitDefEqProofs [hb, hc, hp, hst, x4, x5, x6, x7, x8, x10, abin_eql, c4, c5, c6, c7, c8, hlog]
  | false =>
    by_cases c9 : i.op = 9
    · simp -implicitDefEqProofs [hb, hc, hp, hst, x4, x5, x6, x7, x8, x10, abin_eql, c4, c5, c6, c7, c8, hlog, h0, c9]
    · by_cases ca : (i.args.length : Int) = 0
      · have : i.args.length = 0 := by omega
        simp -implicitDefEqProofs [hb, hc, hp, hst, x4, x5, x6, x7, x8, x10, abin_eql, c4, c5, c6, c7, c8, hlog, h0, c9, h9, hl, ca, this]
      · have : ¬ i.args.length = 0 := by omega
        simp -implicitDefEqProofs [hb, hc, hp, hst, x4, x5, x6, x7, x8, x10, abin_eql, c4, c5, c6, c7, c8, hlog, h0, c9, h9, hl, ca, this]
theorem reg81 {m : Mdl} {p : Prc} {r : Int} {t : Bool} : evCall Tryd.prog C (d + 1) lim 44 [.agg ((lkD m p).map .d), vi r, vb t] H = some (vb (regOk p r t), H) := by
  rw [evCall_pureEq (fi := fi44) rfl rfl (b44 _ _ _ _ _ _), up_data]
  unfold s44
  have hb := bx_data (r := lkD m p) (A := []) (H := H)
  have h7 : (lkD m p)[7]? = some (.int .i64 p.regs) := rfl
  generalize lkD m p = R at *
  cases t with
  | false => simp -implicitDefEqProofs [hb, abin_eql, regOk]
  | true =>
    by_cases c : 0 ≤ r
    · simp -implicitDefEqProofs [hb, abin_geq, c, h7, abin_lss, regOk]
    · simp -implicitDefEqProofs [hb, abin_geq, c, regOk]
theorem block83 {m : Mdl} {p : Prc} {n : Int} : evCall Tryd.prog C (d + 1) lim 46 [.agg ((lkD m p).map .d), vi n] H = some (vb (blockOk p n), H) := by
  rw [evCall_pureEq (fi := fi46) rfl rfl (b46 _ _ _ _ _), up_data]
  unfold s46
  have hb := bx_data (r := lkD m p) (A := []) (H := H)
  have h9 : (lkD m p)[9]? = some (seqD p.bnl p.blks bD) := rfl
  have hl := seq_len p.bnl p.blks bD
  generalize lkD m p = R at *
  by_cases c : 0 ≤ n
  · simp -implicitDefEqProofs [hb, abin_geq, c, h9, hl, abin_lss, blockOk]
  · simp -implicitDefEqProofs [hb, abin_geq, c, blockOk]
theorem end74 {m : Mdl} {p : Prc} {b : Blk} : evCall Tryd.prog C (d + 2) lim 38 [.agg ((lkD m p).map .d), .agg ((bD b).map .d)] H = some (vb (endOk p b), H) := by
  rw [evCall_pureEq (fi := fi38) rfl rfl (b38 _ _ _ _ _), up_data, up_data]
  unfold s38
  have hb := bx_data (r := lkD m p) (A := []) (H := H)
  have hb2 := bx_data (r := bD b) (A := [some ((lkD m p).map .d)]) (H := H)
  have hc := cut_data (r := lkD m p) (n := 10) rfl
  have hr := fun (r : Int) (t : Bool) (H : Heap) => reg81 (d := d) (lim := 1) (H := H) (m := m) (p := p) (r := r) (t := t)
  have hk := fun (n : Int) (H : Heap) => block83 (d := d) (lim := 1) (H := H) (m := m) (p := p) (n := n)
  have h5 : (lkD m p)[5]? = some (.bool p.void) := rfl
  have x1 : (bD b)[1]? = some (.int .i64 b.fin) := rfl
  have x2 : (bD b)[2]? = some (.int .i64 b.a) := rfl
  have x3 : (bD b)[3]? = some (.int .i64 b.to) := rfl
  have x4 : (bD b)[4]? = some (.int .i64 b.els) := rfl
  generalize lkD m p = R at *
  generalize bD b = B at *
  unfold endOk
  by_cases e1 : b.fin = 1
  · cases k1 : blockOk p b.to with
    | false => simp -implicitDefEqProofs [hb, hb2, hc, hr, hk, h5, x1, x2, x3, x4, abin_eql, e1, k1]
    | true =>
      by_cases c2 : b.a = -1
      · simp -implicitDefEqProofs [hb, hb2, hc, hr, hk, h5, x1, x2, x3, x4, abin_eql, e1, k1, c2]
      · simp -implicitDefEqProofs [hb, hb2, hc, hr, hk, h5, x1, x2, x3, x4, abin_eql, e1, k1, c2]
  · by_cases e2 : b.fin = 2
    · cases k1 : blockOk p b.to with
      | false => simp -implicitDefEqProofs [hb, hb2, hc, hr, hk, h5, x1, x2, x3, x4, abin_eql, e2, k1]
      | true =>
        cases k2 : blockOk p b.els with
        | false => simp -implicitDefEqProofs [hb, hb2, hc, hr, hk, h5, x1, x2, x3, x4, abin_eql, e2, k1, k2]
        | true => simp -implicitDefEqProofs [hb, hb2, hc, hr, hk, h5, x1, x2, x3, x4, abin_eql, e2, k1, k2]
    · by_cases e3 : b.fin = 3
      · cases k1 : regOk p b.a (!p.void) with
        | false => simp -implicitDefEqProofs [hb, hb2, hc, hr, hk, h5, x1, x2, x3, x4, abin_eql, e3, k1]
        | true =>
          by_cases c2 : b.to = 0
          · simp -implicitDefEqProofs [hb, hb2, hc, hr, hk, h5, x1, x2, x3, x4, abin_eql, e3, k1, c2]
          · simp -implicitDefEqProofs [hb, hb2, hc, hr, hk, h5, x1, x2, x3, x4, abin_eql, e3, k1, c2]
      · simp -implicitDefEqProofs [hb, hb2, x1, abin_eql, e1, e2, e3]
end
end Go.Ev.Tryd

/- The checker's functions of calls and instructions. -/
set_option maxRecDepth 100000
namespace Go.Ev.Tryd
open Go Go.Ev Go.Proofs

def callOk (m : Mdl) (p : Prc) (i : Ins) : Bool :=
  bif decide (0 ≤ i.obj) && decide (i.obj < m.procs.length) then
    match m.procs[i.obj.toNat]? with
    | some t => decide ((i.args.length : Int) = t.params) && regOk p i.d (!t.void) && i.args.all fun r => regOk p r true
    | none => false
  else false
def offOk (n : Int) : Bool := decide (-32768 ≤ n) && decide (n ≤ 32768)
def outD (op : Int) : Bool := decide (op ≠ 6) && decide (op ≠ 10) && decide (op ≠ 12)
/-- What besides registers is asked of an operation. -/
def restOk (m : Mdl) (p : Prc) (i : Ins) : Bool :=
  bif decide (i.op = 3) then decide (1 ≤ i.fn) && decide (i.fn ≤ 16)
  else bif decide (i.op = 4) then decide (17 ≤ i.fn) && decide (i.fn ≤ 19)
  else bif decide (i.op = 5) || decide (i.op = 6) then (decide (i.size = 1) || decide (i.size = 4)) && offOk i.off
  else bif decide (i.op = 7) then decide (0 ≤ i.obj) && decide (i.obj < p.objs.length) && offOk i.off
  else bif decide (i.op = 8) then decide (0 ≤ i.obj) && decide (i.obj < m.globs.length) && offOk i.off
  else true
def insOk (m : Mdl) (p : Prc) (i : Ins) : Bool :=
  decide (1 ≤ i.op) && decide (i.op ≤ 12) && bareI i &&
    bif decide (i.op = 9) then callOk m p i && regOk p i.a false && regOk p i.b false
    else regOk p i.d (outD i.op) && regOk p i.a (hasA i.op) && regOk p i.b (hasB i.op) && restOk m p i
section
variable {d lim : Nat} {H : Heap}
theorem args80 {m : Mdl} {p : Prc} {nl : Bool} {l : List Int} (hn : l.length ≤ 1000000) {A : Arena} (hA : A[0]? = some (some ((lkD m p).map .d))) : iterN LB (s43.l0 (evCall Tryd.prog C (d + 1) 1) 1) [.ptr 0 0 0, .d (seqD nl l nD), vi l.length, vi 0] (A :: H) =
    some (if l.all (fun r => regOk p r true) then (.exit 0, [], A :: H) else (.ret, [vb false], A :: H)) := by
  have hr := fun (r : Int) (t : Bool) (H : Heap) => reg81 (d := d) (lim := 1) (H := H) (m := m) (p := p) (r := r) (t := t)
  have hc := cut_data (r := lkD m p) (n := 10) rfl
  generalize lkD m p = R at *
  have e := iter_any (F := s43.l0 (evCall Tryd.prog C (d + 1) 1) 1) (H := A :: H) (n := l.length) (fun k => [.ptr 0 0 0, .d (seqD nl l nD), vi l.length, vi k]) (fun k => !regOk p ((l[k]?).getD 0) true) (rv := (.ret, [vb false], A :: H)) (ex := (.exit 0, [], A :: H)) (by omega)
    (fun k hk hp => by
      obtain ⟨x, hx⟩ : ∃ x, l[k]? = some x := ⟨_, List.getElem?_eq_getElem hk⟩
      obtain ⟨q, hix, hld⟩ := seq_one (nl := nl) (f := fun n => D.int .i64 n) hx
      have hi : (k : Int) < l.length := by omega
      have w := wrap_ok ((k : Int) + 1) (by omega) (by omega)
      have hq : regOk p x true = true := by simpa [hx] using hp
      have hix' : ixS 1 (.d (seqD nl l nD)) (vi k) = some q := hix
      unfold s43.l0
      simp -implicitDefEqProofs [abin_lss, hi, hix', hld, hA, hc, hr, hq, abin_add, w])
    (fun k hk hp => by
      obtain ⟨x, hx⟩ : ∃ x, l[k]? = some x := ⟨_, List.getElem?_eq_getElem hk⟩
      obtain ⟨q, hix, hld⟩ := seq_one (nl := nl) (f := fun n => D.int .i64 n) hx
      have hi : (k : Int) < l.length := by omega
      have hq : regOk p x true = false := by simpa [hx] using hp
      have hix' : ixS 1 (.d (seqD nl l nD)) (vi k) = some q := hix
      unfold s43.l0
      simp -implicitDefEqProofs [abin_lss, hi, hix', hld, hA, hc, hr, hq]) (by simp)
    (by
      unfold s43.l0
      simp -implicitDefEqProofs [abin_lss]) (by simp)
  refine e.trans (congrArg some ?_)
  have : (List.range l.length).any (fun k => !regOk p ((l[k]?).getD 0) true) = !(l.all fun r => regOk p r true) := by
    rw [Bool.eq_iff_iff]
    simp only [List.any_eq_true, List.mem_range, Bool.not_eq_true', List.all_eq_false]
    constructor
    · rintro ⟨k, hk, h⟩
      rw [List.getElem?_eq_getElem hk] at h
      exact ⟨l[k], List.getElem_mem hk, by simpa using h⟩
    · rintro ⟨x, hx, h⟩
      obtain ⟨k, hk, rfl⟩ := List.getElem_of_mem hx
      exact ⟨k, hk, by rw [List.getElem?_eq_getElem hk]; simpa using h⟩
  rw [this]
  cases l.all fun r => regOk p r true <;> rfl
theorem call80 {m : Mdl} {p : Prc} {i : Ins} (hn : i.args.length ≤ 1000000) : evCall Tryd.prog C (d + 2) lim 43 [.agg ((lkD m p).map .d), .agg ((iD i).map .d)] H = some (vb (callOk m p i), H) := by
  rw [evCall_pureEq (fi := fi43) rfl rfl (b43 _ _ _ _ _), up_data, up_data]
  unfold s43
  have hb := bx_data (r := lkD m p) (A := []) (H := H)
  have hb2 := bx_data (r := iD i) (A := [some ((lkD m p).map .d)]) (H := H)
  have hc := cut_data (r := lkD m p) (n := 10) rfl
  have hr := fun (r : Int) (t : Bool) (H : Heap) => reg81 (d := d) (lim := 1) (H := H) (m := m) (p := p) (r := r) (t := t)
  have h2 : (lkD m p)[2]? = some (seqD m.pnl m.procs pD) := rfl
  have x1 : (iD i)[1]? = some (.int .i64 i.d) := rfl
  have x5 : (iD i)[5]? = some (.int .i64 i.obj) := rfl
  have x9 : (iD i)[9]? = some (seqD i.anl i.args nD) := rfl
  have hl := seq_len m.pnl m.procs pD
  have hl2 := seq_len i.anl i.args nD
  have hloop := fun (A : Arena) (hA : A[0]? = some (some ((lkD m p).map .d))) => args80 (d := d) (H := H) (m := m) (p := p) (nl := i.anl) hn hA
  generalize lkD m p = R at *
  generalize iD i = I at *
  unfold callOk
  by_cases c0 : i.obj < 0
  · simp -implicitDefEqProofs [hb, hb2, x5, abin_lss, c0]
    omega
  by_cases c1 : (m.procs.length : Int) ≤ i.obj
  · simp -implicitDefEqProofs [hb, hb2, x5, abin_lss, c0, h2, hl, abin_geq, c1]
    omega
  obtain ⟨n, hn2⟩ : ∃ n : Nat, i.obj = n := ⟨i.obj.toNat, by omega⟩
  have hlt : n < m.procs.length := by omega
  obtain ⟨t, ht⟩ : ∃ t, m.procs[n]? = some t := ⟨_, List.getElem?_eq_getElem hlt⟩
  obtain ⟨q, qs, rr⟩ := seq_row (nl := m.pnl) (f := pD) (s := 6) (fun _ => rfl) ht
  have hix := rr.ix
  have hall := rr.all
  have hst := stA_at (n := 6) (lim := 1) (A := [some (R.map .d), some (I.map .d), some [.d (.str ⟨#[]⟩), .d (.bool false), .d (.int .i64 0), .d (.int .i64 0), .d (.seq true 0 []), .d (.seq true 0 [])]]) (H := H) (i := 2)
    (cs := (pD t).map .d) _ (by decide) (all_leaf_d _) rfl rfl rfl
  have y1 : (pD t)[1]? = some (.bool t.void) := rfl
  have y2 : (pD t)[2]? = some (.int .i64 t.params) := rfl
  generalize pD t = T at *
  simp only [List.set_cons_succ, List.set_cons_zero] at hst
  rw [hn2] at x5 c0 c1 ⊢
  have g1 : (decide ((0 : Int) ≤ n) && decide ((n : Int) < m.procs.length)) = true := by simp; omega
  rw [g1, cond_true, Int.toNat_natCast, ht]
  have hloop := hloop [some (R.map .d), some (I.map .d), some (T.map .d)] rfl
  by_cases c2 : (i.args.length : Int) = t.params
  · cases k1 : regOk p i.d (!t.void) with
    | false => simp -implicitDefEqProofs [hb, hb2, x5, abin_lss, c0, h2, hl, abin_geq, c1, hix, hall, hst, x9, hl2, y2, abin_neq, c2, hc, x1, y1, hr, k1]
    | true =>
      rw [c2] at hloop hl2
      cases k2 : i.args.all (fun r => regOk p r true) with
      | false =>
        rw [k2, if_neg (by simp)] at hloop
        unfold lp
        simp -implicitDefEqProofs [hb, hb2, x5, abin_lss, c0, h2, hl, abin_geq, c1, hix, hall, hst, x9, hl2, y2, abin_neq, c2, hc, x1, y1, hr, k1, hloop, bnd_eq]
      | true =>
        rw [k2, if_pos rfl] at hloop
        unfold lp
        simp -implicitDefEqProofs [hb, hb2, x5, abin_lss, c0, h2, hl, abin_geq, c1, hix, hall, hst, x9, hl2, y2, abin_neq, c2, hc, x1, y1, hr, k1, hloop, bnd_eq]
  · simp -implicitDefEqProofs [hb, hb2, x5, abin_lss, c0, h2, hl, abin_geq, c1, hix, hall, hst, x9, hl2, y2, abin_neq, c2]
end
end Go.Ev.Tryd

/- The checker's instruction. -/
set_option maxRecDepth 100000
namespace Go.Ev.Tryd
open Go Go.Ev Go.Proofs
section
variable {d lim : Nat} {H : Heap}
set_option maxHeartbeats 8000000 in
theorem ins73 {m : Mdl} {p : Prc} {i : Ins} (hn : i.args.length ≤ 1000000) : evCall Tryd.prog C (d + 4) lim 37 [.agg ((lkD m p).map .d), .agg ((iD i).map .d)] H = some (vb (insOk m p i), H) := by
  rw [evCall_pureEq (fi := fi37) rfl rfl (b37 _ _ _ _ _), up_data, up_data]
  unfold s37
  have hb := bx_data (r := lkD m p) (A := []) (H := H)
  have hb2 := bx_data (r := iD i) (A := [some ((lkD m p).map .d)]) (H := H)
  have hc := cut_data (r := lkD m p) (n := 10) rfl
  have hc2 := cut_data (r := iD i) (n := 11) rfl
  have hr := fun (r : Int) (t : Bool) (H : Heap) => reg81 (d := d + 2) (lim := 1) (H := H) (m := m) (p := p) (r := r) (t := t)
  have hbare := fun H => bare79 (d := d) (lim := 1) (H := H) (i := i)
  have hcall := fun H => call80 (d := d + 1) (lim := 1) (H := H) (m := m) (p := p) (i := i) hn
  have hrd := fun H => reads78 (d := d + 2) (lim := 1) (H := H) (op := i.op)
  have hoff := fun H => off82 (d := d + 2) (lim := 1) (H := H) (n := i.off)
  have g0 : (lkD m p)[0]? = some (seqD m.gnl m.globs sD) := rfl
  have g8 : (lkD m p)[8]? = some (seqD p.onl p.objs sD) := rfl
  have hl0 := seq_len m.gnl m.globs sD
  have hl8 := seq_len p.onl p.objs sD
  have x0 : (iD i)[0]? = some (.int .i64 i.op) := rfl
  have x1 : (iD i)[1]? = some (.int .i64 i.d) := rfl
  have x2 : (iD i)[2]? = some (.int .i64 i.a) := rfl
  have x3 : (iD i)[3]? = some (.int .i64 i.b) := rfl
  have x4 : (iD i)[4]? = some (.int .i64 i.fn) := rfl
  have x5 : (iD i)[5]? = some (.int .i64 i.obj) := rfl
  have x6 : (iD i)[6]? = some (.int .i64 i.off) := rfl
  have x7 : (iD i)[7]? = some (.int .i64 i.size) := rfl
  have hD : ∀ op : Int, outD op = (decide (op ≠ 6) && decide (op ≠ 10) && decide (op ≠ 12)) := fun _ => rfl
  generalize lkD m p = R at *
  generalize iD i = I at *
  unfold insOk
  replace hoff : ∀ H, evCall Tryd.prog C (d + 3) 1 45 [vi i.off] H = some (vb (offOk i.off), H) := hoff
  by_cases c0 : i.op < 1
  · have e1 : decide (1 ≤ i.op) = false := by simpa using c0
    simp -implicitDefEqProofs [hb, hb2, x0, hrd, aextract, abin_neq, abin_lss, c0, e1, show i.op ≠ 6 by omega, show i.op ≠ 10 by omega, show i.op ≠ 12 by omega]
  by_cases c1 : 12 < i.op
  · have e1 : decide (i.op ≤ 12) = false := by simpa using c1
    simp -implicitDefEqProofs [hb, hb2, x0, hrd, aextract, abin_neq, abin_lss, c0, e1, abin_gtr, c1, show i.op ≠ 6 by omega, show i.op ≠ 10 by omega, show i.op ≠ 12 by omega]
  have q1 : decide (1 ≤ i.op) = true := by simp; omega
  have q2 : decide (i.op ≤ 12) = true := by simp; omega
  rw [q1, q2, Bool.true_and, Bool.true_and]
  have hop : i.op = 1 ∨ i.op = 2 ∨ i.op = 3 ∨ i.op = 4 ∨ i.op = 5 ∨ i.op = 6 ∨ i.op = 7 ∨ i.op = 8 ∨ i.op = 9 ∨ i.op = 10 ∨ i.op = 11 ∨ i.op = 12 := by omega
  cases hba : bareI i with
  | false =>
    rw [Bool.false_and]
    rcases hop with h | h | h | h | h | h | h | h | h | h | h | h <;> rw [h] at x0 hrd <;>
      simp -implicitDefEqProofs [hb, hb2, x0, hrd, aextract, abin_neq, abin_lss, abin_gtr, hc2, hbare, hba]
  | true =>
    rw [Bool.true_and]
    -- a call
    by_cases c9 : i.op = 9
    · rw [c9] at x0 hrd ⊢
      simp only [decide_true, cond_true]
      cases k0 : callOk m p i with
      | false => simp -implicitDefEqProofs [hb, hb2, x0, hrd, aextract, abin_neq, abin_lss, abin_gtr, hc2, hbare, hba, abin_eql, hc, hcall, k0]
      | true =>
        cases k1 : regOk p i.a false with
        | false => simp -implicitDefEqProofs [hb, hb2, x0, hrd, aextract, abin_neq, abin_lss, abin_gtr, hc2, hbare, hba, abin_eql, hc, hcall, k0, x2, hr, k1]
        | true => simp -implicitDefEqProofs [hb, hb2, x0, hrd, aextract, abin_neq, abin_lss, abin_gtr, hc2, hbare, hba, abin_eql, hc, hcall, k0, x2, hr, k1, x3]
    have n9 : decide (i.op = 9) = false := by simpa using c9
    rw [n9, cond_false]
    cases k1 : regOk p i.d (outD i.op) with
    | false =>
      rcases hop with h | h | h | h | h | h | h | h | h | h | h | h <;> (try exact absurd h c9) <;> rw [h] at x0 hrd k1 <;> simp only [hD] at k1 <;> simp at k1 <;>
        simp -implicitDefEqProofs [hb, hb2, x0, hrd, aextract, abin_neq, abin_lss, abin_gtr, hc2, hbare, hba, abin_eql, hc, x1, hr, k1]
    | true =>
      cases k2 : regOk p i.a (hasA i.op) with
      | false =>
        rcases hop with h | h | h | h | h | h | h | h | h | h | h | h <;> (try exact absurd h c9) <;> rw [h] at x0 hrd k1 k2 <;> simp only [hD] at k1 <;> simp at k1 <;>
          simp -implicitDefEqProofs [hb, hb2, x0, hrd, aextract, abin_neq, abin_lss, abin_gtr, hc2, hbare, hba, abin_eql, hc, x1, hr, k1, x2, k2]
      | true =>
        cases k3 : regOk p i.b (hasB i.op) with
        | false =>
          rcases hop with h | h | h | h | h | h | h | h | h | h | h | h <;> (try exact absurd h c9) <;> rw [h] at x0 hrd k1 k2 k3 <;> simp only [hD] at k1 <;> simp at k1 <;>
            simp -implicitDefEqProofs [hb, hb2, x0, hrd, aextract, abin_neq, abin_lss, abin_gtr, hc2, hbare, hba, abin_eql, hc, x1, hr, k1, x2, k2, x3, k3]
        | true =>
          simp only [Bool.true_and]
          have t1 := k1
          have t2 := k2
          have t3 := k3
          rcases hop with h | h | h | h | h | h | h | h | h | h | h | h <;> (try exact absurd h c9) <;> rw [h] at x0 hrd k1 k2 k3 <;> simp only [hD] at k1 <;> simp at k1 <;> unfold restOk <;> rw [h]
          · simp -implicitDefEqProofs [hb, hb2, x0, hrd, aextract, abin_neq, abin_lss, abin_gtr, hc2, hbare, hba, abin_eql, hc, x1, hr, k1, x2, k2, x3, k3]
          · simp -implicitDefEqProofs [hb, hb2, x0, hrd, aextract, abin_neq, abin_lss, abin_gtr, hc2, hbare, hba, abin_eql, hc, x1, hr, k1, x2, k2, x3, k3]
          · by_cases z : 1 ≤ i.fn
            · simp -implicitDefEqProofs [hb, hb2, x0, hrd, aextract, abin_neq, abin_lss, abin_gtr, hc2, hbare, hba, abin_eql, hc, x1, hr, k1, x2, k2, x3, k3, x4, abin_geq, abin_leq, z]
            · simp -implicitDefEqProofs [hb, hb2, x0, hrd, aextract, abin_neq, abin_lss, abin_gtr, hc2, hbare, hba, abin_eql, hc, x1, hr, k1, x2, k2, x3, k3, x4, abin_geq, abin_leq, z]
          · by_cases z : 17 ≤ i.fn
            · simp -implicitDefEqProofs [hb, hb2, x0, hrd, aextract, abin_neq, abin_lss, abin_gtr, hc2, hbare, hba, abin_eql, hc, x1, hr, k1, x2, k2, x3, k3, x4, abin_geq, abin_leq, z]
            · simp -implicitDefEqProofs [hb, hb2, x0, hrd, aextract, abin_neq, abin_lss, abin_gtr, hc2, hbare, hba, abin_eql, hc, x1, hr, k1, x2, k2, x3, k3, x4, abin_geq, abin_leq, z]
          · by_cases z : i.size = 1
            · simp -implicitDefEqProofs [hb, hb2, x0, hrd, aextract, abin_neq, abin_lss, abin_gtr, hc2, hbare, hba, abin_eql, hc, x1, hr, k1, x2, k2, x3, k3, x7, z, x6, hoff]
            · by_cases z4 : i.size = 4
              · simp -implicitDefEqProofs [hb, hb2, x0, hrd, aextract, abin_neq, abin_lss, abin_gtr, hc2, hbare, hba, abin_eql, hc, x1, hr, k1, x2, k2, x3, k3, x7, z4, x6, hoff]
              · simp -implicitDefEqProofs [hb, hb2, x0, hrd, aextract, abin_neq, abin_lss, abin_gtr, hc2, hbare, hba, abin_eql, hc, x1, hr, k1, x2, k2, x3, k3, x7, z, z4, x6, hoff]
          · by_cases z : i.size = 1
            · simp -implicitDefEqProofs [hb, hb2, x0, hrd, aextract, abin_neq, abin_lss, abin_gtr, hc2, hbare, hba, abin_eql, hc, x1, hr, k1, x2, k2, x3, k3, x7, z, x6, hoff]
            · by_cases z4 : i.size = 4
              · simp -implicitDefEqProofs [hb, hb2, x0, hrd, aextract, abin_neq, abin_lss, abin_gtr, hc2, hbare, hba, abin_eql, hc, x1, hr, k1, x2, k2, x3, k3, x7, z4, x6, hoff]
              · simp -implicitDefEqProofs [hb, hb2, x0, hrd, aextract, abin_neq, abin_lss, abin_gtr, hc2, hbare, hba, abin_eql, hc, x1, hr, k1, x2, k2, x3, k3, x7, z, z4, x6, hoff]
          · by_cases z : 0 ≤ i.obj
            · by_cases z1 : i.obj < p.objs.length
              · simp -implicitDefEqProofs [hb, hb2, x0, hrd, aextract, abin_neq, abin_lss, abin_gtr, hc2, hbare, hba, abin_eql, hc, x1, hr, k1, x2, k2, x3, k3, x5, x6, hoff, abin_geq, z, g8, hl8, z1]
              · simp -implicitDefEqProofs [hb, hb2, x0, hrd, aextract, abin_neq, abin_lss, abin_gtr, hc2, hbare, hba, abin_eql, hc, x1, hr, k1, x2, k2, x3, k3, x5, x6, hoff, abin_geq, z, g8, hl8, z1]
            · simp -implicitDefEqProofs [hb, hb2, x0, hrd, aextract, abin_neq, abin_lss, abin_gtr, hc2, hbare, hba, abin_eql, hc, x1, hr, k1, x2, k2, x3, k3, x5, x6, hoff, abin_geq, z, g8, hl8]
          · by_cases z : 0 ≤ i.obj
            · by_cases z1 : i.obj < m.globs.length
              · simp -implicitDefEqProofs [hb, hb2, x0, hrd, aextract, abin_neq, abin_lss, abin_gtr, hc2, hbare, hba, abin_eql, hc, x1, hr, k1, x2, k2, x3, k3, x5, x6, hoff, abin_geq, z, g0, hl0, z1]
              · simp -implicitDefEqProofs [hb, hb2, x0, hrd, aextract, abin_neq, abin_lss, abin_gtr, hc2, hbare, hba, abin_eql, hc, x1, hr, k1, x2, k2, x3, k3, x5, x6, hoff, abin_geq, z, g0, hl0, z1]
            · simp -implicitDefEqProofs [hb, hb2, x0, hrd, aextract, abin_neq, abin_lss, abin_gtr, hc2, hbare, hba, abin_eql, hc, x1, hr, k1, x2, k2, x3, k3, x5, x6, hoff, abin_geq, z, g0, hl0]
          · simp -implicitDefEqProofs [hb, hb2, x0, hrd, aextract, abin_neq, abin_lss, abin_gtr, hc2, hbare, hba, abin_eql, hc, x1, hr, k1, x2, k2, x3, k3]
          · simp -implicitDefEqProofs [hb, hb2, x0, hrd, aextract, abin_neq, abin_lss, abin_gtr, hc2, hbare, hba, abin_eql, hc, x1, hr, k1, x2, k2, x3, k3]
          · simp -implicitDefEqProofs [hb, hb2, x0, hrd, aextract, abin_neq, abin_lss, abin_gtr, hc2, hbare, hba, abin_eql, hc, x1, hr, k1, x2, k2, x3, k3]
end
end Go.Ev.Tryd

/- The checker's procedure. -/
set_option maxRecDepth 100000
namespace Go.Ev.Tryd
open Go Go.Ev Go.Proofs

/-- Not more than the statements go through. -/
structure FewP (p : Prc) : Prop where
  blks : p.blks.length ≤ 40
  objs : p.objs.length ≤ 20
  ins : ∀ b ∈ p.blks, b.ins.length ≤ 60
  args : ∀ b ∈ p.blks, ∀ i ∈ b.ins, i.args.length ≤ 12
def insSum : List Blk → Nat
  | [] => 0
  | b :: l => b.ins.length + insSum l
theorem insSum_le {l : List Blk} (h : ∀ b ∈ l, b.ins.length ≤ 60) : insSum l ≤ 60 * l.length := by
  induction l with
  | nil => simp [insSum]
  | cons b l ih =>
    have := h b (by simp)
    have := ih fun x hx => h x (by simp [hx])
    simp [insSum]
    omega
theorem insSum_take {l : List Blk} {k : Nat} {b : Blk} (hb : l[k]? = some b) : insSum (l.take (k + 1)) = insSum (l.take k) + b.ins.length := by
  induction l generalizing k with
  | nil => simp at hb
  | cons x l ih =>
    cases k with
    | zero => simp at hb; subst hb; simp [insSum]
    | succ k => simp at hb; simp [insSum, ih hb]; omega
def blkOk (m : Mdl) (p : Prc) (b : Blk) : Bool := b.ins.all (insOk m p) && endOk p b
def headOk (p : Prc) : Bool :=
  decide (0 ≤ p.params) && decide (p.params ≤ 6) && decide (p.params ≤ p.regs) && decide (p.regs ≤ 8000) && decide (1 ≤ p.blks.length) && p.objs.all slotOk
def procOk (m : Mdl) (p : Prc) : Bool := headOk p && p.blks.all (blkOk m p)
def zI : List AV := [.d (.int .i64 0), .d (.int .i64 0), .d (.int .i64 0), .d (.int .i64 0), .d (.int .i64 0), .d (.int .i64 0), .d (.int .i64 0), .d (.int .i64 0), .d (.int .u32 0), .d (.seq true 0 []), .d (.bool false)]
section
variable {d lim : Nat} {H : Heap}
theorem size72 {p : Prc} (hF : FewP p) : evCall Tryd.prog C (d + 1) lim 15 [.agg ((pD p).map .d)] H = some (vi ((p.blks.length : Int) + insSum p.blks), H) := by
  rw [evCall_pureEq (fi := fi15) rfl rfl (b15 _ _ _ _), up_data]
  unfold s15
  have hb := bx_data (r := pD p) (A := []) (H := H)
  have h5 : (pD p)[5]? = some (seqD p.bnl p.blks bD) := rfl
  have hl := seq_len p.bnl p.blks bD
  generalize pD p = R at *
  have h40 := hF.blks
  have key : ∀ call : ACall, Gives (iterN LB (s15.l0 call 1) [vi p.blks.length, .d (seqD p.bnl p.blks bD), vi p.blks.length, vi 0] ([some (R.map .d)] :: H)) (fun r => ∃ A, r = (.exit 0, [vi ((p.blks.length : Int) + insSum p.blks)], A :: H)) := by
    intro call
    refine iter_gives (Inv := fun k s H' => ∃ A, s = [vi ((p.blks.length : Int) + insSum (p.blks.take k)), .d (seqD p.bnl p.blks bD), vi p.blks.length, vi k] ∧ H' = A :: H) p.blks.length (big_lt (by omega)) (fun k hk s H' h => ?_) ⟨_, by simp [insSum], rfl⟩
    obtain ⟨A, rfl, rfl⟩ := h
    rcases Nat.lt_or_ge k p.blks.length with hlt | hge
    · left
      obtain ⟨b, hb⟩ : ∃ b, p.blks[k]? = some b := ⟨_, List.getElem?_eq_getElem hlt⟩
      obtain ⟨q, qs, rr⟩ := seq_row (nl := p.bnl) (f := bD) (s := 5) (fun _ => rfl) hb
      have hi : (k : Int) < p.blks.length := by omega
      have hix := rr.ix
      have hall := rr.all
      have hst := stA_new (n := 5) (lim := 1) (A := A) (H := H) (cs := (bD b).map .d) (c := [.d (.seq true 0 []), .d (.int .i64 0), .d (.int .i64 0), .d (.int .i64 0), .d (.int .i64 0)]) (by decide) (all_leaf_d _) rfl rfl
      have y0 : (bD b)[0]? = some (seqD b.inl b.ins iD) := rfl
      have hl2 := seq_len b.inl b.ins iD
      generalize bD b = B at *
      have w := wrap_ok ((k : Int) + 1) (by omega) (by omega)
      have hs := insSum_take hb
      have hle := insSum_le (l := p.blks.take (k + 1)) fun x hx => hF.ins x (List.mem_of_mem_take hx)
      rw [List.length_take] at hle
      have w2 := wrap_ok ((p.blks.length : Int) + (insSum (p.blks.take k) : Nat) + b.ins.length) (by omega) (by omega)
      refine ⟨[vi ((p.blks.length : Int) + insSum (p.blks.take (k + 1))), .d (seqD p.bnl p.blks bD), vi p.blks.length, vi (k + 1 : Nat)], (A ++ [some (B.map .d)]) :: H, hlt, ?_, _, rfl, rfl⟩
      unfold s15.l0
      rw [hs]
      simp -implicitDefEqProofs [abin_lss, hi, hix, hall, hst, y0, hl2, abin_add, w, w2]
      omega
    · right
      obtain rfl : k = p.blks.length := by omega
      refine ⟨(.exit 0, [vi ((p.blks.length : Int) + insSum p.blks)], A :: H), ?_, by simp, _, rfl⟩
      unfold s15.l0
      simp -implicitDefEqProofs [abin_lss]
  obtain ⟨r, hr, A, rfl⟩ := key (evCall Tryd.prog C d 1)
  unfold lp
  simp -implicitDefEqProofs [hb, h5, hl, hr, bnd_eq]

theorem ins60 {m : Mdl} {p : Prc} {nl : Bool} {l : List Ins} (hn : l.length ≤ 60) (ha : ∀ i ∈ l, i.args.length ≤ 12) {A : Arena} (hA : A[0]? = some (some ((lkD m p).map .d))) (pb X N K : AV) :
    Gives (iterN LB (s26.l0 (evCall Tryd.prog C (d + 4) 1) 1) [.ptr 0 0 0, pb, X, N, K, .d (seqD nl l iD), vi l.length, vi 0] (A :: H)) (fun r => ∃ B, (l.all (insOk m p) = true ∧ r = (.exit 2, [.ptr 0 0 0, pb, X, N, K], (A ++ B) :: H)) ∨ (l.all (insOk m p) = false ∧ r = (.ret, [vb false], (A ++ B) :: H))) := by
  have hins := fun (i : Ins) (hi : i.args.length ≤ 1000000) (H : Heap) => ins73 (d := d) (lim := 1) (H := H) (m := m) (p := p) (i := i) hi
  have hc := cut_data (r := lkD m p) (n := 10) rfl
  generalize lkD m p = R at *
  refine iter_gives (Inv := fun k s H' => ∃ B, s = [.ptr 0 0 0, pb, X, N, K, .d (seqD nl l iD), vi l.length, vi k] ∧ H' = (A ++ B) :: H ∧ ∀ j i, j < k → l[j]? = some i → insOk m p i = true) l.length (big_lt (by omega)) (fun k hk s H' h => ?_) ⟨[], rfl, by simp, fun j i hj => by omega⟩
  obtain ⟨B, rfl, rfl, hp⟩ := h
  have hA' : (A ++ B)[0]? = some (some (R.map .d)) := by
    rw [List.getElem?_append_left (List.getElem?_eq_some_iff.1 hA).1]
    exact hA
  rcases Nat.lt_or_ge k l.length with hlt | hge
  · obtain ⟨i, hi'⟩ : ∃ i, l[k]? = some i := ⟨_, List.getElem?_eq_getElem hlt⟩
    obtain ⟨q, qs, rr⟩ := seq_row (nl := nl) (f := iD) (s := 11) (fun _ => rfl) hi'
    have hi : (k : Int) < l.length := by omega
    have hix := rr.ix
    have hall := rr.all
    have hst := stA_new (n := 11) (lim := 1) (A := A ++ B) (H := H) (cs := (iD i).map .d) (c := zI) (by decide) (all_leaf_d _) rfl rfl
    unfold zI at hst
    have hc2 := cut_data (r := iD i) (n := 11) rfl
    have w := wrap_ok ((k : Int) + 1) (by omega) (by omega)
    have hcall := hins i (by have := ha i (List.mem_of_getElem? hi'); omega)
    generalize iD i = I at *
    have hB0 : (A ++ B ++ [some (I.map .d)])[0]? = some (some (R.map .d)) := by
      rw [List.getElem?_append_left (List.getElem?_eq_some_iff.1 hA').1]
      exact hA'
    have hBn : (A ++ B ++ [some (I.map .d)])[(A ++ B).length]? = some (some (I.map .d)) := by simp
    generalize hAB : A ++ B = AB at *
    generalize hE : AB ++ [some (I.map .d)] = E at *
    cases hok : insOk m p i with
    | true =>
      left
      refine ⟨[.ptr 0 0 0, pb, X, N, K, .d (seqD nl l iD), vi l.length, vi (k + 1 : Nat)], E :: H, hlt, ?_, B ++ [some (I.map .d)], rfl, ?_, fun j x hj hx => ?_⟩
      · unfold s26.l0
        simp -implicitDefEqProofs [abin_lss, hi, hix, hall, hst, hB0, hBn, hc, hc2, hcall, hok, abin_add, w, hE]
      · rw [← List.append_assoc, hAB, hE]
      · rcases Nat.lt_succ_iff_lt_or_eq.1 hj with h | rfl
        · exact hp j x h hx
        · rw [hi'] at hx; cases hx; exact hok
    | false =>
      right
      refine ⟨(.ret, [vb false], E :: H), ?_, by simp, B ++ [some (I.map .d)], .inr ⟨?_, ?_⟩⟩
      · unfold s26.l0
        simp -implicitDefEqProofs [abin_lss, hi, hix, hall, hst, hB0, hBn, hc, hc2, hcall, hok, hE]
      · rw [List.all_eq_false]
        exact ⟨i, List.mem_of_getElem? hi', by simp [hok]⟩
      · rw [← List.append_assoc, hAB, hE]
  · right
    obtain rfl : k = l.length := by omega
    refine ⟨(.exit 2, [.ptr 0 0 0, pb, X, N, K], (A ++ B) :: H), ?_, by simp, B, .inl ⟨?_, rfl⟩⟩
    · unfold s26.l0
      simp -implicitDefEqProofs [abin_lss]
    · rw [List.all_eq_true]
      intro s hs
      obtain ⟨j, hj, he⟩ := List.getElem_of_mem hs
      exact hp j s hj (by rw [List.getElem?_eq_getElem hj, he])
end
end Go.Ev.Tryd

/- The checker's procedure: all of it. -/
set_option maxRecDepth 100000
namespace Go.Ev.Tryd
open Go Go.Ev Go.Proofs
section
variable {d lim : Nat} {H : Heap}
theorem blks60 {m : Mdl} {p : Prc} (hF : FewP p) {A : Arena} (hA : A[0]? = some (some ((lkD m p).map .d))) :
    Gives (iterN LB (s26.l1 (evCall Tryd.prog C (d + 4) 1) 1) [.ptr 0 0 0, .d (seqD p.bnl p.blks bD), vi p.blks.length, vi 0] (A :: H)) (fun r => ∃ B, (p.blks.all (blkOk m p) = true ∧ r = (.exit 0, [], (A ++ B) :: H)) ∨ (p.blks.all (blkOk m p) = false ∧ r = (.ret, [vb false], (A ++ B) :: H))) := by
  have hend := fun (b : Blk) (H : Heap) => end74 (d := d + 2) (lim := 1) (H := H) (m := m) (p := p) (b := b)
  have hc := cut_data (r := lkD m p) (n := 10) rfl
  have hins := fun (nl : Bool) (l : List Ins) (hn : l.length ≤ 60) (ha : ∀ i ∈ l, i.args.length ≤ 12) (E : Arena) (hE : E[0]? = some (some ((lkD m p).map .d))) => ins60 (d := d) (H := H) (m := m) (p := p) (nl := nl) hn ha hE
  generalize lkD m p = R at *
  have h40 := hF.blks
  refine iter_gives (Inv := fun k s H' => ∃ B, s = [.ptr 0 0 0, .d (seqD p.bnl p.blks bD), vi p.blks.length, vi k] ∧ H' = (A ++ B) :: H ∧ ∀ j b, j < k → p.blks[j]? = some b → blkOk m p b = true) p.blks.length (big_lt (by omega)) (fun k hk s H' h => ?_) ⟨[], rfl, by simp, fun j i hj => by omega⟩
  obtain ⟨B, rfl, rfl, hp⟩ := h
  have hA' : (A ++ B)[0]? = some (some (R.map .d)) := by
    rw [List.getElem?_append_left (List.getElem?_eq_some_iff.1 hA).1]
    exact hA
  rcases Nat.lt_or_ge k p.blks.length with hlt | hge
  · obtain ⟨b, hb⟩ : ∃ b, p.blks[k]? = some b := ⟨_, List.getElem?_eq_getElem hlt⟩
    have hmem := List.mem_of_getElem? hb
    obtain ⟨q, qs, rr⟩ := seq_row (nl := p.bnl) (f := bD) (s := 5) (fun _ => rfl) hb
    have hi : (k : Int) < p.blks.length := by omega
    have hix := rr.ix
    have hall := rr.all
    have hst := stA_new (n := 5) (lim := 1) (A := A ++ B) (H := H) (cs := (bD b).map .d) (c := [.d (.seq true 0 []), .d (.int .i64 0), .d (.int .i64 0), .d (.int .i64 0), .d (.int .i64 0)]) (by decide) (all_leaf_d _) rfl rfl
    have hc5 := cut_data (r := bD b) (n := 5) rfl
    have y0 : (bD b)[0]? = some (seqD b.inl b.ins iD) := rfl
    have hl2 := seq_len b.inl b.ins iD
    have w := wrap_ok ((k : Int) + 1) (by omega) (by omega)
    have he := hend b
    generalize bD b = BB at *
    have hB0 : (A ++ B ++ [some (BB.map .d)])[0]? = some (some (R.map .d)) := by
      rw [List.getElem?_append_left (List.getElem?_eq_some_iff.1 hA').1]
      exact hA'
    have hBn : (A ++ B ++ [some (BB.map .d)])[(A ++ B).length]? = some (some (BB.map .d)) := by simp
    obtain ⟨r, hr, B', hcase⟩ := hins b.inl b.ins (hF.ins b hmem) (hF.args b hmem) _ hB0 (.ptr 0 (A ++ B).length 0) (.d (seqD p.bnl p.blks bD)) (vi p.blks.length) (vi k)
    have hE : A ++ B ++ [some (BB.map .d)] ++ B' = A ++ (B ++ [some (BB.map .d)] ++ B') := by simp [List.append_assoc]
    have hC0 : (A ++ B ++ [some (BB.map .d)] ++ B')[0]? = some (some (R.map .d)) := by
      rw [List.getElem?_append_left (List.getElem?_eq_some_iff.1 hB0).1]
      exact hB0
    have hCn : (A ++ B ++ [some (BB.map .d)] ++ B')[(A ++ B).length]? = some (some (BB.map .d)) := by
      rw [List.getElem?_append_left (List.getElem?_eq_some_iff.1 hBn).1]
      exact hBn
    generalize hF1 : A ++ B ++ [some (BB.map .d)] ++ B' = F at *
    generalize hE1 : A ++ B ++ [some (BB.map .d)] = E at *
    generalize hAB : A ++ B = AB at *
    have hgo : ∀ r', s26.l1 (evCall Tryd.prog C (d + 4) 1) 1 [.ptr 0 0 0, .d (seqD p.bnl p.blks bD), vi p.blks.length, vi k] (AB :: H) = r' ↔
        (match r with
          | (.exit 2, _, _) => (if endOk p b then some (.normal, [.ptr 0 0 0, .d (seqD p.bnl p.blks bD), vi p.blks.length, vi (k + 1 : Nat)], F :: H) else some (.ret, [vb false], F :: H))
          | _ => some (.ret, [vb false], F :: H)) = r' := by
      intro r'
      unfold s26.l1 lp
      rcases hcase with ⟨_, rfl⟩ | ⟨_, rfl⟩
      · cases hk2 : endOk p b with
        | true => simp -implicitDefEqProofs [abin_lss, hi, hix, hall, hst, hB0, hBn, y0, hl2, hE1, hr, bnd_eq, hC0, hCn, hc, hc5, he, hk2, abin_add, w]
        | false => simp -implicitDefEqProofs [abin_lss, hi, hix, hall, hst, hB0, hBn, y0, hl2, hE1, hr, bnd_eq, hC0, hCn, hc, hc5, he, hk2]
      · simp -implicitDefEqProofs [abin_lss, hi, hix, hall, hst, hB0, hBn, y0, hl2, hE1, hr, bnd_eq]
    have hgo := (hgo _).2 rfl
    rcases hcase with ⟨h1, rfl⟩ | ⟨h1, rfl⟩
    · cases hk2 : endOk p b with
      | true =>
        simp only [hk2, if_true] at hgo
        left
        refine ⟨_, _, hlt, hgo, B ++ [some (BB.map .d)] ++ B', rfl, by rw [hE], fun j x hj hx => ?_⟩
        rcases Nat.lt_succ_iff_lt_or_eq.1 hj with h | rfl
        · exact hp j x h hx
        · rw [hb] at hx; cases hx; simp [blkOk, h1, hk2]
      | false =>
        simp only [hk2, Bool.false_eq_true, if_false] at hgo
        right
        refine ⟨_, hgo, by simp, B ++ [some (BB.map .d)] ++ B', .inr ⟨?_, by rw [hE]⟩⟩
        rw [List.all_eq_false]
        exact ⟨b, hmem, by simp [blkOk, hk2]⟩
    · right
      refine ⟨_, hgo, by simp, B ++ [some (BB.map .d)] ++ B', .inr ⟨?_, by rw [hE]⟩⟩
      rw [List.all_eq_false]
      exact ⟨b, hmem, by simp [blkOk, h1]⟩
  · right
    obtain rfl : k = p.blks.length := by omega
    refine ⟨(.exit 0, [], (A ++ B) :: H), ?_, by simp, B, .inl ⟨?_, rfl⟩⟩
    · unfold s26.l1
      simp -implicitDefEqProofs [abin_lss]
    · rw [List.all_eq_true]
      intro s hs
      obtain ⟨j, hj, he⟩ := List.getElem_of_mem hs
      exact hp j s hj (by rw [List.getElem?_eq_getElem hj, he])
end
end Go.Ev.Tryd

/- The checker's procedure, and what Proc answers. -/
set_option maxRecDepth 100000
namespace Go.Ev.Tryd
open Go Go.Ev Go.Proofs
theorem lk_cut (m : Mdl) (p : Prc) : cut ((lkD m p).map AV.d) 4 6 = some ((pD p).map AV.d) := rfl
section
variable {d lim : Nat} {H : Heap}
set_option maxHeartbeats 4000000 in
theorem proc60 {m : Mdl} {p : Prc} (hF : FewP p) : evCall Tryd.prog C (d + 5) lim 26 [.agg ((lkD m p).map .d)] H = some (vb (procOk m p), H) := by
  rw [evCall_pureEq (fi := fi26) rfl rfl (b26 _ _ _ _), up_data]
  unfold s26
  have hb := bx_data (r := lkD m p) (A := []) (H := H)
  have hc := lk_cut m p
  have hc6 := cut_data (r := pD p) (n := 6) rfl
  have hst := stA_at (n := 6) (lim := 1) (A := [some ((lkD m p).map .d), some [.d (.str ⟨#[]⟩), .d (.bool false), .d (.int .i64 0), .d (.int .i64 0), .d (.seq true 0 []), .d (.seq true 0 [])]]) (H := H) (i := 1)
    (cs := (pD p).map .d) _ (by decide) (all_leaf_d _) rfl rfl rfl
  have hloop := blks60 (d := d) (H := H) (m := m) (p := p) hF (A := [some ((lkD m p).map .d), some ((pD p).map .d)]) rfl
  have hsz := fun H => size72 (d := d + 3) (lim := 1) (H := H) (p := p) hF
  have hsl := fun H => slots37 (d := d + 3) (lim := 1) (H := H) (nl := p.onl) (L := p.objs) (by have := hF.objs; omega)
  have y2 : (pD p)[2]? = some (.int .i64 p.params) := rfl
  have y3 : (pD p)[3]? = some (.int .i64 p.regs) := rfl
  have y4 : (pD p)[4]? = some (seqD p.onl p.objs sD) := rfl
  have y5 : (pD p)[5]? = some (seqD p.bnl p.blks bD) := rfl
  have hlo := seq_len p.onl p.objs sD
  have hlb := seq_len p.bnl p.blks bD
  generalize lkD m p = R at *
  generalize pD p = P at *
  simp only [List.set_cons_succ, List.set_cons_zero] at hst
  have h40 := hF.blks
  have h20 := hF.objs
  have hsum := insSum_le hF.ins
  have n1 : ¬ (400 : Int) < p.objs.length := by omega
  have n2 : ¬ (4000 : Int) < p.blks.length := by omega
  have w := wrap_ok ((p.blks.length : Int) + insSum p.blks - p.blks.length) (by omega) (by omega)
  have n3 : ¬ (20000 : Int) < (p.blks.length : Int) + insSum p.blks - p.blks.length := by omega
  unfold procOk headOk
  by_cases c1 : p.params < 0
  · simp -implicitDefEqProofs [hb, hc, hst, y2, abin_lss, c1, Int.not_le.2 c1]
  by_cases c2 : 6 < p.params
  · simp -implicitDefEqProofs [hb, hc, hst, y2, abin_lss, c1, abin_gtr, c2, Int.not_le.2 c2]
  by_cases c3 : p.regs < p.params
  · simp -implicitDefEqProofs [hb, hc, hst, y2, abin_lss, c1, abin_gtr, c2, y3, c3, Int.not_le.2 c3]
  by_cases c4 : 8000 < p.regs
  · simp -implicitDefEqProofs [hb, hc, hst, y2, abin_lss, c1, abin_gtr, c2, y3, c3, c4, Int.not_le.2 c4]
  by_cases c5 : (p.blks.length : Int) < 1
  · have c5' : ¬ 1 ≤ p.blks.length := by omega
    simp -implicitDefEqProofs [hb, hc, hst, y2, abin_lss, c1, abin_gtr, c2, y3, c3, c4, y4, hlo, n1, y5, hlb, c5, c5']
  have g : (decide (0 ≤ p.params) && decide (p.params ≤ 6) && decide (p.params ≤ p.regs) && decide (p.regs ≤ 8000) && decide (1 ≤ p.blks.length)) = true := by
    simp
    omega
  rw [g, Bool.true_and]
  cases c6 : p.objs.all slotOk with
  | false => simp -implicitDefEqProofs [hb, hc, hst, y2, abin_lss, c1, abin_gtr, c2, y3, c3, c4, y4, hlo, n1, y5, hlb, c5, n2, hsl, c6]
  | true =>
    rw [Bool.true_and]
    obtain ⟨r, hr, B, hcase⟩ := hloop
    unfold lp
    rcases hcase with ⟨h1, rfl⟩ | ⟨h1, rfl⟩
    · simp -implicitDefEqProofs [hb, hc, hc6, hst, y2, abin_lss, c1, abin_gtr, c2, y3, c3, c4, y4, hlo, n1, y5, hlb, c5, n2, hsl, c6, hsz, abin_sub, w, n3, hr, bnd_eq, h1]
    · simp -implicitDefEqProofs [hb, hc, hc6, hst, y2, abin_lss, c1, abin_gtr, c2, y3, c3, c4, y4, hlo, n1, y5, hlb, c5, n2, hsl, c6, hsz, abin_sub, w, n3, hr, bnd_eq, h1]
/-- What is wrong with a procedure. -/
def procE (m : Mdl) (n : Int) : Int :=
  bif decide (0 ≤ n) && decide (n < m.procs.length) then
    match m.procs[n.toNat]? with
    | some p => bif procOk m p then 0 else 3
    | none => 4
  else 4
/-- Not more than the statements go through. -/
structure FewM (m : Mdl) : Prop where
  procs : m.procs.length ≤ 6
  globs : m.globs.length ≤ 20
  datas : m.datas.length ≤ 20
  each : ∀ p ∈ m.procs, FewP p
theorem bld38 (m : Mdl) (p : Prc) : bld [(0, 4), (4, 6)] [.d (.seq true 0 []), .d (.seq true 0 []), .d (.seq true 0 []), .d (.int .i64 0), .d (.str ⟨#[]⟩), .d (.bool false), .d (.int .i64 0), .d (.int .i64 0), .d (.seq true 0 []), .d (.seq true 0 [])]
    [(0, .agg ((mD m).map .d)), (1, .agg ((pD p).map .d))] = some (.agg ((lkD m p).map .d)) := by kernel_rfl
theorem proc38 {m : Mdl} (hF : FewM m) {n : Int} : evCall Tryd.prog C (d + 6) lim 10 [.agg ((mD m).map .d), vi n] H = some (vi (procE m n), H) := by
  rw [evCall_pureEq (fi := fi10) rfl rfl (b10 _ _ _ _ _), up_data]
  unfold s10
  have hb := bx_data (r := mD m) (A := []) (H := H)
  have hc := cut_data (r := mD m) (n := 4) rfl
  have h2 : (mD m)[2]? = some (seqD m.pnl m.procs pD) := rfl
  have hl := seq_len m.pnl m.procs pD
  have hbl := bld38 m
  generalize mD m = R at *
  unfold procE
  by_cases c0 : n < 0
  · simp -implicitDefEqProofs [hb, abin_lss, c0, Int.not_le.2 c0]
  by_cases c1 : (m.procs.length : Int) ≤ n
  · simp -implicitDefEqProofs [hb, abin_lss, c0, h2, hl, abin_geq, c1, Int.not_lt.2 c1]
  obtain ⟨k, rfl⟩ : ∃ k : Nat, n = k := ⟨n.toNat, by omega⟩
  have hlt : k < m.procs.length := by omega
  obtain ⟨p, hp⟩ : ∃ p, m.procs[k]? = some p := ⟨_, List.getElem?_eq_getElem hlt⟩
  obtain ⟨q, qs, rr⟩ := seq_row (nl := m.pnl) (f := pD) (s := 6) (fun _ => rfl) hp
  have hix := rr.ix
  have hall := rr.all
  have hpr := fun H => proc60 (d := d) (lim := 1) (H := H) (m := m) (p := p) (hF.each p (List.mem_of_getElem? hp))
  have g1 : (decide ((0 : Int) ≤ k) && decide ((k : Int) < m.procs.length)) = true := by simp; omega
  rw [g1, cond_true, Int.toNat_natCast, hp]
  cases hk : procOk m p with
  | true => simp -implicitDefEqProofs [hb, abin_lss, c0, h2, hl, abin_geq, c1, hc, hix, hall, hbl, hpr, hk]
  | false => simp -implicitDefEqProofs [hb, abin_lss, c0, h2, hl, abin_geq, c1, hc, hix, hall, hbl, hpr, hk]
end
end Go.Ev.Tryd

/- The checker: what is wrong with a module. -/
set_option maxRecDepth 100000
namespace Go.Ev.Tryd
open Go Go.Ev Go.Proofs
def dataLen (m : Mdl) (k : Nat) : Int := ((m.datas[k]?).map fun x => (x.2.length : Int)).getD 0
def dataOk (m : Mdl) (k : Nat) : Bool := decide (dataLen m k = sizeAt m.globs k)
def mainOk (m : Mdl) : Bool :=
  match m.procs[m.main.toNat]? with
  | some p => decide (p.params = 0) && !p.void
  | none => false
def topOk (m : Mdl) : Bool := decide (m.datas.length = m.globs.length) && m.globs.all slotOk && decide (1 ≤ m.procs.length) && decide (0 ≤ m.main) && decide (m.main < m.procs.length)
def modOk (m : Mdl) : Bool :=
  topOk m && !((List.range m.datas.length).any fun k => !dataOk m k) && mainOk m && !((List.range m.procs.length).any fun k => !decide (procE m k = 0))
def modE (m : Mdl) : Int := bif modOk m then 0 else 3
section
variable {d lim : Nat} {H : Heap}
theorem datas18 {m : Mdl} (hF : FewM m) (he : m.datas.length = m.globs.length) {call : ACall} {A : Arena} (hA : A[0]? = some (some ((mD m).map .d))) :
    iterN LB (s8.l0 call 1) [.ptr 0 0 0, .d (seqD m.dnl m.datas yD), vi m.datas.length, vi 0] (A :: H) = some (if (List.range m.datas.length).any (fun k => !dataOk m k) then (.ret, [vi 3], A :: H) else (.exit 0, [.ptr 0 0 0], A :: H)) := by
  have h0 : (mD m)[0]? = some (seqD m.gnl m.globs sD) := rfl
  generalize mD m = R at *
  have h20 := hF.datas
  have key : ∀ k, k < m.datas.length → ∃ (x : Bool × List Int) (s : Slt) (q p : AV) (ps : Nat → AV), m.datas[k]? = some x ∧ m.globs[k]? = some s ∧ ixS 1 (.d (seqD m.dnl m.datas yD)) (vi k) = some q ∧ (∀ H, ld H q = some (.d (seqD x.1 x.2 byD))) ∧
      ixS 4 (.d (seqD m.gnl m.globs sD)) (vi k) = some p ∧ fa 1 p = some (ps 1) ∧ ∀ H, ld H (ps 1) = some (vi s.size) := by
    intro k hk
    obtain ⟨x, hx⟩ : ∃ x, m.datas[k]? = some x := ⟨_, List.getElem?_eq_getElem hk⟩
    obtain ⟨s, hs⟩ : ∃ s, m.globs[k]? = some s := ⟨_, List.getElem?_eq_getElem (by omega)⟩
    obtain ⟨q, h1, h2⟩ := seq_one (nl := m.dnl) (f := fun x : Bool × List Int => seqD x.1 x.2 byD) hx
    obtain ⟨p, ps, rr⟩ := seq_row (nl := m.gnl) (f := sD) (s := 4) (fun _ => rfl) hs
    exact ⟨x, s, q, p, ps, hx, hs, h1, h2, rr.ix, rr.fa 1, fun H => rr.cell H 1 _ rfl⟩
  refine iter_any (n := m.datas.length) (fun k => [.ptr 0 0 0, .d (seqD m.dnl m.datas yD), vi m.datas.length, vi k]) (fun k => !dataOk m k) (by omega) (fun k hk hp => ?_) (fun k hk hp => ?_) (by simp) ?_ (by simp)
  · obtain ⟨x, s, q, p, ps, hx, hs, h1, h2, h3, h4, h5⟩ := key k hk
    have hi : (k : Int) < m.datas.length := by omega
    have hl := seq_len x.1 x.2 byD
    have w := wrap_ok ((k : Int) + 1) (by omega) (by omega)
    have hq : (x.2.length : Int) = s.size := by simpa [dataOk, dataLen, hx, sizeAt_eq hs] using hp
    unfold s8.l0
    simp -implicitDefEqProofs [abin_lss, hi, h1, h2, hl, hA, h0, h3, h4, h5, abin_neq, hq, abin_add, w]
  · obtain ⟨x, s, q, p, ps, hx, hs, h1, h2, h3, h4, h5⟩ := key k hk
    have hi : (k : Int) < m.datas.length := by omega
    have hl := seq_len x.1 x.2 byD
    have hq : ¬ (x.2.length : Int) = s.size := by simpa [dataOk, dataLen, hx, sizeAt_eq hs] using hp
    unfold s8.l0
    simp -implicitDefEqProofs [abin_lss, hi, h1, h2, hl, hA, h0, h3, h4, h5, abin_neq, hq]
  · unfold s8.l0
    simp -implicitDefEqProofs [abin_lss]
theorem procs18 {m : Mdl} (hF : FewM m) {A : Arena} (hA : A[0]? = some (some ((mD m).map .d))) :
    iterN LB (s8.l1 (evCall Tryd.prog C (d + 6) 1) 1) [.ptr 0 0 0, vi m.procs.length, vi 0] (A :: H) = some (if (List.range m.procs.length).any (fun k => !decide (procE m k = 0)) then (.ret, [vi 3], A :: H) else (.exit 2, [], A :: H)) := by
  have hpr := fun (n : Int) (H : Heap) => proc38 (d := d) (lim := 1) (H := H) (m := m) hF (n := n)
  have hc := cut_data (r := mD m) (n := 4) rfl
  generalize mD m = R at *
  have h6 := hF.procs
  refine iter_any (n := m.procs.length) (fun k => [.ptr 0 0 0, vi m.procs.length, vi k]) (fun k => !decide (procE m k = 0)) (by omega) (fun k hk hp => ?_) (fun k hk hp => ?_) (by simp) ?_ (by simp)
  · have hi : (k : Int) < m.procs.length := by omega
    have w := wrap_ok ((k : Int) + 1) (by omega) (by omega)
    have hq : procE m k = 0 := by simpa using hp
    unfold s8.l1
    simp -implicitDefEqProofs [abin_lss, hi, hA, hc, hpr, abin_neq, hq, abin_add, w]
  · have hi : (k : Int) < m.procs.length := by omega
    have hq : ¬ procE m k = 0 := by simpa using hp
    unfold s8.l1
    simp -implicitDefEqProofs [abin_lss, hi, hA, hc, hpr, abin_neq, hq]
  · unfold s8.l1
    simp -implicitDefEqProofs [abin_lss]
set_option maxHeartbeats 4000000 in
theorem check18 {m : Mdl} (hF : FewM m) : evCall Tryd.prog C (d + 7) lim 8 [.agg ((mD m).map .d)] H = some (vi (modE m), H) := by
  rw [evCall_pureEq (fi := fi8) rfl rfl (b8 _ _ _ _), up_data]
  unfold s8
  have hb := bx_data (r := mD m) (A := []) (H := H)
  have h0 : (mD m)[0]? = some (seqD m.gnl m.globs sD) := rfl
  have h1 : (mD m)[1]? = some (seqD m.dnl m.datas yD) := rfl
  have h2 : (mD m)[2]? = some (seqD m.pnl m.procs pD) := rfl
  have h3 : (mD m)[3]? = some (.int .i64 m.main) := rfl
  have l0 := seq_len m.gnl m.globs sD
  have l1 := seq_len m.dnl m.datas yD
  have l2 := seq_len m.pnl m.procs pD
  have hsl := fun H => slots37 (d := d + 5) (lim := 1) (H := H) (nl := m.gnl) (L := m.globs) (by have := hF.globs; omega)
  have hd := fun he => datas18 (H := H) hF he (call := evCall Tryd.prog C (d + 6) 1) (A := [some ((mD m).map .d)]) rfl
  have hp := fun (x : Option (List AV)) => procs18 (d := d) (H := H) hF (A := [some ((mD m).map .d), x]) rfl
  generalize mD m = R at *
  have g20 := hF.globs
  have p6 := hF.procs
  have n1 : ¬ (200 : Int) < m.globs.length := by omega
  have n2 : ¬ (200 : Int) < m.procs.length := by omega
  unfold modE modOk topOk
  by_cases c0 : (m.datas.length : Int) = m.globs.length
  rotate_left
  · have : ¬ m.datas.length = m.globs.length := by omega
    simp -implicitDefEqProofs [hb, h1, l1, h0, l0, abin_neq, c0, this]
  have c0' : m.datas.length = m.globs.length := by omega
  cases c1 : m.globs.all slotOk with
  | false => simp -implicitDefEqProofs [hb, h1, l1, h0, l0, abin_neq, c0, abin_gtr, n1, hsl, c1]
  | true =>
  by_cases c2 : (m.procs.length : Int) < 1
  · have : ¬ 1 ≤ m.procs.length := by omega
    simp -implicitDefEqProofs [hb, h1, l1, h0, l0, abin_neq, c0, abin_gtr, n1, hsl, c1, h2, l2, abin_lss, c2, this]
  by_cases c3 : m.main < 0
  · have : ¬ 0 ≤ m.main := by omega
    simp -implicitDefEqProofs [hb, h1, l1, h0, l0, abin_neq, c0, abin_gtr, n1, hsl, c1, h2, l2, abin_lss, c2, n2, h3, c3, this]
  by_cases c4 : (m.procs.length : Int) ≤ m.main
  · have : ¬ m.main < m.procs.length := by omega
    simp -implicitDefEqProofs [hb, h1, l1, h0, l0, abin_neq, c0, abin_gtr, n1, hsl, c1, h2, l2, abin_lss, c2, n2, h3, c3, abin_geq, c4, this]
  have g : (decide (m.datas.length = m.globs.length) && true && decide (1 ≤ m.procs.length) && decide (0 ≤ m.main) && decide (m.main < m.procs.length)) = true := by
    simp
    omega
  rw [g, Bool.true_and]
  have hd := hd c0'
  rw [c0] at l1 hd
  cases c5 : (List.range m.datas.length).any (fun k => !dataOk m k) with
  | true =>
    rw [c5, if_pos rfl] at hd
    unfold lp
    simp -implicitDefEqProofs [hb, h1, l1, h0, l0, abin_neq, abin_gtr, n1, hsl, c1, h2, l2, abin_lss, c2, n2, h3, c3, abin_geq, c4, hd, bnd_eq]
  | false =>
  rw [c5, if_neg (by simp)] at hd
  obtain ⟨k, hk⟩ : ∃ k : Nat, m.main = k := ⟨m.main.toNat, by omega⟩
  have hlt : k < m.procs.length := by omega
  obtain ⟨p, hpp⟩ : ∃ p, m.procs[k]? = some p := ⟨_, List.getElem?_eq_getElem hlt⟩
  obtain ⟨q, qs, rr⟩ := seq_row (nl := m.pnl) (f := pD) (s := 6) (fun _ => rfl) hpp
  have hix := rr.ix
  have hall := rr.all
  have hst := stA_at (n := 6) (lim := 1) (A := [some (R.map .d), some [.d (.str ⟨#[]⟩), .d (.bool false), .d (.int .i64 0), .d (.int .i64 0), .d (.seq true 0 []), .d (.seq true 0 [])]]) (H := H) (i := 1)
    (cs := (pD p).map .d) _ (by decide) (all_leaf_d _) rfl rfl rfl
  have y1 : (pD p)[1]? = some (.bool p.void) := rfl
  have y2 : (pD p)[2]? = some (.int .i64 p.params) := rfl
  have hp := hp (some ((pD p).map .d))
  generalize pD p = P at *
  simp only [List.set_cons_succ, List.set_cons_zero] at hst
  have hm : mainOk m = (decide (p.params = 0) && !p.void) := by
    unfold mainOk
    rw [hk, Int.toNat_natCast, hpp]
  rw [hm]
  rw [hk] at h3 c3 c4
  by_cases c6 : p.params = 0
  rotate_left
  · unfold lp
    simp -implicitDefEqProofs [hb, h1, l1, h0, l0, abin_neq, abin_gtr, n1, hsl, c1, h2, l2, abin_lss, c2, n2, h3, c3, abin_geq, c4, hd, bnd_eq, hix, hall, hst, y2, c6]
  cases c7 : p.void with
  | true =>
    unfold lp
    simp -implicitDefEqProofs [hb, h1, l1, h0, l0, abin_neq, abin_gtr, n1, hsl, c1, h2, l2, abin_lss, c2, n2, h3, c3, abin_geq, c4, hd, bnd_eq, hix, hall, hst, y2, c6, y1, c7]
  | false =>
  cases c8 : (List.range m.procs.length).any (fun k => !decide (procE m k = 0)) with
  | true =>
    rw [c8, if_pos rfl] at hp
    unfold lp
    simp -implicitDefEqProofs [hb, h1, l1, h0, l0, abin_neq, abin_gtr, n1, hsl, c1, h2, l2, abin_lss, c2, n2, h3, c3, abin_geq, c4, hd, bnd_eq, hix, hall, hst, y2, c6, y1, c7, hp]
  | false =>
    rw [c8, if_neg (by simp)] at hp
    unfold lp
    simp -implicitDefEqProofs [hb, h1, l1, h0, l0, abin_neq, abin_gtr, n1, hsl, c1, h2, l2, abin_lss, c2, n2, h3, c3, abin_geq, c4, hd, bnd_eq, hix, hall, hst, y2, c6, y1, c7, hp]
end
end Go.Ev.Tryd

/- The document's answer: slots, registers, ends, fields. -/
set_option maxRecDepth 100000
namespace Go.Ev.Tryd
open Go Go.Ev Go.Proofs
/-- Which of D, A, B, Fn, Obj, Off, Size, Num, Args, Log an operation has. -/
def flB (op : Int) : List Bool :=
  if op = 1 then [true, false, false, false, false, false, false, true, false, true]
  else if op = 2 then [true, true, false, false, false, false, false, false, false, true]
  else if op = 3 then [true, true, true, true, false, false, false, false, false, true]
  else if op = 4 then [true, true, false, true, false, false, false, false, false, true]
  else if op = 5 then [true, true, false, false, false, true, true, false, false, true]
  else if op = 6 then [false, true, true, false, false, true, true, false, false, true]
  else if op = 7 then [true, false, false, false, true, true, false, false, false, true]
  else if op = 8 then [true, false, false, false, true, true, false, false, false, true]
  else if op = 9 then [true, false, false, false, true, false, false, false, true, true]
  else if op = 10 then [false, true, false, false, false, false, false, false, false, false]
  else if op = 11 then [true, false, false, false, false, false, false, false, false, true]
  else [false, false, false, false, false, false, false, false, false, false]
def flV (op : Int) : AV := if op < 1 ∨ 12 < op then .d (.seq true 0 []) else .d (.seq false 10 ((flB op).map .bool))
theorem bldS_10 (x0 x1 x2 x3 x4 x5 x6 x7 x8 x9 : Bool) (A : Arena) (H : Heap) :
    bldS 1 10 [vb false] [(0, vb x0), (1, vb x1), (2, vb x2), (3, vb x3), (4, vb x4), (5, vb x5), (6, vb x6), (7, vb x7), (8, vb x8), (9, vb x9)] (A :: H) =
      some (.sl 0 A.length 0 10 1, (A ++ [some [vb x0, vb x1, vb x2, vb x3, vb x4, vb x5, vb x6, vb x7, vb x8, vb x9]]) :: H) := by kernel_rfl
theorem bldS_13 (x1 x2 x3 x4 x5 x6 x7 x8 x9 x10 x11 x12 : Nat) (A : Arena) (H : Heap) :
    bldS 1 13 [.d (.seq true 0 [])] [(0, .d (.seq true 0 [])), (1, .sl 0 x1 0 10 1), (2, .sl 0 x2 0 10 1), (3, .sl 0 x3 0 10 1), (4, .sl 0 x4 0 10 1), (5, .sl 0 x5 0 10 1), (6, .sl 0 x6 0 10 1), (7, .sl 0 x7 0 10 1), (8, .sl 0 x8 0 10 1), (9, .sl 0 x9 0 10 1), (10, .sl 0 x10 0 10 1), (11, .sl 0 x11 0 10 1), (12, .sl 0 x12 0 10 1)] (A :: H) =
      some (.sl 0 A.length 0 13 1, (A ++ [some [.d (.seq true 0 []), .sl 0 x1 0 10 1, .sl 0 x2 0 10 1, .sl 0 x3 0 10 1, .sl 0 x4 0 10 1, .sl 0 x5 0 10 1, .sl 0 x6 0 10 1, .sl 0 x7 0 10 1, .sl 0 x8 0 10 1, .sl 0 x9 0 10 1, .sl 0 x10 0 10 1, .sl 0 x11 0 10 1, .sl 0 x12 0 10 1]]) :: H) := by kernel_rfl
theorem fields77_1 {d lim : Nat} {H : Heap} : evCall Tryd.prog C (d + 1) lim 35 [vi 1] H = some (flV 1, H) := by kernel_rfl
theorem fields77_2 {d lim : Nat} {H : Heap} : evCall Tryd.prog C (d + 1) lim 35 [vi 2] H = some (flV 2, H) := by kernel_rfl
theorem fields77_3 {d lim : Nat} {H : Heap} : evCall Tryd.prog C (d + 1) lim 35 [vi 3] H = some (flV 3, H) := by kernel_rfl
theorem fields77_4 {d lim : Nat} {H : Heap} : evCall Tryd.prog C (d + 1) lim 35 [vi 4] H = some (flV 4, H) := by kernel_rfl
theorem fields77_5 {d lim : Nat} {H : Heap} : evCall Tryd.prog C (d + 1) lim 35 [vi 5] H = some (flV 5, H) := by kernel_rfl
theorem fields77_6 {d lim : Nat} {H : Heap} : evCall Tryd.prog C (d + 1) lim 35 [vi 6] H = some (flV 6, H) := by kernel_rfl
theorem fields77_7 {d lim : Nat} {H : Heap} : evCall Tryd.prog C (d + 1) lim 35 [vi 7] H = some (flV 7, H) := by kernel_rfl
theorem fields77_8 {d lim : Nat} {H : Heap} : evCall Tryd.prog C (d + 1) lim 35 [vi 8] H = some (flV 8, H) := by kernel_rfl
theorem fields77_9 {d lim : Nat} {H : Heap} : evCall Tryd.prog C (d + 1) lim 35 [vi 9] H = some (flV 9, H) := by kernel_rfl
theorem fields77_10 {d lim : Nat} {H : Heap} : evCall Tryd.prog C (d + 1) lim 35 [vi 10] H = some (flV 10, H) := by kernel_rfl
theorem fields77_11 {d lim : Nat} {H : Heap} : evCall Tryd.prog C (d + 1) lim 35 [vi 11] H = some (flV 11, H) := by kernel_rfl
theorem fields77_12 {d lim : Nat} {H : Heap} : evCall Tryd.prog C (d + 1) lim 35 [vi 12] H = some (flV 12, H) := by kernel_rfl
section
variable {d lim : Nat} {H : Heap}
theorem fields77 {op : Int} : evCall Tryd.prog C (d + 1) lim 35 [vi op] H = some (flV op, H) := by
  by_cases h : op < 1 ∨ 12 < op
  · rw [evCall_pureEq (fi := fi35) rfl rfl (b35 _ _ _ _)]
    unfold s35 flV
    rw [if_pos h]
    rcases h with h | h
    · simp -implicitDefEqProofs [bldS_10, bldS_13, abin_lss, h]
    · simp -implicitDefEqProofs [bldS_10, bldS_13, abin_lss, show ¬ op < 1 by omega, abin_gtr, h]
  · have hop : op = 1 ∨ op = 2 ∨ op = 3 ∨ op = 4 ∨ op = 5 ∨ op = 6 ∨ op = 7 ∨ op = 8 ∨ op = 9 ∨ op = 10 ∨ op = 11 ∨ op = 12 := by omega
    rcases hop with rfl | rfl | rfl | rfl | rfl | rfl | rfl | rfl | rfl | rfl | rfl | rfl
    · exact fields77_1
    · exact fields77_2
    · exact fields77_3
    · exact fields77_4
    · exact fields77_5
    · exact fields77_6
    · exact fields77_7
    · exact fields77_8
    · exact fields77_9
    · exact fields77_10
    · exact fields77_11
    · exact fields77_12
theorem slots43 {nl : Bool} {L : List Slt} (hL : L.length ≤ 100) {n : Int} (hn : 200 ≤ n) : evCall Tryd.prog C (d + 1) lim 25 [.d (seqD nl L sD), vi n] H = some (vb (L.all slotOk), H) := by
  rw [evCall_pureEq (fi := fi25) rfl rfl (b25 _ _ _ _ _)]
  unfold s25
  have hln := seq_len nl L sD
  have e := fun call : ACall => iter_any (F := s25.l0 call 1) (H := [] :: H) (n := L.length) (fun k => [.d (seqD nl L sD), vi n, vi k]) (fun k => !slotOk ((L[k]?).getD ⟨⟨#[]⟩, 0, 0, 0⟩)) (rv := (.ret, [vb false], [] :: H)) (ex := (.exit 0, [.d (seqD nl L sD), vi n], [] :: H)) (by omega)
    (fun k hk hp => by
      obtain ⟨s, hs⟩ : ∃ s, L[k]? = some s := ⟨_, List.getElem?_eq_getElem hk⟩
      obtain ⟨p, q, rr⟩ := seq_row (nl := nl) (f := sD) (s := 4) (fun _ => rfl) hs
      have hi : (k : Int) < L.length := by omega
      have w := wrap_ok ((k : Int) + 1) (by omega) (by omega)
      have hix := rr.ix
      have hfa := rr.fa
      have c1 := fun H => rr.cell H 1 (.int .i64 s.size) rfl
      have c2 := fun H => rr.cell H 2 (.int .i64 s.align) rfl
      have hsl : slotOk s = true := by simpa [hs] using hp
      simp [slotOk] at hsl
      unfold s25.l0
      rcases hsl.2 with ha | ha
      · simp -implicitDefEqProofs [hln, abin_lss, hi, hix, hfa, c1, c2, Int.not_lt.2 hsl.1.1, abin_gtr, Int.not_lt.2 hsl.1.2, abin_neq, ha, abin_add, w]
      · simp -implicitDefEqProofs [hln, abin_lss, hi, hix, hfa, c1, c2, Int.not_lt.2 hsl.1.1, abin_gtr, Int.not_lt.2 hsl.1.2, abin_neq, ha, abin_add, w])
    (fun k hk hp => by
      obtain ⟨s, hs⟩ : ∃ s, L[k]? = some s := ⟨_, List.getElem?_eq_getElem hk⟩
      obtain ⟨p, q, rr⟩ := seq_row (nl := nl) (f := sD) (s := 4) (fun _ => rfl) hs
      have hi : (k : Int) < L.length := by omega
      have hix := rr.ix
      have hfa := rr.fa
      have c1 := fun H => rr.cell H 1 (.int .i64 s.size) rfl
      have c2 := fun H => rr.cell H 2 (.int .i64 s.align) rfl
      have hsl : slotOk s = false := by simpa [hs] using hp
      unfold s25.l0
      by_cases x0 : s.size < 1
      · simp -implicitDefEqProofs [hln, abin_lss, hi, hix, hfa, c1, c2, x0]
      · by_cases x1 : 32768 < s.size
        · simp -implicitDefEqProofs [hln, abin_lss, hi, hix, hfa, c1, c2, x0, abin_gtr, x1]
        · have hne : s.align ≠ 1 ∧ s.align ≠ 4 := by
            simp [slotOk] at hsl
            exact hsl (by omega) (by omega)
          simp -implicitDefEqProofs [hln, abin_lss, hi, hix, hfa, c1, c2, x0, abin_gtr, x1, abin_neq, hne.1, hne.2]) (by simp)
    (by
      unfold s25.l0
      simp -implicitDefEqProofs [hln, abin_lss]) (by simp)
  have ha : (List.range L.length).any (fun k => !slotOk ((L[k]?).getD ⟨⟨#[]⟩, 0, 0, 0⟩)) = !(L.all slotOk) := by
    rw [Bool.eq_iff_iff]
    simp only [List.any_eq_true, List.mem_range, Bool.not_eq_true', List.all_eq_false]
    constructor
    · rintro ⟨k, hk, h⟩
      rw [List.getElem?_eq_getElem hk] at h
      exact ⟨L[k], List.getElem_mem hk, by simpa using h⟩
    · rintro ⟨x, hx, h⟩
      obtain ⟨k, hk, rfl⟩ := List.getElem_of_mem hx
      exact ⟨k, hk, by rw [List.getElem?_eq_getElem hk]; simpa using h⟩
  rw [ha] at e
  have e := e (evCall Tryd.prog C d 1)
  have hle : (L.length : Int) ≤ n := by omega
  unfold lp
  cases hA : L.all slotOk with
  | true =>
    rw [hA, if_neg (by simp)] at e
    simp only [Int.natCast_zero] at e
    simp -implicitDefEqProofs [e, bnd_eq, hln, abin_leq, hle]
  | false =>
    rw [hA, if_pos (by simp)] at e
    simp only [Int.natCast_zero] at e
    simp -implicitDefEqProofs [e, bnd_eq]
theorem reg76 {p : Prc} {r : Int} {t : Bool} (h0 : 0 ≤ p.regs) (h1 : p.regs ≤ 8000) : evCall Tryd.prog C (d + 1) lim 39 [.agg ((pD p).map .d), vi r, vb t] H = some (vb (regOk p r t), H) := by
  rw [evCall_pureEq (fi := fi39) rfl rfl (b39 _ _ _ _ _ _), up_data]
  unfold s39
  have hb := bx_data (r := pD p) (A := []) (H := H)
  have h3 : (pD p)[3]? = some (.int .i64 p.regs) := rfl
  generalize pD p = R at *
  cases t with
  | false => simp -implicitDefEqProofs [hb, abin_eql, regOk]
  | true =>
    have w := wrap_ok (p.regs - 1) (by omega) (by omega)
    have hlt : (r ≤ p.regs - 1) = (r < p.regs) := by rw [eq_iff_iff]; omega
    by_cases c : 0 ≤ r
    · simp -implicitDefEqProofs [hb, abin_geq, c, h3, abin_sub, w, abin_leq, regOk, hlt]
    · simp -implicitDefEqProofs [hb, abin_geq, c, regOk]
end
end Go.Ev.Tryd

/- The document's answer: ends. -/
set_option maxRecDepth 100000
namespace Go.Ev.Tryd
open Go Go.Ev Go.Proofs
section
variable {d lim : Nat} {H : Heap}
theorem end66 {p : Prc} {b : Blk} (r0 : 0 ≤ p.regs) (r1 : p.regs ≤ 8000) : evCall Tryd.prog C (d + 2) lim 27 [.agg ((pD p).map .d), .agg ((bD b).map .d)] H = some (vb (endOk p b), H) := by
  rw [evCall_pureEq (fi := fi27) rfl rfl (b27 _ _ _ _ _), up_data, up_data]
  unfold s27
  have hb := bx_data (r := pD p) (A := []) (H := H)
  have hb2 := bx_data (r := bD b) (A := [some ((pD p).map .d)]) (H := H)
  have hc := cut_data (r := pD p) (n := 6) rfl
  have hr := fun (r : Int) (t : Bool) (H : Heap) => reg76 (d := d) (lim := 1) (H := H) (p := p) (r := r) (t := t) r0 r1
  have h1 : (pD p)[1]? = some (.bool p.void) := rfl
  have h5 : (pD p)[5]? = some (seqD p.bnl p.blks bD) := rfl
  have hl := seq_len p.bnl p.blks bD
  have x1 : (bD b)[1]? = some (.int .i64 b.fin) := rfl
  have x2 : (bD b)[2]? = some (.int .i64 b.a) := rfl
  have x3 : (bD b)[3]? = some (.int .i64 b.to) := rfl
  have x4 : (bD b)[4]? = some (.int .i64 b.els) := rfl
  generalize pD p = R at *
  generalize bD b = B at *
  unfold endOk blockOk
  by_cases t0 : 0 ≤ b.to
  · by_cases e1 : b.fin = 1
    · cases t1 : decide (b.to < p.blks.length) with
      | false => simp -implicitDefEqProofs [hb, hb2, x3, abin_geq, t0, h5, hl, abin_lss, t1, x1, abin_eql, e1]
      | true =>
        by_cases c2 : b.a = -1
        · simp -implicitDefEqProofs [hb, hb2, x3, abin_geq, t0, h5, hl, abin_lss, t1, x1, abin_eql, e1, x2, c2, x4]
        · simp -implicitDefEqProofs [hb, hb2, x3, abin_geq, t0, h5, hl, abin_lss, t1, x1, abin_eql, e1, x2, c2, x4]
    · by_cases e2 : b.fin = 2
      · cases t1 : decide (b.to < p.blks.length) with
        | false => simp -implicitDefEqProofs [hb, hb2, x3, abin_geq, t0, h5, hl, abin_lss, t1, x1, abin_eql, e2]
        | true =>
          by_cases c0 : 0 ≤ b.els
          · cases c1 : decide (b.els < p.blks.length) with
            | false => simp -implicitDefEqProofs [hb, hb2, x3, abin_geq, t0, h5, hl, abin_lss, t1, x1, abin_eql, e2, x4, c0, c1]
            | true => simp -implicitDefEqProofs [hb, hb2, x3, abin_geq, t0, h5, hl, abin_lss, t1, x1, abin_eql, e2, x4, c0, c1, hc, x2, hr]
          · simp -implicitDefEqProofs [hb, hb2, x3, abin_geq, t0, h5, hl, abin_lss, t1, x1, abin_eql, e2, x4, c0]
      · by_cases e3 : b.fin = 3
        · by_cases c2 : b.to = 0
          · by_cases c3 : b.els = 0
            · cases k : regOk p b.a (!p.void) <;>
              simp -implicitDefEqProofs [hb, hb2, x3, abin_geq, t0, h5, hl, abin_lss, x1, abin_eql, e3, c2, x4, c3, hc, x2, h1, hr, k]
            · simp -implicitDefEqProofs [hb, hb2, x3, abin_geq, t0, h5, hl, abin_lss, x1, abin_eql, e3, c2, x4, c3]
          · simp -implicitDefEqProofs [hb, hb2, x3, abin_geq, t0, h5, hl, abin_lss, x1, abin_eql, e3, c2]
        · simp -implicitDefEqProofs [hb, hb2, x3, abin_geq, t0, h5, hl, abin_lss, x1, abin_eql, e1, e2, e3]
  · have tn : ¬ b.to = 0 := by omega
    by_cases e1 : b.fin = 1
    · simp -implicitDefEqProofs [hb, hb2, x3, abin_geq, t0, x1, abin_eql, e1]
    · by_cases e2 : b.fin = 2
      · simp -implicitDefEqProofs [hb, hb2, x3, abin_geq, t0, x1, abin_eql, e2]
      · by_cases e3 : b.fin = 3
        · simp -implicitDefEqProofs [hb, hb2, x3, abin_geq, t0, x1, abin_eql, e3, tn]
        · simp -implicitDefEqProofs [hb, hb2, x3, abin_geq, t0, x1, abin_eql, e1, e2, e3]
end
end Go.Ev.Tryd
