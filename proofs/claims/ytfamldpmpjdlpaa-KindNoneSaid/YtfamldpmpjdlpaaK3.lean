import Derived.Test.YtfamldpmpjdlpaaK2
import Derived.Test.YtfamldpmpjdlpaaE3
set_option linter.unusedSimpArgs false
set_option linter.unusedVariables false
/- What is done to a table. -/
namespace Go.Ev.Try
open Go Go.Ev Go.Proofs

structure Act where
  kind : Int
  n : Int
  long : Int
  name : ByteArray
  nl : Bool
  fs : List Fld
def aD (a : Act) : List D := [.int .i64 a.kind, .int .i64 a.n, .int .i64 a.long, .str a.name, fsD a.nl a.fs]
def acs (a : Act) : List AV := [vi a.kind, vi a.n, vi a.long, vs a.name, .d (fsD a.nl a.fs)]
theorem aD_map (a : Act) : (aD a).map AV.d = acs a := rfl
def doneL (L : List Known) (a : Act) : Int × Int × List Known :=
  if a.kind = 0 then ptrL L a.n else if a.kind = 1 then arrayL L a.n a.long else if a.kind = 2 then openL L a.name else structL L a.name a.fs
structure ActOk (a : Act) : Prop where
  nl : a.nl = true → a.fs = []
  len : a.fs.length < 1000000
theorem inv_done {L : List Known} {dep : Nat → Nat} {D : Nat} (h : Inv L dep D) {a : Act} (ha : ActOk a) : ∃ dep', Inv (doneL L a).2.2 dep' (D + 1) := by
  unfold doneL
  split
  · exact inv_ptr h _
  · split
    · exact inv_array h _ _
    · split
      · exact inv_open h _
      · exact inv_struct h _ ha.len
theorem acs_leaf (a : Act) : (acs a).all AV.leaf = true := rfl
/-- Fields are handed to the reference. -/
theorem conv_loop {call : ACall} {lim : Nat} (hl : 0 < lim) {H : Heap} {a : Act} (ha : ActOk a) {A0 : Arena} {i0 i1 : Nat} (h0 : A0[i0]? = some (some (acs a))) (t r : AV) :
    Gives (iterN LB (s11.l0 call lim) [t, r, .ptr 0 i0 0, .ptr 0 i1 0, .d (.seq true 0 []), vi 0] (A0 :: H)) fun x =>
      ∃ A f, x = (.exit 1, [t, r, .ptr 0 i0 0, .ptr 0 i1 0, f], A :: H) ∧ OutAt A0.length A f (a.fs.flatMap fcells) a.fs.length 3 ∧ A0.length ≤ A.length ∧ ∀ j, j < A0.length → A[j]? = A0[j]? := by
  have hi0 := (List.getElem?_eq_some_iff.1 h0).1
  refine iter_gives (Inv := fun k s Hh => ∃ A f, Hh = A :: H ∧ s = [t, r, .ptr 0 i0 0, .ptr 0 i1 0, f, vi k] ∧ OutAt A0.length A f ((a.fs.take k).flatMap fcells) k 3 ∧ A0.length ≤ A.length ∧ ∀ j, j < A0.length → A[j]? = A0[j]?) a.fs.length (big_lt (by have := ha.len; omega)) (fun k hk s Hh h => ?_) ⟨_, _, rfl, rfl, .nil _, Nat.le_refl _, fun _ _ => rfl⟩
  obtain ⟨A, f, rfl, rfl, ho, h1, h2⟩ := h
  have hbox : A[i0]? = some (some (acs a)) := by rw [h2 _ hi0, h0]
  have e4 : (acs a)[4]? = some (.d (fsD a.nl a.fs)) := rfl
  have hln : lnS (.d (fsD a.nl a.fs)) = some (vi a.fs.length) := rfl
  have hlen := ha.len
  rcases Nat.lt_or_ge k a.fs.length with hk' | hk'
  · left
    obtain ⟨g, hg⟩ : ∃ g, a.fs[k]? = some g := ⟨_, List.getElem?_eq_getElem hk'⟩
    obtain ⟨f', A', e1, e2, e3, e5⟩ := ho.append (H := H) (bytes := 32) (lim := lim) h1 hl (fcells_leaf g) rfl (by omega) (by omega)
    rw [← flat_snoc hg] at e2
    have hb1 := bldS_one (s := 3) (z := [.d (.str ⟨#[]⟩), .d (.int .i64 0), .d (.int .i64 0)]) (A := A) (H := H) rfl rfl (fcells_leaf g)
    have hix : ixS 3 (.d (fsD a.nl a.fs)) (vi k) = some (.dptr (a.fs.flatMap fD) (k * 3)) := by simp [fsD, inB_nat hk']
    refine ⟨[t, r, .ptr 0 i0 0, .ptr 0 i1 0, f', vi (k + 1 : Nat)], A' :: H, hk', ?_, A', f', rfl, rfl, e2, by omega, fun j hj => by rw [e5 j hj, h2 j hj]⟩
    unfold s11.l0
    simp [hbox, e4, hln, hk', hix, fsD_cut hg, fD_cells, hb1, e1, wrap_succ (show k < 1000000000 by omega)]
  · right
    have : k = a.fs.length := by omega
    subst this
    refine ⟨_, ?_, ?_, A, f, rfl, ?_, h1, h2⟩
    · unfold s11.l0
      simp [hbox, e4, hln]
    · simp
    · rw [List.take_of_length_le (Nat.le_refl _)] at ho
      exact ho
theorem out_fv {k0 : Nat} {A : Arena} {H : Heap} {f : AV} {fs : List Fld} (h : OutAt k0 A f (fs.flatMap fcells) fs.length 3) : FV (A :: H) f fs := by
  generalize hc : fs.flatMap fcells = cs at h
  generalize hn : fs.length = n at h
  cases h with
  | nil =>
    have : fs = [] := List.eq_nil_of_length_eq_zero hn
    subst this
    exact .inl rfl
  | row hb hA hl =>
    subst hc hn
    exact .inr ⟨0, _, rfl, by simp [hA]⟩
theorem made_leaf (m : Int × Int × List Known) : ([vi m.1, .d (rows m.2.2), vi m.2.1] : List AV).all AV.leaf = true := rfl
def doneA (m m' : Int × Int × List Known) : AV := .tup [vi m.1, vi m.2.1, madeA m']
/-- A block beside a table's may change. -/
theorem Tab.beside {A : Arena} {i b j : Nat} {L : List Known} (h : Tab A i b L) (hi : j ≠ i) (hb : j ≠ b) {c : List AV} (hc : A[j]? = some (some c)) (hne : ∀ fs : List Fld, fs ≠ [] → fs.flatMap fcells ≠ c) (x : Option (List AV)) : Tab (A.set j x) i b L := by
  obtain ⟨vs, h1, h2, h3⟩ := h.rows
  refine ⟨h.ne, by rw [List.getElem?_set_ne hi, h.tab], vs, h1, by rw [List.getElem?_set_ne hb, h2], fun k f v hf hv => ?_⟩
  rcases h3 k f v hf hv with h | ⟨y, e, hx, hy, hz, hn⟩
  · exact .inl h
  · refine .inr ⟨y, e, hx, hy, ?_, hn⟩
    simp only [getB_zero] at hz ⊢
    have : j ≠ y := fun e => by
      subst e
      rw [hc] at hz
      simp at hz
      exact hne _ hn hz.symm
    rw [List.getElem?_set_ne this]
    exact hz
theorem int_no_fields {n : Int} {k : IntKind} {c : List AV} (fs : List Fld) (h : fs ≠ []) : fs.flatMap fcells ≠ .d (.int k n) :: c := by
  cases fs with
  | nil => exact absurd rfl h
  | cons f fs => simp [fcells]
theorem Stay.get {A A' : Arena} {i b j : Nat} (h : Stay A A' i b) (hj : j < A.length) (hi : j ≠ i) (hb : j ≠ b) : A'[j]? = A[j]? := h.2 j hj hi hb
theorem done_ok {d lim : Nat} {A : Arena} {H : Heap} {i b : Nat} {L Lr : List Known} {dep depr : Nat → Nat} {D : Nat} (h : Tab A i b L) (hl : 0 < lim) (hI : Inv L dep D) (hr : Inv Lr depr D) {a : Act} (ha : ActOk a) (hd : D + 20 ≤ d) :
    Gives (evCall Try.prog (C 2) d lim 11 [.agg (acs a), .ptr 0 i 0, .d (rows Lr)] (A :: H)) fun x => x.1 = doneA (doneL L a) (doneL Lr a) ∧ ∃ A' b', x.2 = A' :: H ∧ Tab A' i b' (doneL L a).2.2 ∧ New A b b' ∧ Stay A A' i b := by
  obtain ⟨d, rfl⟩ : ∃ e, d = e + 8 := ⟨d - 8, by omega⟩
  rw [evCall_inEq (fi := fi11 2) rfl rfl (b11 _ _ _ _ _ _ _)]
  unfold s11
  rw [bx_agg (acs_leaf a)]
  have hzm : zMade = [.d (.int .i64 0), .d (.seq true 0 []), .d (.int .i64 0)] := rfl
  have hs := hI.sane
  have hsr := hr.sane
  have hA2 := h.app [some (acs a), some zMade]
  have hlt := h.lt
  have g0 : (acs a)[0]? = some (vi a.kind) := rfl
  have g1 : (acs a)[1]? = some (vi a.n) := rfl
  have g2 : (acs a)[2]? = some (vi a.long) := rfl
  have g3 : (acs a)[3]? = some (vs a.name) := rfl
  have g4 : (acs a)[4]? = some (.d (fsD a.nl a.fs)) := rfl
  have hA2l : List.length (A ++ [some (acs a), some zMade]) = A.length + 2 := by simp
  -- what is so behind the table's call
  have fin : ∀ (m : Int × Int × List Known) (m' : Int × Int × List Known) (A' : Arena) (b' : Nat), Tab A' i b' m.2.2 → New (A ++ [some (acs a), some zMade]) b b' → Stay (A ++ [some (acs a), some zMade]) A' i b →
      A'[A.length]? = some (some (acs a)) ∧ stA 3 lim (A' :: H) (.ptr 0 (A.length + 1) 0) (madeA m') = some (.undef, A'.set (A.length + 1) (some [vi m'.1, .d (rows m'.2.2), vi m'.2.1]) :: H) ∧
      (A'.set (A.length + 1) (some [vi m'.1, .d (rows m'.2.2), vi m'.2.1]))[A.length + 1]? = some (some [vi m'.1, .d (rows m'.2.2), vi m'.2.1]) ∧
      ∃ b', Tab (A'.set (A.length + 1) (some [vi m'.1, .d (rows m'.2.2), vi m'.2.1])) i b' m.2.2 ∧ New A b b' ∧ Stay A (A'.set (A.length + 1) (some [vi m'.1, .d (rows m'.2.2), vi m'.2.1])) i b := fun m m' A' b' hT hN hS => by
    have e0 : A'[A.length]? = some (some (acs a)) := by rw [hS.get (by omega) (by omega) (by omega)]; simp
    have e1 : A'[A.length + 1]? = some (some zMade) := by rw [hS.get (by omega) (by omega) (by omega)]; simp
    have l1 := (List.getElem?_eq_some_iff.1 e1).1
    have hb' : b' = b ∨ A.length + 2 ≤ b' := by simp only [New, hA2l] at hN; exact hN
    refine ⟨e0, stA_at zMade hl (made_leaf m') rfl rfl (by rw [e1]; rfl), List.getElem?_set_self l1, b', hT.beside (by omega) (by omega) e1 (fun fs h => int_no_fields fs h) _, ?_, ?_, fun j hj hi hjb => ?_⟩
    · simp only [New]; omega
    · have := hS.1
      simp at this ⊢
      omega
    · rw [List.getElem?_set_ne (by omega), hS.2 j (by omega) hi hjb, List.getElem?_append_left hj]
  unfold doneL
  simp [← hzm, g0]
  by_cases k0 : a.kind = 0
  · obtain ⟨⟨v, H'⟩, e1, e2, A', b', e3, hT, hN, hS⟩ := ptr_ok (μ := 2) (d := d + 3) (H := H) hA2 hl hI.len (n := a.n)
    dsimp only at e2 e3
    subst e2 e3
    obtain ⟨f0, f1, f2, f3⟩ := fin (ptrL L a.n) (ptrL Lr a.n) A' b' hT hN hS
    have hr2 := ptrr_ok (μ := 2) (d := d + 5) (lim := lim) (H := A' :: H) hr.len (n := a.n)
    simp [k0, g1, e1, f0, hr2, f1, f2, rs, rsL, one, cut_eq]
    exact ⟨rfl, f3⟩
  · simp [k0]
    by_cases k1 : a.kind = 1
    · obtain ⟨⟨v, H'⟩, e1, e2, A', b', e3, hT, hN, hS⟩ := array_ok (μ := 2) (d := d + 3) (H := H) hA2 hl hI.len (n := a.n) (long := a.long) (hs.size _).1
      dsimp only at e2 e3
      subst e2 e3
      obtain ⟨f0, f1, f2, f3⟩ := fin (arrayL L a.n a.long) (arrayL Lr a.n a.long) A' b' hT hN hS
      have hr2 : evCall Try.prog (C 2) (d + 7) lim 30 [.d (rows Lr), vi a.n, vi a.long] (A' :: H) = some (madeA (arrayL Lr a.n a.long), A' :: H) := arrayr_ok hr.wf hr.len (hsr.size _) (hr.dep _) (by omega)
      simp [k1, g1, g2, e1, f0, hr2, f1, f2, rs, rsL, one, cut_eq]
      exact ⟨rfl, f3⟩
    · simp [k1]
      by_cases k2 : a.kind = 2
      · obtain ⟨⟨v, H'⟩, e1, e2, A', b', e3, hT, hN, hS⟩ := open_ok (μ := 2) (d := d + 3) (H := H) hA2 hl hI.len (name := a.name)
        dsimp only at e2 e3
        subst e2 e3
        obtain ⟨f0, f1, f2, f3⟩ := fin (openL L a.name) (openL Lr a.name) A' b' hT hN hS
        have hr2 := openr_ok (μ := 2) (d := d + 5) (lim := lim) (H := A' :: H) hr.len (name := a.name)
        simp [k2, g3, e1, f0, hr2, f1, f2, rs, rsL, one, cut_eq]
        exact ⟨rfl, f3⟩
      · simp [k2]
        obtain ⟨x, hx, A1, f, rfl, ho, hA1l, hA1⟩ := conv_loop (call := evCall Try.prog (C 2) (d + 7) lim) hl (H := H) ha (A0 := A ++ [some (acs a), some zMade]) (i0 := A.length) (i1 := A.length + 1) (by simp) (.ptr 0 i 0) (.d (rows Lr))
        have hT1 : Tab A1 i b L := hA2.keep hA1
        have e0 : A1[A.length]? = some (some (acs a)) := by rw [hA1 _ (by omega)]; simp
        obtain ⟨⟨v, H'⟩, e1, e2, A', b', e3, hT, hN, hS⟩ := struct_ok (μ := 2) (d := d) (H := H) hT1 hl hI.len hs (name := a.name) (nl := a.nl) (fs := a.fs) ha.nl ha.len
        dsimp only at e2 e3
        subst e2 e3
        have hN' : New (A ++ [some (acs a), some zMade]) b b' := by simp only [New] at hN ⊢; omega
        have hS' : Stay (A ++ [some (acs a), some zMade]) A' i b := ⟨Nat.le_trans hA1l hS.1, fun j hj hi hb => by rw [hS.2 j (by omega) hi hb, hA1 j hj]⟩
        obtain ⟨f0, f1, f2, f3⟩ := fin (structL L a.name a.fs) (structL Lr a.name a.fs) A' b' hT hN' hS'
        have hfv : FV (A' :: H) f a.fs := by
          refine out_fv (k0 := A.length + 2) ?_
          rw [hA2l] at ho
          generalize a.fs.flatMap fcells = cs at ho ⊢
          generalize a.fs.length = n at ho ⊢
          cases ho with
          | nil => exact .nil _
          | row hb hA hl =>
            refine .row hb ?_ hl
            rw [hS.2 _ (List.getElem?_eq_some_iff.1 hA).1 (by omega) (by omega), hA]
        have hr2 := structr_ok hr.wf (μ := 2) (d := d + 7) (lim := lim) (H := A' :: H) (name := a.name) hfv hr.len ha.len hr.bnd hsr hr.zero hr.dep (by omega)
        simp -implicitDefEqProofs [lp, bnd_eq, hx, gv, e0, g3, g4, e1, f0, hr2, f1, f2, rs, rsL, one, cut_eq]
        exact ⟨rfl, f3⟩
end Go.Ev.Try

/- The first types, the page's examples, and what is few. -/
namespace Go.Ev.Try
open Go Go.Ev Go.Proofs
variable {μ : Nat}

theorem begin_ok {d lim : Nat} {H : Heap} : evCall Try.prog (C μ) (d + 1) lim 12 [] H = some (.d (rows L0), H) := by
  rw [evCall_pureEq (fi := fi12) rfl rfl (X := s12 (evCall Try.prog (C μ) d 1) 1 ([] :: H)) (by rw [AV.upL]; exact b12 _ _ _ _)]
  unfold s12
  have hb : ∀ n : Int, bld [(0, 1), (1, 1), (2, 1), (3, 1), (4, 1), (5, 1)] [.d (.int .i64 0), .d (.int .i64 0), .d (.int .i64 0), .d (.str ⟨#[]⟩), .d (.seq true 0 []), .d (.bool false)] [(0, vi n)] = some (.agg (rcells (kn n 0 0 0 0) nilF)) := fun n => rfl
  have hb0 : bld [(0, 1), (1, 1), (2, 1), (3, 1), (4, 1), (5, 1)] [.d (.int .i64 0), .d (.int .i64 0), .d (.int .i64 0), .d (.str ⟨#[]⟩), .d (.seq true 0 []), .d (.bool false)] [] = some (.agg (rcells (kn 0 0 0 0 0) nilF)) := rfl
  have hS : ∀ H : Heap, bldS 6 3 [.d (.int .i64 0), .d (.int .i64 0), .d (.int .i64 0), .d (.str ⟨#[]⟩), .d (.seq true 0 []), .d (.bool false)] [(0, .agg (rcells (kn 0 0 0 0 0) nilF)), (1, .agg (rcells (kn 1 0 0 0 0) nilF)), (2, .agg (rcells (kn 2 0 0 0 0) nilF))] ([] :: H) = some (.sl 0 0 0 3 6, [some ((L0.flatMap rD).map .d)] :: H) := fun H => rfl
  simp [hb 1, hb 2, hb0, hS]
  rw [leave_row (c := L0.flatMap rD) rfl (by rw [rD_len]; rfl)]
  simp [rows, L0]

theorem inv0 : Inv L0 (fun _ => 0) 0 := by
  have h3 : ∀ n : Int, hasL L0 n = true → n = 0 ∨ n = 1 ∨ n = 2 := fun n h => by
    have := hasL_lt h
    simp [L0] at this
    omega
  have hsz : ∀ n : Int, sizeL L0 n ≤ 32768 ∧ (alignL L0 n = 0 ∨ alignL L0 n = 1 ∨ alignL L0 n = 4) := fun n => by
    by_cases h : hasL L0 n = true
    · rcases h3 n h with rfl | rfl | rfl <;> decide
    · simp [sizeL, alignL, h]
  refine ⟨fun n k hk => ?_, fun n => (hsz n).1, fun _ _ => Nat.le_refl _, by decide, fun k hk h5 => ?_, fun k hk => ?_, fun k hk => ?_, fun n => (hsz n).2, fun k hk h => ?_, fun k hk => ?_⟩
  · match n with
    | 0 => simp [L0] at hk; subst hk; exact .inl ⟨rfl, rfl, rfl⟩
    | 1 => simp [L0] at hk; subst hk; exact .inr (.inl ⟨rfl, rfl, rfl, rfl⟩)
    | 2 => simp [L0] at hk; subst hk; exact .inr (.inr (.inl ⟨rfl, rfl, rfl, rfl⟩))
    | n + 3 => simp [L0] at hk
  · simp [L0, kn] at hk
    rcases hk with rfl | rfl | rfl <;> simp at h5
  · simp [L0, kn] at hk
    rcases hk with rfl | rfl | rfl <;> simp
  · simp [L0, kn] at hk
    rcases hk with rfl | rfl | rfl <;> simp [layR]
  · simp [L0, kn] at hk
    rcases hk with rfl | rfl | rfl <;> exact absurd rfl h
  · simp [L0, kn] at hk
    rcases hk with rfl | rfl | rfl <;> simp

/-- The page's examples. -/
theorem awake_ok {H : Heap} : evCall Try.prog (C μ) 99 1 9 [] H = some (vb true, H) := by kernel_rfl

def badA (a : Act) : Bool := decide (100 < a.name.size) || decide (12 < a.fs.length) || a.fs.any fun f => decide (100 < f.name.size)
def fewL (l : List Act) : Bool := decide (l.length ≤ 30) && !l.any badA
def aAt (l : List Act) (k : Nat) : Act := l.getD k ⟨0, 0, 0, ⟨#[]⟩, false, []⟩
theorem aAt_some {l : List Act} {k : Nat} (hk : k < l.length) : (l.map aD)[k]? = some (aD (aAt l k)) := by simp [aAt, hk]
theorem any_rangeA {l : List Act} (p : Act → Bool) : (List.range l.length).any (fun k => p (aAt l k)) = l.any p := by
  rw [Bool.eq_iff_iff, List.any_eq_true, List.any_eq_true]
  constructor
  · rintro ⟨k, hk, h⟩
    have hk' : k < l.length := by simpa using hk
    exact ⟨l[k], by simp, by simpa [aAt, hk'] using h⟩
  · rintro ⟨f, hf, h⟩
    obtain ⟨k, hk, rfl⟩ := List.mem_iff_getElem.1 hf
    exact ⟨k, by simpa using hk, by simpa [aAt, hk] using h⟩
theorem few_ok {d lim : Nat} {H : Heap} {v : AV} {l : List Act} (hv : SV H v 5 (l.map aD)) : evCall Try.prog (C μ) (d + 1) lim 8 [v] H = some (vb (fewL l), H) := by
  rw [evCall_pureEq (fi := fi8) rfl rfl (b8 _ _ _ _ _)]
  unfold s8 fewL
  have hln := hv.len1
  rw [List.length_map] at hln
  by_cases h30 : l.length ≤ 30
  · have h30' : ¬ (30 : Int) < l.length := by omega
    have hl0 : ∀ i, i < l.length → ¬ 12 < (aAt l i).fs.length → iterN LB (s8.l0 (evCall Try.prog (C μ) d 1) 1) [v.up 1, vi i, vi 0] ([] :: H) = some (if (aAt l i).fs.any (fun f => decide (100 < f.name.size)) then (.ret, [vb false], [] :: H) else (.exit 2, [v.up 1, vi i], [] :: H)) := fun i hi h12 => by
      obtain ⟨p, q, r⟩ := hv.read (aAt_some hi)
      have c4 : ∀ A : Arena, ld (A :: H) (q 4) = some (.d (fsD (aAt l i).nl (aAt l i).fs)) := fun A => r.cell A 4 _ rfl
      have hlf : lnS (.d (fsD (aAt l i).nl (aAt l i).fs)) = some (vi (aAt l i).fs.length) := rfl
      have rd : ∀ k, k < (aAt l i).fs.length → ixS 3 (.d (fsD (aAt l i).nl (aAt l i).fs)) (vi k) = some (.dptr ((aAt l i).fs.flatMap fD) (k * 3)) ∧ ((aAt l i).fs.flatMap fD)[k * 3]? = some (.str (fAt (aAt l i).fs k).name) := fun k hk => by
        refine ⟨by simp [fsD, inB_nat hk], ?_⟩
        have := fsD_cut (fAt_some hk)
        rw [cut_eq (by rw [fsD_len]; omega)] at this
        simp only [Option.some.injEq] at this
        have g : (((aAt l i).fs.flatMap fD).drop (k * 3)).take 3 = fD (fAt (aAt l i).fs k) := this
        have := congrArg (fun x => x[0]?) g
        simpa [fD] using this
      have := iter_any (F := s8.l0 (evCall Try.prog (C μ) d 1) 1) (H := [] :: H) (n := (aAt l i).fs.length) (fun k => [v.up 1, vi i, vi k]) (fun k => decide (100 < (fAt (aAt l i).fs k).name.size)) (rv := (.ret, [vb false], [] :: H)) (ex := (.exit 2, [v.up 1, vi i], [] :: H)) (by omega)
        (fun k hk hp => by
          obtain ⟨e1, e2⟩ := rd k hk
          have hp' : ¬ (100 : Int) < (fAt (aAt l i).fs k).name.size := by simp at hp; omega
          unfold s8.l0
          simp -implicitDefEqProofs [r.ix, r.fa, c4, hlf, hk, e1, e2, hp', wrap_succ (show k < 1000000000 by omega)])
        (fun k hk hp => by
          obtain ⟨e1, e2⟩ := rd k hk
          have hp' : (100 : Int) < (fAt (aAt l i).fs k).name.size := by simp at hp; omega
          unfold s8.l0
          simp -implicitDefEqProofs [r.ix, r.fa, c4, hlf, hk, e1, e2, hp']) (by simp) (by unfold s8.l0; simp -implicitDefEqProofs [r.ix, r.fa, c4, hlf]) (by simp)
      rw [any_range (fun f => decide (100 < f.name.size))] at this
      exact this
    have hl1 := iter_any (F := s8.l1 (evCall Try.prog (C μ) d 1) 1) (H := [] :: H) (n := l.length) (fun k => [v.up 1, vi k]) (fun k => badA (aAt l k)) (rv := (.ret, [vb false], [] :: H)) (ex := (.exit 0, [], [] :: H)) (by omega)
      (fun k hk hp => by
        obtain ⟨p, q, r⟩ := hv.read (aAt_some hk)
        have c3 : ∀ A : Arena, ld (A :: H) (q 3) = some (vs (aAt l k).name) := fun A => r.cell A 3 _ rfl
        have c4 : ∀ A : Arena, ld (A :: H) (q 4) = some (.d (fsD (aAt l k).nl (aAt l k).fs)) := fun A => r.cell A 4 _ rfl
        have hlf : lnS (.d (fsD (aAt l k).nl (aAt l k).fs)) = some (vi (aAt l k).fs.length) := rfl
        simp only [badA, Bool.or_eq_false_iff, decide_eq_false_iff_not] at hp
        have h1 : ¬ (100 : Int) < (aAt l k).name.size := by omega
        have h2 : ¬ (12 : Int) < (aAt l k).fs.length := by omega
        have h0 := hl0 k hk hp.1.2
        rw [hp.2] at h0
        unfold s8.l1
        simp -implicitDefEqProofs [hln, hk, r.ix, r.fa, c3, c4, hlf, h1, h2, lp, bnd_eq, h0, gv, wrap_succ (show k < 1000000000 by omega)])
      (fun k hk hp => by
        obtain ⟨p, q, r⟩ := hv.read (aAt_some hk)
        have c3 : ∀ A : Arena, ld (A :: H) (q 3) = some (vs (aAt l k).name) := fun A => r.cell A 3 _ rfl
        have c4 : ∀ A : Arena, ld (A :: H) (q 4) = some (.d (fsD (aAt l k).nl (aAt l k).fs)) := fun A => r.cell A 4 _ rfl
        have hlf : lnS (.d (fsD (aAt l k).nl (aAt l k).fs)) = some (vi (aAt l k).fs.length) := rfl
        unfold s8.l1
        by_cases h1 : (100 : Int) < (aAt l k).name.size
        · simp -implicitDefEqProofs [hln, hk, r.ix, r.fa, c3, h1]
        · by_cases h2 : (12 : Int) < (aAt l k).fs.length
          · simp -implicitDefEqProofs [hln, hk, r.ix, r.fa, c3, c4, hlf, h1, h2]
          · have h0 := hl0 k hk (by omega)
            have hp' : (aAt l k).fs.any (fun f => decide (100 < f.name.size)) = true := by
              simp only [badA, Bool.or_eq_true, decide_eq_true_eq] at hp
              rcases hp with (h | h) | h
              · omega
              · omega
              · exact h
            rw [hp'] at h0
            simp -implicitDefEqProofs [hln, hk, r.ix, r.fa, c3, c4, hlf, h1, h2, lp, bnd_eq, h0, gv])
      (by simp) (by unfold s8.l1; simp -implicitDefEqProofs [hln]) (by simp)
    rw [any_rangeA badA] at hl1
    simp only [Int.natCast_zero] at hl1
    generalize l.any badA = bad at hl1 ⊢
    simp -implicitDefEqProofs [hln, h30, h30', lp, bnd_eq, hl1]
    cases bad with
    | true => simp [gv]
    | false => simp [gv]
  · have h30' : (30 : Int) < l.length := by omega
    simp [hln, h30, h30']
end Go.Ev.Try

/- Of no table nothing is told. -/
namespace Go.Ev.Try
open Go Go.Ev Go.Proofs

variable {d : Nat}
theorem nil13 {lim : Nat} {H : Heap} {n : Int} : evCall Try.prog (C 0) (d + 1) lim 13 [.nilptr, vi n] H = some (pair 0 1, H) := by
  rw [evCall_inEq (fi := fi13) rfl rfl (b13 _ _ _ _ _ _)]
  unfold s13
  simp -implicitDefEqProofs
theorem nil14 {lim : Nat} {H : Heap} {n m : Int} : evCall Try.prog (C 0) (d + 1) lim 14 [.nilptr, vi n, vi m] H = some (pair 0 1, H) := by
  rw [evCall_inEq (fi := fi14) rfl rfl (b14 _ _ _ _ _ _ _)]
  unfold s14
  simp -implicitDefEqProofs
theorem nil27 {lim : Nat} {H : Heap} {s : ByteArray} : evCall Try.prog (C 0) (d + 1) lim 27 [.nilptr, vs s] H = some (pair 0 1, H) := by
  rw [evCall_inEq (fi := fi27) rfl rfl (b27 _ _ _ _ _ _)]
  unfold s27
  simp -implicitDefEqProofs
theorem nil28 {lim : Nat} {A : Arena} {H : Heap} {s : ByteArray} {v : AV} : evCall Try.prog (C 0) (d + 1) lim 28 [.nilptr, vs s, v] (A :: H) = some (pair 0 1, (A ++ [some [.nilptr]]) :: H) := by
  rw [evCall_inEq (fi := fi28) rfl rfl (b28 _ _ _ _ _ _ _)]
  unfold s28
  rw [bx_leaf (v := .nilptr) rfl]
  simp -implicitDefEqProofs
theorem nil20 {lim : Nat} {H : Heap} {n : Int} : evCall Try.prog (C 0) (d + 1) lim 20 [.nilptr, vi n] H = some (.tup [typeA noK, vi 1], H) := by
  rw [evCall_pureEq (fi := fi20) rfl rfl (b20 _ _ _ _ _ _)]
  unfold s20
  have hb : bld [(0, 1), (1, 1), (2, 1), (3, 1), (4, 1)] [.d (.int .i64 0), .d (.int .i64 0), .d (.int .i64 0), .d (.str ⟨#[]⟩), .d (.seq true 0 [])] [] = some (typeA noK) := rfl
  have hst : stA 5 1 ([some [.d (.int .i64 0), .d (.int .i64 0), .d (.int .i64 0), .d (.str ⟨#[]⟩), .d (.seq true 0 [])]] :: H) (.ptr 0 0 0) (typeA noK) = some (.undef, [some [.d (.int .i64 0), .d (.int .i64 0), .d (.int .i64 0), .d (.str ⟨#[]⟩), .d (.seq true 0 [])]] :: H) := rfl
  simp -implicitDefEqProofs [hb, hst, rs, rsL, one, cut_eq]
  rfl
theorem nil16 {lim : Nat} {H : Heap} {s : ByteArray} : evCall Try.prog (C 0) (d + 1) lim 16 [.nilptr, vs s] H = some (pair 0 1, H) := by
  rw [evCall_pureEq (fi := fi16) rfl rfl (b16 _ _ _ _ _ _)]
  unfold s16
  simp -implicitDefEqProofs
theorem nil18 {lim : Nat} {H : Heap} {n : Int} {s : ByteArray} : evCall Try.prog (C 0) (d + 1) lim 18 [.nilptr, vi n, vs s] H = some (.tup [.agg (fcells noF), vi 1], H) := by
  rw [evCall_pureEq (fi := fi18) rfl rfl (b18 _ _ _ _ _ _ _)]
  unfold s18
  have hb : bld [(0, 1), (1, 1), (2, 1)] [.d (.str ⟨#[]⟩), .d (.int .i64 0), .d (.int .i64 0)] [] = some (.agg (fcells noF)) := rfl
  have hst : stA 3 1 ([some [.d (.str ⟨#[]⟩), .d (.int .i64 0), .d (.int .i64 0)]] :: H) (.ptr 0 0 0) (.agg (fcells noF)) = some (.undef, [some (fcells noF)] :: H) := rfl
  have e3 : cut (fcells noF) 0 3 = some (fcells noF) := rfl
  simp -implicitDefEqProofs [hb, hst, rs, rsL, one, e3]
  simp [fcells, noF]
theorem nil15 {lim : Nat} {H : Heap} : evCall Try.prog (C 0) (d + 1) lim 15 [.nilptr] H = some (vi 0, H) := by
  rw [evCall_pureEq (fi := fi15) rfl rfl (b15 _ _ _ _ _)]
  unfold s15
  simp -implicitDefEqProofs
theorem nil21 {lim : Nat} {H : Heap} {n : Int} : evCall Try.prog (C 0) (d + 2) lim 21 [.nilptr, vi n] H = some (vi 0, H) := by
  rw [evCall_pureEq (fi := fi21) rfl rfl (b21 _ _ _ _ _ _)]
  unfold s21
  simp -implicitDefEqProofs [has_nil]
theorem nil22 {lim : Nat} {H : Heap} {n : Int} : evCall Try.prog (C 0) (d + 2) lim 22 [.nilptr, vi n] H = some (vi 0, H) := by
  rw [evCall_pureEq (fi := fi22) rfl rfl (b22 _ _ _ _ _ _)]
  unfold s22
  simp -implicitDefEqProofs [has_nil]
theorem nil26 {lim : Nat} {H : Heap} {n : Int} : evCall Try.prog (C 0) (d + 2) lim 26 [.nilptr, vi n] H = some (vb false, H) := by
  rw [evCall_pureEq (fi := fi26) rfl rfl (b26 _ _ _ _ _ _)]
  unfold s26
  simp -implicitDefEqProofs [has_nil]
theorem nil11 {lim : Nat} {H : Heap} {a : Act} (ha : ActOk a) : evCall Try.prog (C 0) (d + 9) lim 11 [.agg (acs a), .nilptr, .d (rows L0)] H = some (.tup [vi 0, vi 1, madeA (doneL L0 a)], H) := by
  rw [evCall_pureEq (fi := fi11 0) rfl rfl (b11 _ _ _ _ _ _ _)]
  unfold s11
  have hup : (acs a).map (AV.up 1) = acs a := by simp [acs]
  simp only [AV.upL, AV.up, upL_eq, hup]
  rw [bx_agg (acs_leaf a)]
  have g0 : (acs a)[0]? = some (vi a.kind) := rfl
  have g1 : (acs a)[1]? = some (vi a.n) := rfl
  have g2 : (acs a)[2]? = some (vi a.long) := rfl
  have g3 : (acs a)[3]? = some (vs a.name) := rfl
  have g4 : (acs a)[4]? = some (.d (fsD a.nl a.fs)) := rfl
  have hzm : zMade = [.d (.int .i64 0), .d (.seq true 0 []), .d (.int .i64 0)] := rfl
  have st : ∀ (B : Arena) (m : Int × Int × List Known), stA 3 1 ((some (acs a) :: some zMade :: B) :: H) (.ptr 0 1 0) (madeA m) = some (.undef, (some (acs a) :: some [vi m.1, .d (rows m.2.2), vi m.2.1] :: B) :: H) := fun B m => rfl
  have hI := inv0
  have hs := hI.sane
  unfold doneL
  simp -implicitDefEqProofs [← hzm, g0]
  by_cases k0 : a.kind = 0
  · have hr := fun H => ptrr_ok (μ := 0) (d := d + 6) (lim := 1) (H := H) hI.len (n := a.n)
    simp -implicitDefEqProofs [k0, g1, nil13, hr, st, rs, rsL, one, cut_eq]
    simp [madeA]
  · by_cases k1 : a.kind = 1
    · have hr := fun H => arrayr_ok (μ := 0) hI.wf (D := 0) (d := d + 8) (lim := 1) (H := H) hI.len (n := a.n) (long := a.long) (hs.size _) (hI.dep _) (by omega)
      simp -implicitDefEqProofs [k0, k1, g1, g2, nil14, hr, st, rs, rsL, one, cut_eq]
      simp [madeA]
    · by_cases k2 : a.kind = 2
      · have hr := fun H => openr_ok (μ := 0) (d := d + 6) (lim := 1) (H := H) hI.len (name := a.name)
        simp -implicitDefEqProofs [k0, k1, k2, g3, nil27, hr, st, rs, rsL, one, cut_eq]
        simp [madeA]
      · obtain ⟨x, hx, A1, f, rfl, ho, hA1l, hA1⟩ := conv_loop (call := evCall Try.prog (C 0) (d + 8) 1) (lim := 1) (by omega) (H := H) ha (A0 := [some (acs a), some zMade]) (i0 := 0) (i1 := 1) rfl .nilptr (.d (rows L0))
        obtain ⟨B, rfl⟩ : ∃ B, A1 = some (acs a) :: some zMade :: B := by
          have h0 := hA1 0 (by simp)
          have h1 := hA1 1 (by simp)
          match A1, h0, h1 with
          | a :: b :: B, h0, h1 => simp at h0 h1; exact ⟨B, by rw [h0, h1]⟩
          | [a], h0, h1 => simp at h1
          | [], h0, h1 => simp at h0
        have hr := structr_ok (μ := 0) hI.wf (D := 0) (d := d + 8) (lim := 1) (H := (some (acs a) :: some zMade :: (B ++ [some [.nilptr]])) :: H) (name := a.name) (out_fv (ho.more [some [.nilptr]])) hI.len ha.len hI.bnd hs hI.zero hI.dep (by omega)
        have h28 := fun v => nil28 (d := d + 7) (lim := 1) (A := some (acs a) :: some zMade :: B) (H := H) (s := a.name) (v := v)
        simp -implicitDefEqProofs [k0, k1, k2, lp, bnd_eq, hx, gv, g3, g4, h28, hr, st, rs, rsL, one, cut_eq]
        simp [madeA]
end Go.Ev.Try

/- KindNone: of no table nothing is told. -/
namespace Go.Ev.Try
open Go Go.Ev Go.Proofs

def eqFb (f g : Fld) : Bool := decide (f.name = g.name) && decide (f.type = g.type) && decide (f.at_ = g.at_)
theorem bif3 (a b c : Bool) : ((bif a then (bif b then (bif c then some true else some false) else some false) else some false).map fun b => AV.d (.bool b)) = some (vb (a && b && c)) := by
  cases a <;> cases b <;> cases c <;> rfl
theorem bif3n (a b c : Bool) : ((bif a then (bif b then (bif c then some true else some false) else some false) else some false).map fun b => AV.d (.bool !b)) = some (vb (!(a && b && c))) := by
  cases a <;> cases b <;> cases c <;> rfl
theorem eqF_bits (f g : Fld) : (f.name.toList == g.name.toList && f.type == g.type && f.at_ == g.at_) = eqFb f g := by
  rw [toList_beq]
  rfl
theorem eq45 (f g : Fld) : abin Try.prog .eql 45 (.agg (fcells f)) (.agg (fcells g)) = some (vb (eqFb f g)) := by
  rw [← eqF_bits, ← bif3]
  kernel_rfl
theorem ne52 (f g : Fld) : abin Try.prog .neq 52 (.agg (fcells f)) (.agg (fcells g)) = some (vb (!eqFb f g)) := by
  rw [← eqF_bits, ← bif3n]
  kernel_rfl
theorem eqF_self (f : Fld) : eqFb f f = true := by simp [eqFb]
theorem kindNone {H : Heap} {a : Act} (hn : a.nl = true → a.fs = []) {n : Int} : evCall Try.prog (C 0) 100 1 7 [.agg (acs a), vi n] H = some (vb true, H) := by
  rw [evCall_pureEq (fi := fi7) rfl rfl (b7 _ _ _ _ _)]
  unfold s7
  have hup : (acs a).map (AV.up 1) = acs a := by simp [acs]
  simp only [AV.upL, AV.up, upL_eq, hup]
  rw [bx_agg (acs_leaf a)]
  have hl5 : (acs a).length = 5 := rfl
  have hcut : cut (acs a) 0 5 = some (acs a) := cut_all rfl
  have hb1 := bldS_one (s := 5) (z := [.d (.int .i64 0), .d (.int .i64 0), .d (.int .i64 0), .d (.str ⟨#[]⟩), .d (.seq true 0 [])]) (A := [some (acs a)]) (H := H) rfl hl5 (acs_leaf a)
  have hfew := few_ok (μ := 0) (d := 98) (lim := 1) (H := [some (acs a), some (acs a)] :: H) (v := .sl 0 1 0 1 5) (l := [a]) ⟨by simp [aD], .inr ⟨0, 1, rfl, by simp [aD_map]⟩⟩
  have haw := fun H => awake_ok (μ := 0) (H := H)
  simp -implicitDefEqProofs [hcut, hb1, hfew]
  cases hf : fewL [a] with
  | false => simp -implicitDefEqProofs [haw]
  | true =>
    have ha : ActOk a := ⟨hn, by simp [fewL, badA] at hf; omega⟩
    have h12 := fun H => begin_ok (μ := 0) (d := 98) (lim := 1) (H := H)
    have h11 := fun H => nil11 (d := 90) (lim := 1) (H := H) ha
    have g3 : (acs a)[3]? = some (vs a.name) := rfl
    have st1 : ∀ (x y : Option (List AV)) (m : Int × Int × List Known), stA 3 1 ([x, y, some [.d (.int .i64 0), .d (.seq true 0 []), .d (.int .i64 0)]] :: H) (.ptr 0 2 0) (madeA m) = some (.undef, [x, y, some [vi m.1, .d (rows m.2.2), vi m.2.1]] :: H) := fun x y m => rfl
    have st2 : ∀ x y z : Option (List AV), stA 5 1 ([x, y, z, some [.d (.int .i64 0), .d (.int .i64 0), .d (.int .i64 0), .d (.str ⟨#[]⟩), .d (.seq true 0 [])]] :: H) (.ptr 0 3 0) (typeA noK) = some (.undef, [x, y, z, some [vi 0, vi 0, vi 0, vs ⟨#[]⟩, .d (.seq true 0 [])]] :: H) := fun x y z => rfl
    have st3 : ∀ x y z w : Option (List AV), stA 3 1 ([x, y, z, w, some [.d (.str ⟨#[]⟩), .d (.int .i64 0), .d (.int .i64 0)]] :: H) (.ptr 0 4 0) (.agg (fcells noF)) = some (.undef, [x, y, z, w, some (fcells noF)] :: H) := fun x y z w => rfl
    have hb : bld [(0, 1), (1, 1), (2, 1)] [.d (.str ⟨#[]⟩), .d (.int .i64 0), .d (.int .i64 0)] [] = some (.agg (fcells noF)) := rfl
    have e3 : cut (fcells noF) 0 3 = some (fcells noF) := rfl
    have ck3 : ∀ X, ck [true, true, true] X = X := fun X => rfl
    have w0 : IntKind.i64.wrap 0 = 0 := by decide
    have h20 := fun H => nil20 (d := 98) (lim := 1) (H := H) (n := n)
    have h16 := fun H => nil16 (d := 98) (lim := 1) (H := H) (s := a.name)
    have h18 := fun H => nil18 (d := 98) (lim := 1) (H := H) (n := n) (s := a.name)
    have h15 := fun H => nil15 (d := 98) (lim := 1) (H := H)
    have h21 := fun H => nil21 (d := 97) (lim := 1) (H := H) (n := n)
    have h22 := fun H => nil22 (d := 97) (lim := 1) (H := H) (n := n)
    have h26 := fun H => nil26 (d := 97) (lim := 1) (H := H) (n := n)
    simp -implicitDefEqProofs [hcut, h12, h11, again_self, ck3, st1, h20, st2, g3, h16, h18, st3, haw, hb, e3, eq45, eqF_self, h15, h21, h22, h26, w0]
end Go.Ev.Try

/- Arguments of the laws, read. -/
namespace Go.Ev.Try
open Go Go.Ev Go.Proofs

theorem u3 : Try.prog.underlying 3 = some (.int .i64) := by kernel_rfl
theorem u9 : Try.prog.underlying 9 = some .string := by kernel_rfl
theorem u32 : Try.prog.underlying 32 = some (.slice 45) := by kernel_rfl
theorem u22 : Try.prog.underlying 22 = some (.slice 34) := by kernel_rfl
theorem u45 : fieldTypes Try.prog 45 = some [9, 3, 3] := by kernel_rfl
theorem u34 : fieldTypes Try.prog 34 = some [3, 3, 3, 9, 32] := by kernel_rfl
theorem dok3 {f : Nat} {ds : List D} (h : DOk Try.prog (f + 1) 3 ds) : ∃ n, ds = [.int .i64 n] ∧ (Lit.int .i64 n).wf = true := by
  unfold DOk at h
  rw [u3] at h
  exact h
theorem dok9 {f : Nat} {ds : List D} (h : DOk Try.prog (f + 1) 9 ds) : ∃ s, ds = [.str s] ∧ s.size ≤ maxLen := by
  unfold DOk at h
  rw [u9] at h
  exact h
theorem dok45 {f : Nat} {ds : List D} (h : DOk Try.prog (f + 2) 45 ds) : ∃ g : Fld, ds = fD g := by
  obtain ⟨p, q, rfl, h1, p2, q2, rfl, h2, p3, q3, rfl, h3, rfl⟩ := dok_struct u45 h
  obtain ⟨s, rfl, _⟩ := dok9 h1
  obtain ⟨m, rfl, _⟩ := dok3 h2
  obtain ⟨n, rfl, _⟩ := dok3 h3
  exact ⟨⟨s, m, n⟩, rfl⟩
theorem rows_list {α : Type} {Q : List D → Prop} {g : α → List D} (hq : ∀ r, Q r → ∃ a, r = g a) : ∀ {rows : List (List D)}, (∀ r ∈ rows, Q r) → ∃ l : List α, rows = l.map g
  | [], _ => ⟨[], rfl⟩
  | r :: rows, h => by
    obtain ⟨a, ha⟩ := hq r (h r (by simp))
    obtain ⟨l, hl⟩ := rows_list hq (rows := rows) fun x hx => h x (by simp [hx])
    exact ⟨a :: l, by simp [ha, hl]⟩
theorem dok32 {f : Nat} {ds : List D} (h : DOk Try.prog (f + 3) 32 ds) : ∃ (nl : Bool) (fs : List Fld), ds = [fsD nl fs] ∧ (nl = true → fs = []) := by
  unfold DOk at h
  rw [u32] at h
  rcases h with rfl | ⟨rows, rfl, _, h⟩
  · exact ⟨true, [], rfl, fun _ => rfl⟩
  · obtain ⟨l, rfl⟩ := rows_list (g := fD) (fun r hr => dok45 hr.2) h
    exact ⟨false, l, by simp [fsD, List.flatMap], fun h => by cases h⟩
/-- An act whose slice is sound. -/
def actNl (a : Act) : Prop := a.nl = true → a.fs = []
theorem dok34 {f : Nat} {ds : List D} (h : DOk Try.prog (f + 4) 34 ds) : ∃ a : Act, ds = aD a ∧ actNl a := by
  obtain ⟨p, q, rfl, h1, p2, q2, rfl, h2, p3, q3, rfl, h3, p4, q4, rfl, h4, p5, q5, rfl, h5, rfl⟩ := dok_struct u34 h
  obtain ⟨m1, rfl, _⟩ := dok3 h1
  obtain ⟨m2, rfl, _⟩ := dok3 h2
  obtain ⟨m3, rfl, _⟩ := dok3 h3
  obtain ⟨s, rfl, _⟩ := dok9 h4
  obtain ⟨nl, fs, rfl, hnl⟩ := dok32 h5
  exact ⟨⟨m1, m2, m3, s, nl, fs⟩, rfl, hnl⟩
theorem dok22 {f : Nat} {d : D} (h : DOk Try.prog (f + 5) 22 [d]) : ∃ (nl : Bool) (l : List Act), d = .seq nl l.length (l.flatMap aD) ∧ ∀ a ∈ l, actNl a := by
  unfold DOk at h
  rw [u22] at h
  rcases h with h | ⟨rows, h, _, hr⟩
  · exact ⟨true, [], by simpa using h, fun a ha => by simp at ha⟩
  · obtain ⟨l, hl⟩ := rows_list (g := fun a : { a : Act // actNl a } => aD a.1) (Q := fun r => r.length = Try.prog.cellsOf 34 ∧ DOk Try.prog (f + 4) 34 r) (fun r hr => by
      obtain ⟨a, h1, h2⟩ := dok34 hr.2
      exact ⟨⟨a, h2⟩, h1⟩) hr
    refine ⟨false, l.map (·.1), ?_, fun a ha => ?_⟩
    · simp at h
      rw [h, hl]
      simp [List.flatMap, Function.comp_def]
    · obtain ⟨b, _, rfl⟩ := List.mem_map.1 ha
      exact b.2
theorem fits (μ : Nat) : ∀ f fi, C μ f = some fi → ∃ fn, Fits Try.prog f fi fn := fitsC μ
theorem follows : Try.prog.follows .mixedOrders = true := by kernel_rfl
end Go.Ev.Try

/- KindNone on the machine. -/
namespace Go.Ev.Try
open Go Go.Ev Go.Proofs Go.RowKit
theorem walkKindNone {ds : List D} {d : D} {W : World} {v0 v1 : Value} (h0 : DOk Try.prog 8 34 ds) (h1 : DOk Try.prog 8 3 [d]) (hv : VRs (IW W) G0 [.agg (ds.map .d), .d d] [v0, v1]) :
    Calls Try.prog 7 #[v0, v1] W (fun x W' => x = .returned (.bool true) ∧ Below W.heap.size W W') := by
  obtain ⟨a, rfl, hn⟩ := dok34 h0
  obtain ⟨n, h1, _⟩ := dok3 h1
  obtain rfl : d = .int .i64 n := by simpa using h1
  exact calls_true (fits 0) follows (kindNone hn) hv
end Go.Ev.Try
