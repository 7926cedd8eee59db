import Derived.Test.YtkbimbpaaikkeaaDoorK4
set_option linter.unusedSimpArgs false
set_option linter.unusedVariables false
/- Numbers in decimal: the document's digits are the library's. -/
set_option maxRecDepth 100000
namespace Go.Ev.Tryd
open Go Go.Ev Go.Proofs
/-- Bytes as a string. -/
def bstr (l : List UInt8) : ByteArray := ⟨l.toArray⟩
theorem bstr_app (a b : List UInt8) : bstr a ++ bstr b = bstr (a ++ b) := by
  apply ByteArray.ext
  simp [bstr]
theorem bstr_size (a : List UInt8) : (bstr a).size = a.length := by simp [bstr, ByteArray.size]
theorem abin_cat {P : Program} {t : TypeId} {x y : ByteArray} (h : x.size + y.size ≤ 9223372036854775807) : abin P .add t (vs x) (vs y) = some (vs (x ++ y)) := by
  have e : decide (((x.size + y.size : Nat) : Int) > IntKind.i64.max) = false := by
    rw [show IntKind.i64.max = 9223372036854775807 from rfl]
    simp only [decide_eq_false_iff_not]
    omega
  simp only [abin, strOp, e]
  rfl
theorem cat_l {P : Program} {t : TypeId} {x y : List UInt8} (h : x.length + y.length ≤ 9223372036854775807) : abin P .add t (vs (bstr x)) (vs (bstr y)) = some (vs (bstr (x ++ y))) := by
  rw [abin_cat (by simpa [bstr_size] using h), bstr_app]
theorem digit_at {r : Nat} (h : r < 10) : slStr (.d (.str ⟨#[48, 49, 50, 51, 52, 53, 54, 55, 56, 57]⟩)) (some (vi r)) (some (vi ((r : Int) + 1))) = some (vs (bstr [UInt8.ofNat (48 + r)])) := by
  have : r = 0 ∨ r = 1 ∨ r = 2 ∨ r = 3 ∨ r = 4 ∨ r = 5 ∨ r = 6 ∨ r = 7 ∨ r = 8 ∨ r = 9 := by omega
  rcases this with rfl | rfl | rfl | rfl | rfl | rfl | rfl | rfl | rfl | rfl <;> rfl
theorem dec_lt {u : Nat} (h : u < 10) : Lib.decDigits u = [UInt8.ofNat (48 + u)] := by rw [Lib.decDigits, dif_pos h]
theorem dec_ge {u : Nat} (h : 10 ≤ u) : Lib.decDigits u = Lib.decDigits (u / 10) ++ [UInt8.ofNat (48 + u % 10)] := by rw [Lib.decDigits, dif_neg (by omega)]
theorem dec_len : ∀ (k u : Nat), u < 10 ^ k → 0 < k → (Lib.decDigits u).length ≤ k
  | 0, u, _, h => by omega
  | k + 1, u, h, _ => by
    rcases Nat.lt_or_ge u 10 with hu | hu
    · rw [dec_lt hu]; simp
    · rw [dec_ge hu]
      have hk : 0 < k := by
        rcases Nat.eq_zero_or_pos k with rfl | hk
        · simp at h; omega
        · exact hk
      have := dec_len k (u / 10) (by rw [Nat.pow_succ] at h; omega) hk
      simp
      omega
/-- What stands ahead of the digits that are written. -/
def ahead (m : Nat) : List UInt8 := if m = 0 then [] else Lib.decDigits m
theorem ahead_step {m : Nat} (h : m ≠ 0) : ahead m = ahead (m / 10) ++ [UInt8.ofNat (48 + m % 10)] := by
  unfold ahead
  rw [if_neg h]
  rcases Nat.lt_or_ge m 10 with hm | hm
  · rw [dec_lt hm, show m / 10 = 0 by omega, if_pos rfl, show m % 10 = m by omega]; rfl
  · rw [dec_ge hm, if_neg (by omega)]
abbrev numL (n : Int) : List UInt8 := Lib.itoa n
section
variable {d lim : Nat} {H : Heap}
theorem itoa30 {n : Int} (h0 : -9223372036854775808 ≤ n) (h1 : n ≤ 9223372036854775807) : evCall Tryd.prog C (d + 1) lim 30 [vi n] H = some (vs (bstr (numL n)), H) := by
  have e : C 30 = some fi30 := rfl
  simp only [evCall, e, Option.bind_some]
  show (orc30 [vi n]).map _ = _
  simp [orc30, h0, h1, bstr]
theorem loop33 {call : ACall} {N : Nat} {t : List UInt8} (hN : N < 10 ^ 18) (ht : t.length ≤ 1) :
    Gives (iterN LB (s33.l0 call 1) [.d (.str ⟨#[48, 49, 50, 51, 52, 53, 54, 55, 56, 57]⟩), vs (bstr t), vi N] H) (fun r => r = (.exit 0, [vs (bstr (ahead N ++ t))], H)) := by
  refine iter_gives (Inv := fun k s Hh => ∃ (m : Nat) (u : List UInt8), s = [.d (.str ⟨#[48, 49, 50, 51, 52, 53, 54, 55, 56, 57]⟩), vs (bstr u), vi m] ∧ Hh = H ∧ m = N / 10 ^ k ∧ u.length ≤ k + 1 ∧ ahead m ++ u = ahead N ++ t) 20 (big_lt (by omega)) (fun k hk s Hh hi => ?_)
    ⟨N, t, rfl, rfl, by simp, by omega, rfl⟩
  obtain ⟨m, u, rfl, rfl, hm, hu, he⟩ := hi
  by_cases h0 : m = 0
  · subst h0
    refine .inr ⟨(.exit 0, [vs (bstr u)], Hh), ?_, by simp, ?_⟩
    · unfold s33.l0
      simp -implicitDefEqProofs [abin_gtr]
    · rw [← he]; simp [ahead]
  · have hk' : k < 20 := by
      rcases Nat.lt_or_ge k 20 with h | h
      · exact h
      · exfalso
        obtain rfl : k = 20 := by omega
        have : N / 10 ^ 20 = 0 := Nat.div_eq_of_lt (Nat.lt_of_lt_of_le hN (Nat.pow_le_pow_right (by decide) (by decide)))
        omega
    have hmN : m ≤ N := by rw [hm]; exact Nat.div_le_self _ _
    have hb : N < 1000000000000000000 := by simpa using hN
    refine .inl ⟨[.d (.str ⟨#[48, 49, 50, 51, 52, 53, 54, 55, 56, 57]⟩), vs (bstr (UInt8.ofNat (48 + m % 10) :: u)), vi ((m / 10 : Nat) : Int)], Hh, hk', ?_, m / 10, _, rfl, rfl, by rw [hm, Nat.div_div_eq_div_mul, Nat.pow_succ], by simp; omega, by rw [← he, ahead_step h0]; simp⟩
    have hp : (0 : Int) < m := by omega
    have r1 : abin Tryd.prog .rem 3 (vi m) (vi 10) = some (vi ((m % 10 : Nat) : Int)) := by
      rw [abin_rem _ _ _ _ _ (by decide), Int.tmod_eq_emod_of_nonneg (by omega)]; simp
    have r2 : abin Tryd.prog .quo 3 (vi m) (vi 10) = some (vi ((m / 10 : Nat) : Int)) := by
      rw [abin_quo _ _ _ _ _ (by decide), Int.tdiv_eq_ediv_of_nonneg (by omega), wrap_ok _ (by omega) (by omega)]; simp
    have r3 : abin Tryd.prog .add 3 (vi ((m % 10 : Nat) : Int)) (vi 1) = some (vi (((m % 10 : Nat) : Int) + 1)) := by
      rw [abin_add, wrap_ok _ (by omega) (by omega)]
    have r4 := digit_at (r := m % 10) (Nat.mod_lt _ (by decide))
    have r5 := cat_l (P := Tryd.prog) (t := 9) (x := [UInt8.ofNat (48 + m % 10)]) (y := u) (by simp; omega)
    generalize ((m % 10 : Nat) : Int) = q at *
    unfold s33.l0
    simp only [List.singleton_append] at r5
    generalize bstr [UInt8.ofNat (48 + m % 10)] = b1 at *
    simp only [pu, List.getD_cons_zero, List.getD_cons_succ, abin_gtr, hp, decide_true, Option.map_some, bnd_eq, Option.bind_some, asB_b, cn, cond_true, r1, r3, r4, r5, r2]
end
end Go.Ev.Tryd

/- Numbers in decimal: the document's functions. -/
set_option maxRecDepth 100000
namespace Go.Ev.Tryd
open Go Go.Ev Go.Proofs
/-- A number that can be written. -/
def Num (n : Int) : Prop := -10000000000000 ≤ n ∧ n ≤ 10000000000000
theorem ahead_all (N : Nat) : ahead (N / 10) ++ [UInt8.ofNat (48 + N % 10)] = Lib.decDigits N := by
  by_cases h : N = 0
  · subst h
    unfold ahead
    rw [if_pos rfl, dec_lt (by decide)]
    rfl
  · rw [← ahead_step h]
    unfold ahead
    rw [if_neg h]
theorem numL_nat (N : Nat) : numL (N : Int) = Lib.decDigits N := by
  unfold numL Lib.itoa
  rw [if_neg (by omega)]
  simp
theorem numL_neg {n : Int} (h : n < 0) : numL n = 45 :: Lib.decDigits n.natAbs := by
  unfold numL Lib.itoa
  rw [if_pos h]
theorem numL_len {n : Int} (h : Num n) : (numL n).length ≤ 20 := by
  unfold Num at h
  by_cases hn : n < 0
  · rw [numL_neg hn]
    have := dec_len 18 n.natAbs (by simp; omega) (by decide)
    simp
    omega
  · obtain ⟨N, rfl⟩ : ∃ N : Nat, n = N := ⟨n.toNat, by omega⟩
    rw [numL_nat]
    have := dec_len 18 N (by simp; omega) (by decide)
    omega
section
variable {d lim : Nat} {H : Heap}
theorem num33p {N : Nat} (hN : N < 100000000000000000) : evCall Tryd.prog C (d + 1) lim 33 [vi N] H = some (vs (bstr (Lib.decDigits N)), H) := by
  rw [evCall_pureEq (fi := fi33) rfl rfl (b33 _ _ _ _)]
  unfold s33
  have hu : (vi (N : Int)).up 1 = vi N := rfl
  rw [hu]
  have r0 : abin Tryd.prog .lss 3 (vi N) (vi 0) = some (vb false) := by
    rw [abin_lss]
    have : ¬ ((N : Int) < 0) := by omega
    simp [this]
  have r1 : abin Tryd.prog .rem 3 (vi N) (vi 10) = some (vi ((N % 10 : Nat) : Int)) := by
    rw [abin_rem _ _ _ _ _ (by decide), Int.tmod_eq_emod_of_nonneg (by omega)]; simp
  have r2 : abin Tryd.prog .quo 3 (vi N) (vi 10) = some (vi ((N / 10 : Nat) : Int)) := by
    rw [abin_quo _ _ _ _ _ (by decide), Int.tdiv_eq_ediv_of_nonneg (by omega), wrap_ok _ (by omega) (by omega)]; simp
  have r3 : abin Tryd.prog .add 3 (vi ((N % 10 : Nat) : Int)) (vi 1) = some (vi (((N % 10 : Nat) : Int) + 1)) := by
    rw [abin_add, wrap_ok _ (by omega) (by omega)]
  have r4 := digit_at (r := N % 10) (Nat.mod_lt _ (by decide))
  have hl := fun H => loop33 (H := H) (call := evCall Tryd.prog C d 1) (N := N / 10) (t := [UInt8.ofNat (48 + N % 10)]) (by simp; omega) (by simp)
  obtain ⟨r, hr, rfl⟩ := hl ([] :: H)
  rw [ahead_all] at hr
  generalize ((N % 10 : Nat) : Int) = q at *
  generalize ((N / 10 : Nat) : Int) = q2 at *
  generalize bstr [UInt8.ofNat (48 + N % 10)] = b1 at *
  simp only [pu, r0, r1, r2, r3, r4, lp, hr, Option.map_some, bnd_eq, Option.bind_some, asB_b, cn, cond_false, dsp_exit, gv, List.getD_cons_zero, rt, headA_cons, leave_d]
theorem num33 {n : Int} (h : Num n) : evCall Tryd.prog C (d + 2) lim 33 [vi n] H = some (vs (bstr (numL n)), H) := by
  unfold Num at h
  by_cases hn : n < 0
  · rw [evCall_pureEq (fi := fi33) rfl rfl (b33 _ _ _ _)]
    unfold s33
    have hu : (vi n).up 1 = vi n := rfl
    rw [hu]
    have r0 : abin Tryd.prog .lss 3 (vi n) (vi 0) = some (vb true) := by rw [abin_lss]; simp [hn]
    have r1 : aun .neg (vi n) = some (vi ((n.natAbs : Nat) : Int)) := by
      simp only [aun]
      rw [wrap_ok _ (by omega) (by omega), show (0 : Int) - n = ((n.natAbs : Nat) : Int) by omega]
    have r2 := fun H => num33p (d := d) (lim := 1) (H := H) (N := n.natAbs) (by omega)
    have hlen := numL_len (n := n) h
    rw [numL_neg hn] at hlen ⊢
    have r3 := cat_l (P := Tryd.prog) (t := 9) (x := [45]) (y := Lib.decDigits n.natAbs) (by simp at hlen ⊢; omega)
    have e : (.d (.str ⟨#[45]⟩) : AV) = vs (bstr [45]) := rfl
    rw [e]
    simp only [List.singleton_append] at r3
    generalize bstr [45] = b1 at *
    simp only [pu, bi, r0, r1, r2, r3, Option.map_some, bnd_eq, Option.bind_some, asB_b, cn, cond_true, rt, headA_cons, leave_d]
  · obtain ⟨N, rfl⟩ : ∃ N : Nat, n = N := ⟨n.toNat, by omega⟩
    rw [numL_nat]
    exact num33p (d := d + 1) (by omega)
theorem num34 {n : Int} (h : Num n) : evCall Tryd.prog C (d + 3) lim 34 [vi n] H = some (vs (bstr (32 :: numL n)), H) := by
  rw [evCall_pureEq (fi := fi34) rfl rfl (b34 _ _ _ _)]
  unfold s34
  have hu : (vi n).up 1 = vi n := rfl
  rw [hu]
  have r2 := fun H => num33 (d := d) (lim := 1) (H := H) h
  have hlen := numL_len h
  have r3 := cat_l (P := Tryd.prog) (t := 9) (x := [32]) (y := numL n) (by simp; omega)
  have e : (.d (.str ⟨#[32]⟩) : AV) = vs (bstr [32]) := rfl
  rw [e]
  simp only [List.singleton_append] at r3
  generalize bstr [32] = b1 at *
  simp only [pu, bi, r2, r3, Option.map_some, bnd_eq, Option.bind_some, rt, headA_cons, leave_d]
end
end Go.Ev.Tryd

/- A builder of strings. -/
set_option maxRecDepth 100000
namespace Go.Ev.Tryd
open Go Go.Ev Go.Proofs
def cellsL (s : List UInt8) : List AV := s.map fun b => .d (.int .u8 b.toNat)
theorem cellsL_app (s t : List UInt8) : cellsL (s ++ t) = cellsL s ++ cellsL t := by simp [cellsL]
theorem cellsL_len (s : List UInt8) : (cellsL s).length = s.length := by simp [cellsL]
theorem cellsL_leaf (s : List UInt8) : (cellsL s).all AV.leaf = true := by simp [cellsL, AV.leaf]
theorem bytesOf_cells : ∀ s : List UInt8, bytesOf (cellsL s) = some s
  | [] => rfl
  | b :: s => by
    have h : (decide ((0 : Int) ≤ (b.toNat : Int)) && decide ((b.toNat : Int) < 256)) = true := by
      have := b.toNat_lt
      simp
      omega
    show bytesOf (.d (.int .u8 b.toNat) :: cellsL s) = _
    unfold bytesOf
    rw [h, bytesOf_cells s]
    simp
theorem elStr_b (t : List UInt8) : elStr (vs (bstr t)) = some (t.length, cellsL t) := by
  simp only [elStr, bstr_size]
  simp [byteCells, cellsL, bstr]
theorem appB_none {A : Arena} {H : Heap} {v : AV} (h : v = .d (.seq true 0 []) ∨ ∃ j n, v = .bs 0 j n) : appW true 1 1 1 (A :: H) v (some (0, [])) = some (v, A :: H) := by
  rcases h with rfl | ⟨j, n, rfl⟩ <;> rfl
theorem appB_nil {A : Arena} {H : Heap} {t : List UInt8} (h0 : t.length ≠ 0) (h1 : t.length ≤ 1000000000) : appW true 1 1 1 (A :: H) (.d (.seq true 0 [])) (some (t.length, cellsL t)) = some (.bs 0 A.length t.length, (A ++ [some (cellsL t)]) :: H) := by
  have e : (t.length == 0) = false := by simpa using h0
  have f1 : Nat.ble t.length 140737488355328 = true := Nat.ble_eq_true_of_le (by omega)
  have f2 : Nat.ble (t.length * 1) 140737488355328 = true := Nat.ble_eq_true_of_le (by omega)
  simp only [appW, Option.bind_some, e, f1, f2, cellsL_leaf, Bool.and_true, cond_true, cond_false, pushB, Option.map_some]
  rfl
theorem appB_bs {A : Arena} {H : Heap} {j : Nat} {s t : List UInt8} (hA : A[j]? = some (some (cellsL s))) (h0 : t.length ≠ 0) (h1 : s.length + t.length ≤ 1000000000) :
    appW true 1 1 1 (A :: H) (.bs 0 j s.length) (some (t.length, cellsL t)) = some (.bs 0 A.length (s.length + t.length), (A.set j none ++ [some (cellsL s ++ cellsL t)]) :: H) := by
  have e : (t.length == 0) = false := by simpa using h0
  have f1 : Nat.ble (s.length + t.length) 140737488355328 = true := Nat.ble_eq_true_of_le (by omega)
  have f2 : Nat.ble ((s.length + t.length) * 1) 140737488355328 = true := Nat.ble_eq_true_of_le (by omega)
  have f3 : Nat.blt 0 1 = true := rfl
  have f4 : Nat.beq 1 1 = true := rfl
  have hj : (A[j]?).join = some (cellsL s) := by rw [hA]; rfl
  have hc : cut (cellsL s) 0 (s.length * 1) = some (cellsL s) := by
    unfold cut
    rw [if_pos (by rw [cellsL_len]; omega)]
    simp [← cellsL_len s]
  simp only [appW, Option.bind_some, e, f1, f2, f3, f4, cellsL_leaf, Bool.and_true, cond_true, cond_false, getB_zero, hj, hc, setB_zero, upN_zero, pushB, List.length_set, Option.map_some]
/-- A builder in the arena at hand: what it holds; `P`: blocks that stay. -/
structure BAt (A : Arena) (bk : Nat) (s : List UInt8) (P : Nat → Option (List AV)) : Prop where
  ex : ∃ ad bu, A[bk]? = some (some [ad, bu]) ∧ (ad = .nilptr ∨ ad = .bptr 0 bk) ∧ ((s = [] ∧ bu = .d (.seq true 0 [])) ∨ ∃ j, bu = .bs 0 j s.length ∧ A[j]? = some (some (cellsL s)) ∧ 0 < s.length ∧ j ≠ bk ∧ P j = none)
  self : P bk = none
  keep : ∀ i c, P i = some c → A[i]? = some (some c)
theorem u63 : Tryd.prog.underlying 63 = some (.pointer 65) := by kernel_rfl
theorem i65 : (Tryd.prog.info? 65).isSome = true := by kernel_rfl
theorem eq_nil : abin Tryd.prog .eql 63 .nilptr .nilptr = some (vb true) := by simp only [abin, eqLeaf, u63]; rfl
theorem eq_bp (l i : Nat) : abin Tryd.prog .eql 63 (.bptr l i) .nilptr = some (vb false) := by simp only [abin, eqLeaf, u63]; rfl
theorem ne_bp (l i : Nat) : abin Tryd.prog .neq 63 (.bptr l i) (.bptr l i) = some (vb false) := by
  simp only [abin, eqLeaf, u63, i65, nbeq_self]
  rfl
section
variable {d lim : Nat} {H : Heap} {A : Arena} {bk : Nat}
theorem same47 {H : Heap} {l i : Nat} : evCall Tryd.prog C (d + 1) lim 47 [.bptr l i] H = some (.bptr l i, H) := by
  have e : C 47 = some fi47 := rfl
  simp only [evCall, e, Option.bind_some]
  rfl
theorem check40 {ad bu : AV} (hb : A[bk]? = some (some [ad, bu])) (ha : ad = .nilptr ∨ ad = .bptr 0 bk) : ∃ A', evCall Tryd.prog C (d + 2) 1 40 [.bptr 0 bk] (A :: H) = some (.tup [], A' :: H) ∧ A' = A.set bk (some [.bptr 0 bk, bu]) := by
  rw [evCall_inEq (fi := fi40) rfl rfl (b40 _ _ _ _)]
  unfold s40
  have hj : (A[bk]?).join = some [ad, bu] := by rw [hb]; rfl
  have h47 := fun H => same47 (d := d) (lim := 1) (H := H) (l := 0) (i := bk)
  rcases ha with rfl | rfl
  · have hst := stA_leaf (H := H) (lim := 1) (A := A) (i := bk) (o := 0) (v := .bptr 0 bk) (c := [.nilptr, bu]) (by decide) rfl hj (by simp)
    refine ⟨_, ?_, rfl⟩
    simp -implicitDefEqProofs [getB_zero, hj, eq_nil, h47, hst]
  · refine ⟨A, ?_, ?_⟩
    · simp -implicitDefEqProofs [getB_zero, hj, eq_bp, ne_bp]
    · have hi := (List.getElem?_eq_some_iff.1 hb).1
      apply List.ext_getElem?
      intro k
      by_cases h : bk = k
      · subst h
        simp [hi]
        exact (List.getElem?_eq_some_iff.1 hb).2
      · simp [List.getElem?_set, h]
/-- A string is written on. -/
theorem write29 {s t : List UInt8} {P : Nat → Option (List AV)} (h : BAt A bk s P) (hl : s.length + t.length ≤ 1000000000) :
    ∃ z A', evCall Tryd.prog C (d + 3) 1 29 [.bptr 0 bk, vs (bstr t)] (A :: H) = some (z, A' :: H) ∧ BAt A' bk (s ++ t) P := by
  obtain ⟨⟨ad, bu, hb, ha, hbu⟩, hs, hk⟩ := h
  rw [evCall_inEq (fi := fi29) rfl rfl (b29 _ _ _ _ _)]
  unfold s29
  obtain ⟨A1, h40, hA1⟩ := check40 (d := d) (H := H) hb ha
  have hi := (List.getElem?_eq_some_iff.1 hb).1
  have hb1 : A1[bk]? = some (some [.bptr 0 bk, bu]) := by rw [hA1]; simp [hi]
  have hoth : ∀ k, k ≠ bk → A1[k]? = A[k]? := fun k hk => by rw [hA1, List.getElem?_set]; simp [Ne.symm hk]
  have hlen : A1.length = A.length := by rw [hA1]; simp
  have hj1 : (A1[bk]?).join = some [.bptr 0 bk, bu] := by rw [hb1]; rfl
  have hel := elStr_b t
  have hln : lnStr (vs (bstr t)) = some (vi t.length) := by simp [bstr_size]
  have hup : ∀ v : AV, (match v with | .d x => True | .bs _ _ _ => True | _ => False) → v.up 0 = v := fun v _ => up_zero v
  have hk1 : ∀ i c, P i = some c → A1[i]? = some (some c) := fun i c hi' => by
    rw [hoth i (fun e => by rw [e, hs] at hi'; cases hi')]
    exact hk i c hi'
  by_cases h0 : t.length = 0
  · obtain rfl : t = [] := List.eq_nil_of_length_eq_zero h0
    have hap := appB_none (A := A1) (H := H) (v := bu) (by
      rcases hbu with ⟨_, rfl⟩ | ⟨j, rfl, _⟩
      · exact .inl rfl
      · exact .inr ⟨_, _, rfl⟩)
    have hst := stA_leaf (H := H) (lim := 1) (A := A1) (i := bk) (o := 1) (v := bu) (c := [.bptr 0 bk, bu]) (by decide) (by rcases hbu with ⟨_, rfl⟩ | ⟨j, rfl, _⟩ <;> rfl) hj1 (by simp)
    refine ⟨.tup [vi ([] : List UInt8).length, .junk], A1.set bk (some [.bptr 0 bk, bu]), ?_, ⟨⟨.bptr 0 bk, bu, by simp [hlen, hi], .inr rfl, ?_⟩, hs, fun i c hi' => ?_⟩⟩
    rotate_left
    · rcases hbu with ⟨rfl, rfl⟩ | ⟨j, rfl, hj, hn, hne, hp⟩
      · exact .inl ⟨rfl, rfl⟩
      · refine .inr ⟨j, by simp, ?_, by simpa using hn, hne, hp⟩
        rw [List.getElem?_set]
        simp [Ne.symm hne, hoth j hne, hj]
    · have hne : i ≠ bk := fun e => by rw [e, hs] at hi'; cases hi'
      rw [List.getElem?_set]
      simp [Ne.symm hne, hk1 i c hi']
    simp only [List.length_nil] at hel
    have hel' : elStr (vs (bstr [])) = some (0, []) := hel
    simp only [Ev.bi, pu, h40, bnd_eq, Option.bind_some, anil_bptr, fa_bptr, ld_ptr, getB_zero, hj1, List.getElem?_cons_succ, List.getElem?_cons_zero, Option.map_some, up_zero, hel', hap, hst, hln, rt, List.set_cons_succ, List.set_cons_zero, headA_cons]
  · have happ : ∃ j' Ab, appW true 1 1 1 (A1 :: H) bu (some (t.length, cellsL t)) = some (.bs 0 j' (s.length + t.length), Ab :: H) ∧ Ab[j']? = some (some (cellsL (s ++ t))) ∧ j' ≠ bk ∧ P j' = none ∧ Ab[bk]? = some (some [.bptr 0 bk, bu]) ∧ ∀ i c, P i = some c → Ab[i]? = some (some c) := by
      have hPn : P A1.length = none := by
        cases e : P A1.length with
        | none => rfl
        | some c => have := (List.getElem?_eq_some_iff.1 (hk1 _ _ e)).1; omega
      rcases hbu with ⟨rfl, rfl⟩ | ⟨j, rfl, hj, hn, hne, hp⟩
      · refine ⟨A1.length, A1 ++ [some (cellsL t)], by rw [appB_nil h0 (by simp at hl; omega)]; simp, by simp, by omega, hPn, ?_, fun i c hi' => ?_⟩
        · rw [List.getElem?_append_left (by omega)]; exact hb1
        · have := hk1 i c hi'
          rw [List.getElem?_append_left (List.getElem?_eq_some_iff.1 this).1]; exact this
      · have hj' : A1[j]? = some (some (cellsL s)) := by rw [hoth j hne]; exact hj
        refine ⟨A1.length, A1.set j none ++ [some (cellsL s ++ cellsL t)], appB_bs hj' h0 hl, ?_, by omega, hPn, ?_, fun i c hi' => ?_⟩
        · rw [cellsL_app, List.getElem?_append_right (by simp)]; simp
        · rw [List.getElem?_append_left (by simp; omega), List.getElem?_set]
          simp [hne, hb1]
        · have hij : j ≠ i := fun e => by rw [e, hi'] at hp; cases hp
          have := hk1 i c hi'
          rw [List.getElem?_append_left (by simp; exact (List.getElem?_eq_some_iff.1 this).1), List.getElem?_set]
          simp [hij, this]
    obtain ⟨j', Ab, hap, hj', hne', hp', hbb, hkb⟩ := happ
    have hjb : (Ab[bk]?).join = some [.bptr 0 bk, bu] := by rw [hbb]; rfl
    have hib := (List.getElem?_eq_some_iff.1 hbb).1
    have hst := stA_leaf (H := H) (lim := 1) (A := Ab) (i := bk) (o := 1) (v := .bs 0 j' (s.length + t.length)) (c := [.bptr 0 bk, bu]) (by decide) rfl hjb (by simp)
    refine ⟨.tup [vi t.length, .junk], Ab.set bk (some [.bptr 0 bk, .bs 0 j' (s.length + t.length)]), ?_, ⟨⟨.bptr 0 bk, .bs 0 j' (s.length + t.length), by simp [hib], .inr rfl, .inr ⟨j', by simp, ?_, by simp; omega, hne', hp'⟩⟩, hs, fun i c hi' => ?_⟩⟩
    rotate_left
    · rw [List.getElem?_set]
      simp [Ne.symm hne', hj']
    · have hne : i ≠ bk := fun e => by rw [e, hs] at hi'; cases hi'
      rw [List.getElem?_set]
      simp [Ne.symm hne, hkb i c hi']
    simp only [Ev.bi, pu, h40, bnd_eq, Option.bind_some, anil_bptr, fa_bptr, ld_ptr, getB_zero, hj1, List.getElem?_cons_succ, List.getElem?_cons_zero, Option.map_some, up_zero, hel, hap, hst, hln, rt, List.set_cons_succ, List.set_cons_zero, headA_cons]
/-- What was written. -/
theorem string32 {s : List UInt8} {P : Nat → Option (List AV)} (h : BAt A bk s P) (hl : s.length ≤ 1000000000) : ∃ A', evCall Tryd.prog C (d + 1) 1 32 [.bptr 0 bk] (A :: H) = some (vs (bstr s), A' :: H) := by
  obtain ⟨⟨ad, bu, hb, ha, hbu⟩, hs, hk⟩ := h
  rw [evCall_inEq (fi := fi32) rfl rfl (b32 _ _ _ _)]
  unfold s32
  have hj : (A[bk]?).join = some [ad, bu] := by rw [hb]; rfl
  rcases hbu with ⟨rfl, rfl⟩ | ⟨j, rfl, hj', hn, hne, hp⟩
  · have e1 : asliceData (.d (.seq true 0 [])) = some .nilptr := rfl
    have e2 : ∀ H, usS 1 H .nilptr (vi 0) = some (vs .empty, H) := fun _ => rfl
    have e3 : lnS (.d (.seq true 0 [])) = some (vi 0) := rfl
    refine ⟨A, ?_⟩
    simp only [Ev.bi, pu, bnd_eq, Option.bind_some, anil_bptr, fa_bptr, ld_ptr, getB_zero, hj, List.getElem?_cons_succ, List.getElem?_cons_zero, Option.map_some, up_zero, e1, e2, e3, rt, headA_cons]
    rfl
  · have e1 : asliceData (.bs 0 j s.length) = some (.bp 0 j) := by
      have : Nat.blt 0 s.length = true := by simpa using hn
      simp only [asliceData, this, cond_true]
    have hjj : (A[j]?).join = some (cellsL s) := by rw [hj']; rfl
    have e2 : usS 1 (A :: H) (.bp 0 j) (vi s.length) = some (vs (bstr s), A.set j none :: H) := by
      have c1 : (Nat.blt 0 1 && decide ((0 : Int) < (s.length : Int)) && decide ((s.length : Int) ≤ 9223372036854775807) && true) = true := by
        simp
        omega
      have hc : cut (cellsL s) 0 ((s.length : Int).toNat) = some (cellsL s) := by
        rw [cut_all (by rw [cellsL_len]; simp)]
      simp only [usS, c1, cond_true, getB_zero, hjj, Option.bind_some, hc, bytesOf_cells, Option.map_some, setB_zero]
      rfl
    refine ⟨A.set j none, ?_⟩
    simp only [Ev.bi, pu, bnd_eq, Option.bind_some, anil_bptr, fa_bptr, ld_ptr, getB_zero, hj, List.getElem?_cons_succ, List.getElem?_cons_zero, Option.map_some, up_zero, e1, e2, lnS_bs, rt, headA_cons]
end
end Go.Ev.Tryd

/- Numbers written one after another. -/
set_option maxRecDepth 100000
namespace Go.Ev.Tryd
open Go Go.Ev Go.Proofs
def numsL (l : List Int) : List UInt8 := l.flatMap fun n => 32 :: numL n
theorem numsL_app (a b : List Int) : numsL (a ++ b) = numsL a ++ numsL b := by simp [numsL]
theorem numsL_len : ∀ {l : List Int}, (∀ n ∈ l, Num n) → (numsL l).length ≤ 21 * l.length
  | [], _ => by simp [numsL]
  | n :: l, h => by
    have h1 := numL_len (h n (by simp))
    have h2 := numsL_len (l := l) fun x hx => h x (by simp [hx])
    have : numsL (n :: l) = (32 :: numL n) ++ numsL l := by simp [numsL]
    rw [this]
    simp
    omega
/-- A list of numbers, read beside whatever arena. -/
structure RL (v : AV) (H : Heap) (l : List Int) : Prop where
  len : lnS v = some (vi l.length)
  at' : ∀ (k : Nat) (x : Int), l[k]? = some x → ∃ q, ixS 1 v (vi k) = some q ∧ ∀ A : Arena, ld (A :: H) q = some (vi x)
section
variable {d lim : Nat} {H : Heap}
theorem loop31 {v : AV} {l : List Int} (h : RL v H l) (hl : l.length ≤ 12) (hn : ∀ n ∈ l, Num n) :
    Gives (iterN LB (s31.l0 (evCall Tryd.prog C (d + 3) 1) 1) [.bptr 0 0, v, vi l.length, vi 0] ([some [.nilptr, .d (.seq true 0 [])]] :: H)) (fun r => ∃ A', r = (.exit 0, [.bptr 0 0], A' :: H) ∧ BAt A' 0 (numsL l) (fun _ => none)) := by
  refine iter_gives (Inv := fun k s Hh => ∃ A', s = [.bptr 0 0, v, vi l.length, vi k] ∧ Hh = A' :: H ∧ BAt A' 0 (numsL (l.take k)) (fun _ => none)) l.length (big_lt (by omega)) (fun k hk s Hh hi => ?_)
    ⟨_, rfl, rfl, ⟨⟨.nilptr, .d (.seq true 0 []), rfl, .inl rfl, .inl ⟨by simp [numsL], rfl⟩⟩, rfl, fun i c h => by cases h⟩⟩
  obtain ⟨A', rfl, rfl, hb⟩ := hi
  rcases Nat.lt_or_ge k l.length with hk' | hk'
  · obtain ⟨x, hx⟩ : ∃ x, l[k]? = some x := ⟨_, List.getElem?_eq_getElem hk'⟩
    have hN := hn x (List.mem_of_getElem? hx)
    obtain ⟨q, hix, hld⟩ := h.at' k x hx
    have hi : (k : Int) < l.length := by omega
    have w := wrap_ok ((k : Int) + 1) (by omega) (by omega)
    have htk : l.take (k + 1) = l.take k ++ [x] := by rw [List.take_add_one, hx]; rfl
    have hlen := numL_len hN
    have hsz := numsL_len (l := l.take k) fun n hm => hn n (List.mem_of_mem_take hm)
    have hsz' : (l.take k).length ≤ 12 := by simp; omega
    have h30 := fun H => itoa30 (d := d + 2) (lim := 1) (H := H) (n := x) (by unfold Num at hN; omega) (by unfold Num at hN; omega)
    have hcat := cat_l (P := Tryd.prog) (t := 9) (x := [32]) (y := numL x) (by simp; omega)
    obtain ⟨z, B, h29, hB⟩ := write29 (d := d) (H := H) (t := 32 :: numL x) hb (by simp; omega)
    refine .inl ⟨[.bptr 0 0, v, vi l.length, vi (k + 1)], B :: H, hk', ?_, B, by simp, rfl, by rw [htk, numsL_app]; simpa [numsL] using hB⟩
    have e : (.d (.str ⟨#[32]⟩) : AV) = vs (bstr [32]) := rfl
    unfold s31.l0
    rw [e]
    simp only [List.singleton_append] at hcat
    generalize bstr [32] = b1 at *
    simp only [Ev.bi, pu, bnd_eq, Option.bind_some, Option.map_some, List.getD_cons_zero, List.getD_cons_succ, abin_lss, hi, decide_true, asB_b, cn, cond_true, hix, hld, h30, hcat, h29, abin_add, w]
  · obtain rfl : k = l.length := by omega
    refine .inr ⟨(.exit 0, [.bptr 0 0], A' :: H), ?_, by simp, A', rfl, by simpa using hb⟩
    unfold s31.l0
    simp -implicitDefEqProofs [abin_lss]
theorem nums31 {v : AV} {l : List Int} (h : RL (v.up 1) H l) (hl : l.length ≤ 12) (hn : ∀ n ∈ l, Num n) : evCall Tryd.prog C (d + 4) lim 31 [v] H = some (vs (bstr (numsL l)), H) := by
  rw [evCall_pureEq (fi := fi31) rfl rfl (b31 _ _ _ _)]
  unfold s31
  have ha : alB [.nilptr, .d (.seq true 0 [])] ([] :: H) = some (.bptr 0 0, [some [.nilptr, .d (.seq true 0 [])]] :: H) := rfl
  obtain ⟨r, hr, A', rfl, hb⟩ := loop31 (d := d) h hl hn
  have hsz := numsL_len hn
  obtain ⟨A2, h32⟩ := string32 (d := d + 2) (H := H) hb (by omega)
  have hlen := h.len
  generalize v.up 1 = v1 at *
  simp only [Ev.bi, pu, bnd_eq, Option.bind_some, Option.map_some, ha, hlen, lp, hr, dsp_exit, gv, List.getD_cons_zero, h32, rt, headA_cons, leave_d]
/-- A list of data. -/
theorem rl_data (nl : Bool) (l : List Int) (H : Heap) : RL (AV.up 1 (.d (seqD nl l nD))) H l := by
  refine ⟨seq_len nl l nD, fun k x hx => ?_⟩
  obtain ⟨q, hix, hld⟩ := seq_one (nl := nl) (f := fun n => D.int .i64 n) hx
  exact ⟨q, hix, fun A => hld _⟩
/-- A row of the caller's arena. -/
theorem rl_row {A : Arena} {H : Heap} {b n : Nat} {l : List Int} (hb : A[b]? = some (some (l.map vi))) (hn : n = l.length) : RL (AV.up 1 (.sl 0 b 0 n 1)) (A :: H) l := by
  subst hn
  refine ⟨rfl, fun k x hx => ?_⟩
  have hk := (List.getElem?_eq_some_iff.1 hx).1
  refine ⟨.ptr 1 b (0 + k * 1), by simp only [AV.up, ixS_sl, inB_nat hk, Option.map_some], fun B => ?_⟩
  simp [ld_ptr, getB, hb, hx, AV.up]
end
end Go.Ev.Tryd

/- The lines of a procedure: what they are, and how long. -/
set_option maxRecDepth 100000
namespace Go.Ev.Tryd
open Go Go.Ev Go.Proofs
def nineL (x : Ins) : List Int := [x.op, x.d, x.a, x.b, x.fn, x.obj, x.off, x.size, x.num]
def logL (b : Bool) : List UInt8 := if b then [32, 108, 111, 103] else []
def insL (x : Ins) : List UInt8 := numsL (nineL x) ++ numsL x.args ++ logL x.log ++ [10]
def insTo (l : List Ins) : Nat → List UInt8
  | 0 => []
  | k + 1 => insTo l k ++ (match l[k]? with | some x => insL x | none => [])
def fourL (b : Blk) : List Int := [b.fin, b.a, b.to, b.els]
def headL (k : Nat) : List UInt8 := 98 :: numL k ++ [58, 10]
def endL (b : Blk) : List UInt8 := [32, 101, 110, 100] ++ numsL (fourL b) ++ [10]
def blkL (k : Nat) (b : Blk) : List UInt8 := headL k ++ insTo b.ins b.ins.length ++ endL b
def textTo (l : List Blk) : Nat → List UInt8
  | 0 => []
  | k + 1 => textTo l k ++ (match l[k]? with | some b => blkL k b | none => [])
def InsW (x : Ins) : Prop := (∀ n ∈ nineL x, Num n) ∧ (∀ n ∈ x.args, Num n) ∧ x.args.length ≤ 12
def BlkW (b : Blk) : Prop := (∀ n ∈ fourL b, Num n) ∧ (∀ x ∈ b.ins, InsW x) ∧ b.ins.length ≤ 60
theorem insL_len {x : Ins} (h : InsW x) : (insL x).length ≤ 500 := by
  have h1 := numsL_len h.1
  have h2 := numsL_len h.2.1
  have h3 : (logL x.log).length ≤ 4 := by unfold logL; split <;> simp
  have h4 : (nineL x).length = 9 := rfl
  have h5 := h.2.2
  unfold insL
  simp only [List.length_append, List.length_cons, List.length_nil]
  omega
theorem insTo_succ {l : List Ins} {k : Nat} {x : Ins} (h : l[k]? = some x) : insTo l (k + 1) = insTo l k ++ insL x := by simp [insTo, h]
theorem insTo_len {l : List Ins} (h : ∀ x ∈ l, InsW x) : ∀ k, (insTo l k).length ≤ 500 * k
  | 0 => by simp [insTo]
  | k + 1 => by
    have := insTo_len h k
    unfold insTo
    cases e : l[k]? with
    | none => simp; omega
    | some x =>
      have := insL_len (h x (List.mem_of_getElem? e))
      simp
      omega
theorem num_nat {k : Nat} (h : k ≤ 1000) : Num (k : Int) := by unfold Num; omega
theorem headL_len {k : Nat} (h : k ≤ 1000) : (headL k).length ≤ 30 := by
  have := numL_len (num_nat h)
  unfold headL
  simp
  omega
theorem endL_len {b : Blk} (h : BlkW b) : (endL b).length ≤ 100 := by
  have := numsL_len h.1
  have h4 : (fourL b).length = 4 := rfl
  unfold endL
  simp only [List.length_append, List.length_cons, List.length_nil]
  omega
theorem blkL_len {k : Nat} (hk : k ≤ 1000) {b : Blk} (h : BlkW b) : (blkL k b).length ≤ 31000 := by
  have h1 := headL_len hk
  have h2 := endL_len h
  have h3 := insTo_len h.2.1 b.ins.length
  have h4 := h.2.2
  unfold blkL
  simp only [List.length_append]
  omega
theorem textTo_succ {l : List Blk} {k : Nat} {b : Blk} (h : l[k]? = some b) : textTo l (k + 1) = textTo l k ++ blkL k b := by simp [textTo, h]
theorem textTo_len {l : List Blk} (h : ∀ b ∈ l, BlkW b) : ∀ k, k ≤ 1000 → (textTo l k).length ≤ 31000 * k
  | 0, _ => by simp [textTo]
  | k + 1, hk => by
    have := textTo_len h k (by omega)
    unfold textTo
    cases e : l[k]? with
    | none => simp; omega
    | some x =>
      have := blkL_len (k := k) (by omega) (h x (List.mem_of_getElem? e))
      simp
      omega
/-- More blocks, fewer that stay. -/
theorem BAt.push {A : Arena} {bk : Nat} {s : List UInt8} {P : Nat → Option (List AV)} (h : BAt A bk s P) (c : List AV) : BAt (A ++ [some c]) bk s (fun i => if i = A.length then some c else P i) := by
  obtain ⟨⟨ad, bu, hb, ha, hbu⟩, hs, hk⟩ := h
  have hi := (List.getElem?_eq_some_iff.1 hb).1
  refine ⟨⟨ad, bu, by rw [List.getElem?_append_left hi]; exact hb, ha, ?_⟩, by rw [if_neg (by omega)]; exact hs, fun i c' e => ?_⟩
  · rcases hbu with h1 | ⟨j, h1, h2, h3, h4, h5⟩
    · exact .inl h1
    · have hj := (List.getElem?_eq_some_iff.1 h2).1
      exact .inr ⟨j, h1, by rw [List.getElem?_append_left hj]; exact h2, h3, h4, by rw [if_neg (by omega)]; exact h5⟩
  · by_cases hil : i = A.length
    · subst hil
      rw [if_pos rfl] at e
      cases e
      simp
    · rw [if_neg hil] at e
      have := hk i c' e
      rw [List.getElem?_append_left (List.getElem?_eq_some_iff.1 this).1]
      exact this
theorem BAt.weak {A : Arena} {bk : Nat} {s : List UInt8} {P P' : Nat → Option (List AV)} (h : BAt A bk s P) (hP : ∀ i c, P' i = some c → P i = some c) : BAt A bk s P' := by
  obtain ⟨⟨ad, bu, hb, ha, hbu⟩, hs, hk⟩ := h
  have hn : ∀ i, P i = none → P' i = none := fun i hi => by
    cases e : P' i with
    | none => rfl
    | some c => rw [hP i c e] at hi; cases hi
  refine ⟨⟨ad, bu, hb, ha, ?_⟩, hn _ hs, fun i c e => hk i c (hP i c e)⟩
  rcases hbu with h1 | ⟨j, h1, h2, h3, h4, h5⟩
  · exact .inl h1
  · exact .inr ⟨j, h1, h2, h3, h4, hn _ h5⟩
end Go.Ev.Tryd

/- ir.Text: an instruction's line. -/
set_option maxRecDepth 100000
namespace Go.Ev.Tryd
open Go Go.Ev Go.Proofs
theorem al_eq (z : List AV) (A : Arena) (H : Heap) : al z (A :: H) = some (.ptr 0 A.length 0, (A ++ [some z]) :: H) := (rfl)
theorem bldS_9 (x0 x1 x2 x3 x4 x5 x6 x7 x8 : Int) (A : Arena) (H : Heap) :
    bldS 1 9 [vi 0] [(0, vi x0), (1, vi x1), (2, vi x2), (3, vi x3), (4, vi x4), (5, vi x5), (6, vi x6), (7, vi x7), (8, vi x8)] (A :: H) = some (.sl 0 A.length 0 9 1, (A ++ [some [vi x0, vi x1, vi x2, vi x3, vi x4, vi x5, vi x6, vi x7, vi x8]]) :: H) := by kernel_rfl
theorem bldS_4 (x0 x1 x2 x3 : Int) (A : Arena) (H : Heap) :
    bldS 1 4 [vi 0] [(0, vi x0), (1, vi x1), (2, vi x2), (3, vi x3)] (A :: H) = some (.sl 0 A.length 0 4 1, (A ++ [some [vi x0, vi x1, vi x2, vi x3]]) :: H) := by kernel_rfl
abbrev insZ : List AV := [vi 0, vi 0, vi 0, vi 0, vi 0, vi 0, vi 0, vi 0, vw 0, .d (.seq true 0 []), vb false]
abbrev blkZ : List AV := [.d (.seq true 0 []), vi 0, vi 0, vi 0, vi 0]
section
variable {d : Nat} {H : Heap}
theorem lines13 {b : Blk} (hb : BlkW b) {bk K n k : Nat} {BV : AV} {s0 : List UInt8} (hs0 : s0.length ≤ 900000000) {A0 : Arena} {P : Nat → Option (List AV)} (h0 : BAt A0 bk s0 P) :
    Gives (iterN LB (s13.l0 (evCall Tryd.prog C (d + 4) 1) 1) [.bptr 0 bk, .ptr 0 K 0, BV, vi n, vi k, .d (seqD b.inl b.ins iD), vi b.ins.length, vi 0] (A0 :: H))
      (fun r => ∃ A', r = (.exit 2, [.bptr 0 bk, .ptr 0 K 0, BV, vi n, vi k], A' :: H) ∧ BAt A' bk (s0 ++ insTo b.ins b.ins.length) P) := by
  obtain ⟨_, hW, h60⟩ := hb
  refine iter_gives (Inv := fun j s Hh => ∃ A', s = [.bptr 0 bk, .ptr 0 K 0, BV, vi n, vi k, .d (seqD b.inl b.ins iD), vi b.ins.length, vi j] ∧ Hh = A' :: H ∧ BAt A' bk (s0 ++ insTo b.ins j) P) b.ins.length (big_lt (by omega)) (fun j hj s Hh hi => ?_)
    ⟨_, rfl, rfl, by simpa [insTo] using h0⟩
  obtain ⟨A', rfl, rfl, hB⟩ := hi
  rcases Nat.lt_or_ge j b.ins.length with hj' | hj'
  · obtain ⟨x, hx⟩ : ∃ x, b.ins[j]? = some x := ⟨_, List.getElem?_eq_getElem hj'⟩
    have hxW := hW x (List.mem_of_getElem? hx)
    obtain ⟨q, qs, rr⟩ := seq_row (nl := b.inl) (f := iD) (s := 11) (fun _ => rfl) hx
    have hix := rr.ix
    have hall := rr.all
    have hi : (j : Int) < b.ins.length := by omega
    have w := wrap_ok ((j : Int) + 1) (by omega) (by omega)
    have hN9 : Num x.num := hxW.1 x.num (by simp [nineL])
    have w9 := wrap_ok x.num (by unfold Num at hN9; omega) (by unfold Num at hN9; omega)
    have hlen0 := insTo_len hW j
    have hlx := insL_len hxW
    have hl1 := numsL_len hxW.1
    have hl2 := numsL_len hxW.2.1
    have hl3 := hxW.2.2
    have hl9 : (nineL x).length = 9 := rfl
    have hlog : (logL x.log).length ≤ 4 := by unfold logL; split <;> simp
    have hst := stA_new (n := 11) (lim := 1) (A := A') (H := H) (cs := (iD x).map .d) (c := insZ) (by decide) (all_leaf_d _) rfl rfl
    have hB1 := (hB.push ((iD x).map .d)).push ((nineL x).map vi)
    have g1 : (A' ++ [some ((iD x).map AV.d)])[A'.length]? = some (some ((iD x).map AV.d)) := by simp
    have g2 : (A' ++ [some ((iD x).map AV.d)] ++ [some ((nineL x).map vi)])[A'.length]? = some (some ((iD x).map AV.d)) := by
      rw [List.getElem?_append_left (by simp), List.getElem?_append_right (by simp)]; simp
    have g3 : (A' ++ [some ((iD x).map AV.d)] ++ [some ((nineL x).map vi)])[(A' ++ [some ((iD x).map AV.d)]).length]? = some (some ((nineL x).map vi)) := by
      rw [List.getElem?_append_right (Nat.le_refl _)]; simp
    have h9 : bldS 1 9 [vi 0] [(0, vi x.op), (1, vi x.d), (2, vi x.a), (3, vi x.b), (4, vi x.fn), (5, vi x.obj), (6, vi x.off), (7, vi x.size), (8, vi x.num)] ((A' ++ [some ((iD x).map AV.d)]) :: H) = some (.sl 0 (A' ++ [some ((iD x).map AV.d)]).length 0 9 1, (A' ++ [some ((iD x).map AV.d)] ++ [some ((nineL x).map vi)]) :: H) := bldS_9 _ _ _ _ _ _ _ _ _ _ _
    have c1 := nums31 (d := d) (lim := 1) (rl_row (H := H) g3 hl9.symm) (by omega) hxW.1
    have c2 := fun H => nums31 (d := d) (lim := 1) (rl_data x.anl x.args H) hl3 hxW.2.1
    have hcat := cat_l (P := Tryd.prog) (t := 9) (x := numsL (nineL x)) (y := numsL x.args) (by omega)
    obtain ⟨z1, A3, w1, hB3⟩ := write29 (d := d + 1) (H := H) (t := numsL (nineL x) ++ numsL x.args) hB1 (by simp at hlen0 ⊢; omega)
    have g4 : A3[A'.length]? = some (some ((iD x).map AV.d)) := hB3.keep _ _ (by simp)
    have hB3' : BAt A3 bk (s0 ++ insTo b.ins j ++ (numsL (nineL x) ++ numsL x.args)) P := hB3.weak fun i c e => by
      have := (List.getElem?_eq_some_iff.1 (hB.keep i c e)).1
      rw [if_neg (by simp; omega), if_neg (by omega)]
      exact e
    have e0 : (iD x)[0]? = some (.int .i64 x.op) := rfl
    have e1 : (iD x)[1]? = some (.int .i64 x.d) := rfl
    have e2 : (iD x)[2]? = some (.int .i64 x.a) := rfl
    have e3 : (iD x)[3]? = some (.int .i64 x.b) := rfl
    have e4 : (iD x)[4]? = some (.int .i64 x.fn) := rfl
    have e5 : (iD x)[5]? = some (.int .i64 x.obj) := rfl
    have e6 : (iD x)[6]? = some (.int .i64 x.off) := rfl
    have e7 : (iD x)[7]? = some (.int .i64 x.size) := rfl
    have e8 : (iD x)[8]? = some (.int .u32 x.num) := rfl
    have e9 : (iD x)[9]? = some (seqD x.anl x.args nD) := rfl
    have e10 : (iD x)[10]? = some (.bool x.log) := rfl
    have hA := al_eq insZ A' H
    have hag := fun (z : AV) (H : Heap) => again_self 1 z H
    have hn : (.d (.str ⟨#[10]⟩) : AV) = vs (bstr [10]) := rfl
    have hlg : (.d (.str ⟨#[32, 108, 111, 103]⟩) : AV) = vs (bstr [32, 108, 111, 103]) := rfl
    have goal : insTo b.ins (j + 1) = insTo b.ins j ++ insL x := insTo_succ hx
    cases hL : x.log with
    | false =>
      obtain ⟨z2, A4, w2, hB4⟩ := write29 (d := d + 1) (H := H) (t := [10]) hB3' (by simp at hlen0 ⊢; omega)
      refine .inl ⟨[.bptr 0 bk, .ptr 0 K 0, BV, vi n, vi k, .d (seqD b.inl b.ins iD), vi b.ins.length, vi (j + 1)], A4 :: H, hj', ?_, A4, by simp, rfl, by rw [goal]; simpa [insL, hL, logL] using hB4⟩
      rw [hL] at e10
      unfold s13.l0
      rw [hn, hlg]
      generalize iD x = r at *
      generalize (nineL x).map vi = nine at *
      generalize bstr [10] = b10 at *
      generalize bstr (numsL (nineL x) ++ numsL x.args) = bcat at *
      generalize bstr (numsL (nineL x)) = bn at *
      generalize bstr (numsL x.args) = ba at *
      generalize seqD x.anl x.args nD = sq at *
      simp -implicitDefEqProofs only [Ev.bi, pu, bnd_eq, Option.bind_some, Option.map_some, List.getD_cons_zero, List.getD_cons_succ, abin_lss, hi, decide_true, asB_b, cn, cond_true, cond_false, hix, hall, hA, hst, fa_ptr, ld_ptr, getB_zero, g1, g2, g4, Option.join_some, List.getElem?_map, e0, e1, e2, e3, e4, e5, e6, e7, e8, e9, e10, up_zero, Nat.zero_add, cvI_int, w9, h9, c1, c2, pm, hag, ck, allD, Bool.and_true, hcat, w1, jn, dsp_normal, gv, w2, abin_add, w]
    | true =>
      obtain ⟨z2, A4, w2, hB4⟩ := write29 (d := d + 1) (H := H) (t := [32, 108, 111, 103]) hB3' (by simp at hlen0 ⊢; omega)
      obtain ⟨z3, A5, w3, hB5⟩ := write29 (d := d + 1) (H := H) (t := [10]) hB4 (by simp at hlen0 ⊢; omega)
      refine .inl ⟨[.bptr 0 bk, .ptr 0 K 0, BV, vi n, vi k, .d (seqD b.inl b.ins iD), vi b.ins.length, vi (j + 1)], A5 :: H, hj', ?_, A5, by simp, rfl, by rw [goal]; simpa [insL, hL, logL] using hB5⟩
      rw [hL] at e10
      unfold s13.l0
      rw [hn, hlg]
      generalize iD x = r at *
      generalize (nineL x).map vi = nine at *
      generalize bstr [10] = b10 at *
      generalize bstr [32, 108, 111, 103] = blog at *
      generalize bstr (numsL (nineL x) ++ numsL x.args) = bcat at *
      generalize bstr (numsL (nineL x)) = bn at *
      generalize bstr (numsL x.args) = ba at *
      generalize seqD x.anl x.args nD = sq at *
      simp -implicitDefEqProofs only [Ev.bi, pu, bnd_eq, Option.bind_some, Option.map_some, List.getD_cons_zero, List.getD_cons_succ, abin_lss, hi, decide_true, asB_b, cn, cond_true, cond_false, hix, hall, hA, hst, fa_ptr, ld_ptr, getB_zero, g1, g2, g4, Option.join_some, List.getElem?_map, e0, e1, e2, e3, e4, e5, e6, e7, e8, e9, e10, up_zero, Nat.zero_add, cvI_int, w9, h9, c1, c2, pm, hag, ck, allD, Bool.and_true, hcat, w1, jn, dsp_normal, gv, w2, w3, abin_add, w]
  · obtain rfl : j = b.ins.length := by omega
    refine .inr ⟨(.exit 2, [.bptr 0 bk, .ptr 0 K 0, BV, vi n, vi k], A' :: H), ?_, by simp, A', rfl, hB⟩
    unfold s13.l0
    simp -implicitDefEqProofs [abin_lss]
end
end Go.Ev.Tryd

/- ir.Text: blocks, the whole. -/
set_option maxRecDepth 100000
namespace Go.Ev.Tryd
open Go Go.Ev Go.Proofs
section
variable {d lim : Nat} {H : Heap}
theorem blks13 {nl : Bool} {l : List Blk} (hl : l.length ≤ 40) (hW : ∀ b ∈ l, BlkW b) {bk : Nat} {A0 : Arena} (h0 : BAt A0 bk [] (fun _ => none)) :
    Gives (iterN LB (s13.l1 (evCall Tryd.prog C (d + 4) 1) 1) [.bptr 0 bk, .d (seqD nl l bD), vi l.length, vi 0] (A0 :: H))
      (fun r => ∃ A', r = (.exit 0, [.bptr 0 bk], A' :: H) ∧ BAt A' bk (textTo l l.length) (fun _ => none)) := by
  refine iter_gives (Inv := fun k s Hh => ∃ A', s = [.bptr 0 bk, .d (seqD nl l bD), vi l.length, vi k] ∧ Hh = A' :: H ∧ BAt A' bk (textTo l k) (fun _ => none)) l.length (big_lt (by omega)) (fun k hk s Hh hi => ?_)
    ⟨_, rfl, rfl, h0⟩
  obtain ⟨A', rfl, rfl, hB⟩ := hi
  rcases Nat.lt_or_ge k l.length with hk' | hk'
  · obtain ⟨b, hb⟩ : ∃ b, l[k]? = some b := ⟨_, List.getElem?_eq_getElem hk'⟩
    have hbW := hW b (List.mem_of_getElem? hb)
    obtain ⟨q, qs, rr⟩ := seq_row (nl := nl) (f := bD) (s := 5) (fun _ => rfl) hb
    have hix := rr.ix
    have hall := rr.all
    have hi : (k : Int) < l.length := by omega
    have w := wrap_ok ((k : Int) + 1) (by omega) (by omega)
    have hkN := num_nat (k := k) (by omega)
    have hlk := numL_len hkN
    have hlt := textTo_len hW k (by omega)
    have hlb := blkL_len (k := k) (by omega) hbW
    have hlh := headL_len (k := k) (by omega)
    have hle := endL_len hbW
    have hli := insTo_len hbW.2.1 b.ins.length
    have h60 := hbW.2.2
    have hst := stA_new (n := 5) (lim := 1) (A := A') (H := H) (cs := (bD b).map .d) (c := blkZ) (by decide) (all_leaf_d _) rfl rfl
    have hA := al_eq blkZ A' H
    have g1 : (A' ++ [some ((bD b).map AV.d)])[A'.length]? = some (some ((bD b).map AV.d)) := by simp
    have h30 := fun H => itoa30 (d := d + 3) (lim := 1) (H := H) (n := (k : Int)) (by omega) (by omega)
    have cat1 := cat_l (P := Tryd.prog) (t := 9) (x := [98]) (y := numL k) (by simp; omega)
    have cat2 := cat_l (P := Tryd.prog) (t := 9) (x := [98] ++ numL k) (y := [58, 10]) (by simp; omega)
    have eh : [98] ++ numL k ++ [58, 10] = headL k := by simp [headL]
    rw [eh] at cat2
    obtain ⟨z1, A2, w1, hB2⟩ := write29 (d := d + 1) (H := H) (t := headL k) (hB.push ((bD b).map .d)) (by omega)
    have g2 : A2[A'.length]? = some (some ((bD b).map AV.d)) := hB2.keep _ _ (by simp)
    obtain ⟨r, hr, A3, rfl, hB3⟩ := lines13 (d := d) (H := H) hbW (K := A'.length) (n := l.length) (k := k) (BV := .d (seqD nl l bD)) (by simp; omega) hB2
    have g3 : A3[A'.length]? = some (some ((bD b).map AV.d)) := hB3.keep _ _ (by simp)
    have h4 : bldS 1 4 [vi 0] [(0, vi b.fin), (1, vi b.a), (2, vi b.to), (3, vi b.els)] (A3 :: H) = some (.sl 0 A3.length 0 4 1, (A3 ++ [some ((fourL b).map vi)]) :: H) := bldS_4 _ _ _ _ _ _
    have g4 : (A3 ++ [some ((fourL b).map vi)])[A3.length]? = some (some ((fourL b).map vi)) := by simp
    have hl4 := numsL_len hbW.1
    have hf4 : (fourL b).length = 4 := rfl
    have c1 := nums31 (d := d) (lim := 1) (rl_row (H := H) g4 hf4.symm) (by omega) hbW.1
    have cat3 := cat_l (P := Tryd.prog) (t := 9) (x := [32, 101, 110, 100]) (y := numsL (fourL b)) (by simp; omega)
    have cat4 := cat_l (P := Tryd.prog) (t := 9) (x := [32, 101, 110, 100] ++ numsL (fourL b)) (y := [10]) (by simp; omega)
    have ee : [32, 101, 110, 100] ++ numsL (fourL b) ++ [10] = endL b := rfl
    rw [ee] at cat4
    obtain ⟨z2, A5, w2, hB5⟩ := write29 (d := d + 1) (H := H) (t := endL b) (hB3.push ((fourL b).map vi)) (by simp at hli ⊢; omega)
    have e0 : (bD b)[0]? = some (seqD b.inl b.ins iD) := rfl
    have e1 : (bD b)[1]? = some (.int .i64 b.fin) := rfl
    have e2 : (bD b)[2]? = some (.int .i64 b.a) := rfl
    have e3 : (bD b)[3]? = some (.int .i64 b.to) := rfl
    have e4 : (bD b)[4]? = some (.int .i64 b.els) := rfl
    have hln := seq_len b.inl b.ins iD
    have n1 : (.d (.str ⟨#[98]⟩) : AV) = vs (bstr [98]) := rfl
    have n2 : (.d (.str ⟨#[58, 10]⟩) : AV) = vs (bstr [58, 10]) := rfl
    have n3 : (.d (.str ⟨#[32, 101, 110, 100]⟩) : AV) = vs (bstr [32, 101, 110, 100]) := rfl
    have n4 : (.d (.str ⟨#[10]⟩) : AV) = vs (bstr [10]) := rfl
    refine .inl ⟨[.bptr 0 bk, .d (seqD nl l bD), vi l.length, vi (k + 1)], A5 :: H, hk', ?_, A5, by simp, rfl, ?_⟩
    · unfold s13.l1
      rw [n1, n2, n3, n4]
      generalize bD b = row at *
      generalize (fourL b).map vi = four at *
      generalize bstr [98] = b1 at *
      generalize bstr [58, 10] = b2 at *
      generalize bstr [32, 101, 110, 100] = b3 at *
      generalize bstr [10] = b4 at *
      generalize bstr (headL k) = b5 at *
      generalize bstr ([98] ++ numL k) = b6 at *
      generalize bstr (endL b) = b7 at *
      generalize bstr ([32, 101, 110, 100] ++ numsL (fourL b)) = b8 at *
      generalize bstr (numsL (fourL b)) = b9 at *
      generalize bstr (numL k) = b10 at *
      generalize seqD b.inl b.ins iD = sq at *
      generalize seqD nl l bD = sl at *
      simp -implicitDefEqProofs only [Ev.bi, pu, bnd_eq, Option.bind_some, Option.map_some, List.getD_cons_zero, List.getD_cons_succ, abin_lss, hi, decide_true, asB_b, cn, cond_true, hix, hall, hA, hst, h30, cat1, cat2, w1, fa_ptr, ld_ptr, getB_zero, g2, Option.join_some, List.getElem?_map, e0, e1, e2, e3, e4, up_zero, Nat.zero_add, hln, lp, hr, dsp_exit, gv, g3, h4, c1, cat3, cat4, w2, abin_add, w]
    · have goal : textTo l (k + 1) = textTo l k ++ headL k ++ insTo b.ins b.ins.length ++ endL b := by
        rw [textTo_succ hb]
        simp [blkL]
      rw [goal]
      exact hB5.weak fun i c e => by cases e
  · obtain rfl : k = l.length := by omega
    refine .inr ⟨(.exit 0, [.bptr 0 bk], A' :: H), ?_, by simp, A', rfl, hB⟩
    unfold s13.l1
    simp -implicitDefEqProofs [abin_lss]
theorem text13 {p : Prc} (hl : p.blks.length ≤ 40) (hW : ∀ b ∈ p.blks, BlkW b) : evCall Tryd.prog C (d + 5) lim 13 [.agg ((pD p).map .d)] H = some (vs (bstr (textTo p.blks p.blks.length)), H) := by
  rw [evCall_pureEq (fi := fi13) rfl rfl (b13 _ _ _ _), up_data]
  unfold s13
  have hb := bx_data (r := pD p) (A := []) (H := H)
  have h5 : (pD p)[5]? = some (seqD p.bnl p.blks bD) := rfl
  have hln := seq_len p.bnl p.blks bD
  have ha : alB [.nilptr, .d (.seq true 0 [])] ([some ((pD p).map AV.d)] :: H) = some (.bptr 0 1, [some ((pD p).map AV.d), some [.nilptr, .d (.seq true 0 [])]] :: H) := rfl
  have h0 : BAt [some ((pD p).map AV.d), some [.nilptr, .d (.seq true 0 [])]] 1 [] (fun _ => none) := ⟨⟨.nilptr, .d (.seq true 0 []), rfl, .inl rfl, .inl ⟨rfl, rfl⟩⟩, rfl, fun i c h => by cases h⟩
  obtain ⟨r, hr, A', rfl, hB⟩ := blks13 (d := d) (H := H) (nl := p.bnl) hl hW h0
  have hsz := textTo_len hW p.blks.length (by omega)
  obtain ⟨A2, h32⟩ := string32 (d := d + 3) (H := H) hB (by omega)
  generalize pD p = row at *
  simp -implicitDefEqProofs [hb, ha, getB, h5, hln, lp, hr, h32, bnd_eq]
end
end Go.Ev.Tryd

/- The document's text: an instruction's line. -/
set_option maxRecDepth 100000
namespace Go.Ev.Tryd
open Go Go.Ev Go.Proofs
theorem cat34 {n : Int} (hn : Num n) (a : List UInt8) (ha : a.length ≤ 2000000000) : ∃ a', a' = a ++ (32 :: numL n) ∧ a'.length ≤ a.length + 21 ∧ abin Tryd.prog .add 9 (vs (bstr a)) (vs (bstr (32 :: numL n))) = some (vs (bstr a')) := by
  have h := numL_len hn
  exact ⟨_, rfl, by simp; omega, cat_l (by simp; omega)⟩
section
variable {d : Nat} {H : Heap}
theorem args14 {x : Ins} (hN : ∀ n ∈ x.args, Num n) (h12 : x.args.length ≤ 12) {A : Arena} {K J i k : Nat} (hJ : A[J]? = some (some ((iD x).map .d))) {s0 : List UInt8} (hs : s0.length ≤ 1000000000) :
    iterN LB (s14.l0 (evCall Tryd.prog C (d + 3) 1) 1) [.ptr 0 0 0, vs (bstr s0), vi i, .ptr 0 K 0, vi k, .ptr 0 J 0, vi 0] (A :: H) = some (.exit 4, [.ptr 0 0 0, vs (bstr (s0 ++ numsL x.args)), vi i, .ptr 0 K 0, vi k, .ptr 0 J 0], A :: H) := by
  have e9 : (iD x)[9]? = some (seqD x.anl x.args nD) := rfl
  have hln := seq_len x.anl x.args nD
  refine gives_eq (iter_gives (Inv := fun j s Hh => s = [.ptr 0 0 0, vs (bstr (s0 ++ numsL (x.args.take j))), vi i, .ptr 0 K 0, vi k, .ptr 0 J 0, vi j] ∧ Hh = A :: H) x.args.length (big_lt (by omega)) (fun j hj s Hh hi => ?_) ⟨by simp [numsL], rfl⟩)
  obtain ⟨rfl, rfl⟩ := hi
  rcases Nat.lt_or_ge j x.args.length with hj' | hj'
  · obtain ⟨y, hy⟩ : ∃ y, x.args[j]? = some y := ⟨_, List.getElem?_eq_getElem hj'⟩
    have hyN := hN y (List.mem_of_getElem? hy)
    obtain ⟨q, hix, hld⟩ := seq_one (nl := x.anl) (f := fun n => D.int .i64 n) hy
    have hix' : ixS 1 (.d (seqD x.anl x.args nD)) (vi j) = some q := hix
    have hi : (j : Int) < x.args.length := by omega
    have w := wrap_ok ((j : Int) + 1) (by omega) (by omega)
    have hsz := numsL_len (l := x.args.take j) fun n hm => hN n (List.mem_of_mem_take hm)
    have hsz' : (x.args.take j).length ≤ 12 := by simp; omega
    have h34 := fun H => num34 (d := d) (lim := 1) (H := H) hyN
    obtain ⟨a', ha', _, hc⟩ := cat34 hyN (s0 ++ numsL (x.args.take j)) (by simp; omega)
    have goal : s0 ++ numsL (x.args.take (j + 1)) = a' := by
      rw [ha', List.take_add_one, hy]
      simp [numsL]
    refine .inl ⟨_, A :: H, hj', ?_, rfl, rfl⟩
    rw [goal]
    unfold s14.l0
    generalize bstr (s0 ++ numsL (x.args.take j)) = b1 at *
    generalize bstr a' = b2 at *
    generalize bstr (32 :: numL y) = b3 at *
    generalize iD x = r at *
    generalize seqD x.anl x.args nD = sq at *
    simp -implicitDefEqProofs only [Ev.bi, pu, bnd_eq, Option.bind_some, Option.map_some, List.getD_cons_zero, List.getD_cons_succ, fa_ptr, ld_ptr, getB_zero, hJ, Option.join_some, List.getElem?_map, e9, up_zero, Nat.zero_add, hln, abin_lss, hi, decide_true, asB_b, cn, cond_true, hix', hld, h34, hc, abin_add, w]
    rfl
  · obtain rfl : j = x.args.length := by omega
    refine .inr ⟨_, ?_, by simp, rfl⟩
    unfold s14.l0
    generalize iD x = r at *
    simp -implicitDefEqProofs [getB, hJ, e9, hln, abin_lss]
theorem lines14 {b : Blk} (hb : BlkW b) {K i : Nat} {A0 : Arena} (hK : A0[K]? = some (some ((bD b).map .d))) {p0 : Option (List AV)} (h00 : A0[0]? = some p0) {s0 : List UInt8} (hs : s0.length ≤ 900000000) :
    Gives (iterN LB (s14.l1 (evCall Tryd.prog C (d + 3) 1) 1) [.ptr 0 0 0, vs (bstr s0), vi i, .ptr 0 K 0, vi 0] (A0 :: H))
      (fun r => ∃ A', r = (.exit 2, [.ptr 0 0 0, vs (bstr (s0 ++ insTo b.ins b.ins.length)), vi i, .ptr 0 K 0], A' :: H) ∧ A'[K]? = some (some ((bD b).map .d)) ∧ A'[0]? = some p0) := by
  obtain ⟨_, hW, h60⟩ := hb
  have f0 : (bD b)[0]? = some (seqD b.inl b.ins iD) := rfl
  have hln := seq_len b.inl b.ins iD
  refine iter_gives (Inv := fun k s Hh => ∃ A', s = [.ptr 0 0 0, vs (bstr (s0 ++ insTo b.ins k)), vi i, .ptr 0 K 0, vi k] ∧ Hh = A' :: H ∧ A'[K]? = some (some ((bD b).map .d)) ∧ A'[0]? = some p0) b.ins.length (big_lt (by omega)) (fun k hk s Hh hi => ?_)
    ⟨_, by simp [insTo], rfl, hK, h00⟩
  obtain ⟨A', rfl, rfl, hK', h0'⟩ := hi
  rcases Nat.lt_or_ge k b.ins.length with hk' | hk'
  · obtain ⟨x, hx⟩ : ∃ x, b.ins[k]? = some x := ⟨_, List.getElem?_eq_getElem hk'⟩
    have hxW := hW x (List.mem_of_getElem? hx)
    obtain ⟨q, qs, rr⟩ := seq_row (nl := b.inl) (f := iD) (s := 11) (fun _ => rfl) hx
    have hix := rr.ix
    have hall := rr.all
    have hi : (k : Int) < b.ins.length := by omega
    have w := wrap_ok ((k : Int) + 1) (by omega) (by omega)
    have nn : ∀ n ∈ nineL x, Num n := hxW.1
    simp only [nineL, List.mem_cons, List.not_mem_nil, or_false, forall_eq_or_imp, forall_eq] at nn
    obtain ⟨N0, N1, N2, N3, N4, N5, N6, N7, N8⟩ := nn
    have w9 := wrap_ok x.num (by unfold Num at N8; omega) (by unfold Num at N8; omega)
    have hlen0 := insTo_len hW k
    have hl2 := numsL_len hxW.2.1
    have hl3 := hxW.2.2
    have c0 := fun H => num34 (d := d) (lim := 1) (H := H) N0
    have c1 := fun H => num34 (d := d) (lim := 1) (H := H) N1
    have c2 := fun H => num34 (d := d) (lim := 1) (H := H) N2
    have c3 := fun H => num34 (d := d) (lim := 1) (H := H) N3
    have c4 := fun H => num34 (d := d) (lim := 1) (H := H) N4
    have c5 := fun H => num34 (d := d) (lim := 1) (H := H) N5
    have c6 := fun H => num34 (d := d) (lim := 1) (H := H) N6
    have c7 := fun H => num34 (d := d) (lim := 1) (H := H) N7
    have c8 := fun H => num34 (d := d) (lim := 1) (H := H) N8
    have hsk : (s0 ++ insTo b.ins k).length ≤ 900100000 := by simp; omega
    obtain ⟨t0, q0, l0, k0⟩ := cat34 N0 (s0 ++ insTo b.ins k) (by omega)
    obtain ⟨t1, q1, l1, k1⟩ := cat34 N1 t0 (by omega)
    obtain ⟨t2, q2, l2, k2⟩ := cat34 N2 t1 (by omega)
    obtain ⟨t3, q3, l3, k3⟩ := cat34 N3 t2 (by omega)
    obtain ⟨t4, q4, l4, k4⟩ := cat34 N4 t3 (by omega)
    obtain ⟨t5, q5, l5, k5⟩ := cat34 N5 t4 (by omega)
    obtain ⟨t6, q6, l6, k6⟩ := cat34 N6 t5 (by omega)
    obtain ⟨t7, q7, l7, k7⟩ := cat34 N7 t6 (by omega)
    obtain ⟨t8, q8, l8, k8⟩ := cat34 N8 t7 (by omega)
    have hst := stA_new (n := 11) (lim := 1) (A := A') (H := H) (cs := (iD x).map .d) (c := insZ) (by decide) (all_leaf_d _) rfl rfl
    have hA := al_eq insZ A' H
    have g1 : (A' ++ [some ((iD x).map AV.d)])[A'.length]? = some (some ((iD x).map AV.d)) := by simp
    have hKl := (List.getElem?_eq_some_iff.1 hK').1
    have h0l := (List.getElem?_eq_some_iff.1 h0').1
    have gK : (A' ++ [some ((iD x).map AV.d)])[K]? = some (some ((bD b).map AV.d)) := by rw [List.getElem?_append_left hKl]; exact hK'
    have g0 : (A' ++ [some ((iD x).map AV.d)])[0]? = some p0 := by rw [List.getElem?_append_left h0l]; exact h0'
    have hloop := args14 (d := d) (H := H) (K := K) (i := i) (k := k) hxW.2.1 hl3 g1 (s0 := t8) (by omega)
    have e0 : (iD x)[0]? = some (.int .i64 x.op) := rfl
    have e1 : (iD x)[1]? = some (.int .i64 x.d) := rfl
    have e2 : (iD x)[2]? = some (.int .i64 x.a) := rfl
    have e3 : (iD x)[3]? = some (.int .i64 x.b) := rfl
    have e4 : (iD x)[4]? = some (.int .i64 x.fn) := rfl
    have e5 : (iD x)[5]? = some (.int .i64 x.obj) := rfl
    have e6 : (iD x)[6]? = some (.int .i64 x.off) := rfl
    have e7 : (iD x)[7]? = some (.int .i64 x.size) := rfl
    have e8 : (iD x)[8]? = some (.int .u32 x.num) := rfl
    have e10 : (iD x)[10]? = some (.bool x.log) := rfl
    have ht8 : t8 = s0 ++ insTo b.ins k ++ numsL (nineL x) := by
      rw [q8, q7, q6, q5, q4, q3, q2, q1, q0]
      simp [numsL, nineL]
    have n1 : (.d (.str ⟨#[10]⟩) : AV) = vs (bstr [10]) := rfl
    have n2 : (.d (.str ⟨#[32, 108, 111, 103]⟩) : AV) = vs (bstr [32, 108, 111, 103]) := rfl
    have d1 := cat_l (P := Tryd.prog) (t := 9) (x := t8 ++ numsL x.args) (y := [32, 108, 111, 103]) (by simp; omega)
    have d2 := cat_l (P := Tryd.prog) (t := 9) (x := t8 ++ numsL x.args ++ logL x.log) (y := [10]) (by unfold logL; split <;> simp <;> omega)
    have goal : s0 ++ insTo b.ins (k + 1) = t8 ++ numsL x.args ++ logL x.log ++ [10] := by
      rw [insTo_succ hx, ht8]
      simp [insL]
    refine .inl ⟨_, (A' ++ [some ((iD x).map AV.d)]) :: H, hk', ?_, _, rfl, rfl, gK, g0⟩
    rw [goal]
    unfold s14.l1
    rw [n1, n2]
    cases hL : x.log with
    | false =>
      rw [hL] at e10 d2
      simp only [logL, Bool.false_eq_true, if_false, List.append_nil] at d2 ⊢
      clear goal ht8 q0 q1 q2 q3 q4 q5 q6 q7 q8 d1 n1 n2
      generalize iD x = r at *
      generalize bD b = rb at *
      generalize seqD b.inl b.ins iD = sq at *
      simp -implicitDefEqProofs only [Ev.bi, pu, bnd_eq, Option.bind_some, Option.map_some, List.getD_cons_zero, List.getD_cons_succ, fa_ptr, ld_ptr, getB_zero, hK', Option.join_some, List.getElem?_map, f0, up_zero, Nat.zero_add, hln, abin_lss, hi, decide_true, asB_b, cn, cond_true, cond_false, hix, hall, hA, hst, g1, e0, e1, e2, e3, e4, e5, e6, e7, e8, e10, cvI_int, w9, c0, c1, c2, c3, c4, c5, c6, c7, c8, k0, k1, k2, k3, k4, k5, k6, k7, k8, lp, hloop, dsp_exit, jn, dsp_normal, gv, d2, abin_add, w]
      rfl
    | true =>
      rw [hL] at e10 d2
      simp only [logL, if_true] at d2 ⊢
      clear goal ht8 q0 q1 q2 q3 q4 q5 q6 q7 q8 n1 n2
      generalize iD x = r at *
      generalize bD b = rb at *
      generalize seqD b.inl b.ins iD = sq at *
      simp -implicitDefEqProofs only [Ev.bi, pu, bnd_eq, Option.bind_some, Option.map_some, List.getD_cons_zero, List.getD_cons_succ, fa_ptr, ld_ptr, getB_zero, hK', Option.join_some, List.getElem?_map, f0, up_zero, Nat.zero_add, hln, abin_lss, hi, decide_true, asB_b, cn, cond_true, cond_false, hix, hall, hA, hst, g1, e0, e1, e2, e3, e4, e5, e6, e7, e8, e10, cvI_int, w9, c0, c1, c2, c3, c4, c5, c6, c7, c8, k0, k1, k2, k3, k4, k5, k6, k7, k8, lp, hloop, dsp_exit, jn, dsp_normal, gv, d1, d2, abin_add, w]
      rfl
  · obtain rfl : k = b.ins.length := by omega
    refine .inr ⟨_, ?_, by simp, A', rfl, hK', h0'⟩
    unfold s14.l1
    generalize bD b = rb at *
    simp -implicitDefEqProofs [getB, hK', f0, hln, abin_lss]
end
end Go.Ev.Tryd

/- The document's text: blocks, the whole. -/
set_option maxRecDepth 100000
namespace Go.Ev.Tryd
open Go Go.Ev Go.Proofs
section
variable {d lim : Nat} {H : Heap}
theorem blks14 {p : Prc} (hl : p.blks.length ≤ 40) (hW : ∀ b ∈ p.blks, BlkW b) :
    Gives (iterN LB (s14.l2 (evCall Tryd.prog C (d + 3) 1) 1) [.ptr 0 0 0, vs (bstr []), vi 0] ([some ((pD p).map .d)] :: H))
      (fun r => ∃ A', r = (.exit 0, [vs (bstr (textTo p.blks p.blks.length))], A' :: H)) := by
  have f5 : (pD p)[5]? = some (seqD p.bnl p.blks bD) := rfl
  have hlp := seq_len p.bnl p.blks bD
  refine iter_gives (Inv := fun i s Hh => ∃ A', s = [.ptr 0 0 0, vs (bstr (textTo p.blks i)), vi i] ∧ Hh = A' :: H ∧ A'[0]? = some (some ((pD p).map .d))) p.blks.length (big_lt (by omega)) (fun i hi s Hh hinv => ?_)
    ⟨_, rfl, rfl, rfl⟩
  obtain ⟨A', rfl, rfl, h0'⟩ := hinv
  rcases Nat.lt_or_ge i p.blks.length with hi' | hi'
  · obtain ⟨b, hb⟩ : ∃ b, p.blks[i]? = some b := ⟨_, List.getElem?_eq_getElem hi'⟩
    have hbW := hW b (List.mem_of_getElem? hb)
    obtain ⟨q, qs, rr⟩ := seq_row (nl := p.bnl) (f := bD) (s := 5) (fun _ => rfl) hb
    have hix := rr.ix
    have hall := rr.all
    have hii : (i : Int) < p.blks.length := by omega
    have w := wrap_ok ((i : Int) + 1) (by omega) (by omega)
    have hiN := num_nat (k := i) (by omega)
    have hlk := numL_len hiN
    have hlt := textTo_len hW i (by omega)
    have hli := insTo_len hbW.2.1 b.ins.length
    have h60 := hbW.2.2
    have nn : ∀ n ∈ fourL b, Num n := hbW.1
    simp only [fourL, List.mem_cons, List.not_mem_nil, or_false, forall_eq_or_imp, forall_eq] at nn
    obtain ⟨N0, N1, N2, N3⟩ := nn
    have hst := stA_new (n := 5) (lim := 1) (A := A') (H := H) (cs := (bD b).map .d) (c := blkZ) (by decide) (all_leaf_d _) rfl rfl
    have hA := al_eq blkZ A' H
    have gK : (A' ++ [some ((bD b).map AV.d)])[A'.length]? = some (some ((bD b).map AV.d)) := by simp
    have h0l := (List.getElem?_eq_some_iff.1 h0').1
    have g0 : (A' ++ [some ((bD b).map AV.d)])[0]? = some (some ((pD p).map AV.d)) := by rw [List.getElem?_append_left h0l]; exact h0'
    have h33 := fun H => num33 (d := d + 1) (lim := 1) (H := H) hiN
    have cat1 := cat_l (P := Tryd.prog) (t := 9) (x := textTo p.blks i) (y := [98]) (by simp; omega)
    have cat2 := cat_l (P := Tryd.prog) (t := 9) (x := textTo p.blks i ++ [98]) (y := numL i) (by simp; omega)
    have cat3 := cat_l (P := Tryd.prog) (t := 9) (x := textTo p.blks i ++ [98] ++ numL i) (y := [58, 10]) (by simp; omega)
    obtain ⟨u0, hu0⟩ : ∃ u, u = textTo p.blks i ++ [98] ++ numL i ++ [58, 10] := ⟨_, rfl⟩
    rw [← hu0] at cat3
    have hu0l : u0.length ≤ 2000000 := by rw [hu0]; simp; omega
    obtain ⟨r, hr, A3, rfl, gK3, g03⟩ := lines14 (d := d) (H := H) hbW (K := A'.length) (i := i) gK g0 (s0 := u0) (by omega)
    obtain ⟨u1, hu1⟩ : ∃ u, u = u0 ++ insTo b.ins b.ins.length := ⟨_, rfl⟩
    have hu1l : u1.length ≤ 3000000 := by rw [hu1]; simp; omega
    rw [← hu1] at hr
    have cat4 := cat_l (P := Tryd.prog) (t := 9) (x := u1) (y := [32, 101, 110, 100]) (by simp; omega)
    have hu2l : (u1 ++ [32, 101, 110, 100]).length ≤ 3000010 := by simp; omega
    obtain ⟨t0, q0, l0, k0⟩ := cat34 N0 (u1 ++ [32, 101, 110, 100]) (by omega)
    obtain ⟨t1, q1, l1, k1⟩ := cat34 N1 t0 (by omega)
    obtain ⟨t2, q2, l2, k2⟩ := cat34 N2 t1 (by omega)
    obtain ⟨t3, q3, l3, k3⟩ := cat34 N3 t2 (by omega)
    have cat5 := cat_l (P := Tryd.prog) (t := 9) (x := t3) (y := [10]) (by simp; omega)
    have c0 := fun H => num34 (d := d) (lim := 1) (H := H) N0
    have c1 := fun H => num34 (d := d) (lim := 1) (H := H) N1
    have c2 := fun H => num34 (d := d) (lim := 1) (H := H) N2
    have c3 := fun H => num34 (d := d) (lim := 1) (H := H) N3
    have e1 : (bD b)[1]? = some (.int .i64 b.fin) := rfl
    have e2 : (bD b)[2]? = some (.int .i64 b.a) := rfl
    have e3 : (bD b)[3]? = some (.int .i64 b.to) := rfl
    have e4 : (bD b)[4]? = some (.int .i64 b.els) := rfl
    have n1 : (.d (.str ⟨#[98]⟩) : AV) = vs (bstr [98]) := rfl
    have n2 : (.d (.str ⟨#[58, 10]⟩) : AV) = vs (bstr [58, 10]) := rfl
    have n3 : (.d (.str ⟨#[32, 101, 110, 100]⟩) : AV) = vs (bstr [32, 101, 110, 100]) := rfl
    have n4 : (.d (.str ⟨#[10]⟩) : AV) = vs (bstr [10]) := rfl
    have goal : textTo p.blks (i + 1) = t3 ++ [10] := by
      rw [textTo_succ hb, q3, q2, q1, q0, hu1, hu0]
      simp [blkL, headL, endL, numsL, fourL]
    refine .inl ⟨_, A3 :: H, hi', ?_, _, rfl, rfl, g03⟩
    rw [goal]
    unfold s14.l2
    rw [n1, n2, n3, n4]
    clear goal q0 q1 q2 q3 hu1 hu0 n1 n2 n3 n4
    generalize bD b = rb at *
    generalize pD p = rp at *
    generalize seqD p.bnl p.blks bD = sq at *
    simp -implicitDefEqProofs only [Ev.bi, pu, bnd_eq, Option.bind_some, Option.map_some, List.getD_cons_zero, List.getD_cons_succ, fa_ptr, ld_ptr, getB_zero, h0', Option.join_some, List.getElem?_map, f5, up_zero, Nat.zero_add, hlp, abin_lss, hii, decide_true, asB_b, cn, cond_true, hix, hall, hA, hst, cat1, h33, cat2, cat3, lp, hr, dsp_exit, gv, cat4, gK3, e1, e2, e3, e4, c0, c1, c2, c3, k0, k1, k2, k3, cat5, abin_add, w]
    rfl
  · obtain rfl : i = p.blks.length := by omega
    refine .inr ⟨_, ?_, by simp, A', rfl⟩
    unfold s14.l2
    generalize pD p = rp at *
    simp -implicitDefEqProofs [getB, h0', f5, hlp, abin_lss]
theorem text14 {p : Prc} (hl : p.blks.length ≤ 40) (hW : ∀ b ∈ p.blks, BlkW b) : evCall Tryd.prog C (d + 4) lim 14 [.agg ((pD p).map .d)] H = some (vs (bstr (textTo p.blks p.blks.length)), H) := by
  rw [evCall_pureEq (fi := fi14) rfl rfl (b14 _ _ _ _), up_data]
  unfold s14
  have hb := bx_data (r := pD p) (A := []) (H := H)
  obtain ⟨r, hr, A', rfl⟩ := blks14 (d := d) (H := H) hl hW
  have n0 : (.d (.str ⟨#[]⟩) : AV) = vs (bstr []) := rfl
  rw [n0]
  generalize pD p = row at *
  generalize bstr [] = b0 at *
  simp -implicitDefEqProofs [hb, lp, hr, bnd_eq]
end
end Go.Ev.Tryd

/- Few, of a module that the law itself lays. -/
set_option maxRecDepth 100000
namespace Go.Ev.Tryd
open Go Go.Ev Go.Proofs
section
variable {d lim : Nat} {H : Heap}
theorem insV {R : List AV} {PV q : AV} {qs : Nat → AV} (h2 : R[2]? = some PV) {p : Prc} {a : Nat} (hix : ixS 6 PV (vi a) = some q) (hfa : ∀ j, fa j q = some (qs j)) (c5 : ∀ B : Arena, ld (B :: H) (qs 5) = some (.d (seqD p.bnl p.blks bD))) {b : Blk} {k : Nat} (hb : p.blks[k]? = some b) (hn : b.ins.length ≤ 60) (ha : ∀ i ∈ b.ins, i.args.length ≤ 9223372036854775807) :
    iterN LB (s6.l0 (evCall Tryd.prog C (d + 1) 1) 1) [.ptr 0 0 0, vi a, vi k, vi 0] ([some R] :: H) =
      some (if b.ins.all insFew then (.exit 4, [.ptr 0 0 0, vi a, vi k], [some R] :: H) else (.ret, [vb false], [some R] :: H)) := by
  have hins := fun (i : Ins) (hi : i.args.length ≤ 9223372036854775807) (H : Heap) => ins17 (d := d) (lim := 1) (H := H) (i := i) hi
  obtain ⟨q2, qs2, rr2⟩ := seq_row (nl := p.bnl) (f := bD) (s := 5) (fun _ => rfl) hb
  have hix2 := rr2.ix
  have hfa2 := rr2.fa
  have c0 := fun H => rr2.cell H 0 (seqD b.inl b.ins iD) rfl
  have hl := seq_len b.inl b.ins iD
  rw [show (if b.ins.all insFew then _ else _) = (if (List.range b.ins.length).any (fun j => !insFew ((b.ins[j]?).getD default)) then ((.ret, [vb false], [some R] :: H) : Res) else (.exit 4, [.ptr 0 0 0, vi a, vi k], [some R] :: H)) by
    rw [any_all]
    cases b.ins.all insFew <;> rfl]
  refine iter_any (n := b.ins.length) (fun j => [.ptr 0 0 0, vi a, vi k, vi j]) (fun j => !insFew ((b.ins[j]?).getD default)) (by omega) (fun j hj hp => ?_) (fun j hj hp => ?_) (by simp) ?_ (by simp)
  · obtain ⟨i, hi'⟩ : ∃ i, b.ins[j]? = some i := ⟨_, List.getElem?_eq_getElem hj⟩
    obtain ⟨q3, qs3, rr3⟩ := seq_row (nl := b.inl) (f := iD) (s := 11) (fun _ => rfl) hi'
    have hi : (j : Int) < b.ins.length := by omega
    have hix3 := rr3.ix
    have hall3 := rr3.all
    have w := wrap_ok ((j : Int) + 1) (by omega) (by omega)
    have hcall := hins i (ha i (List.mem_of_getElem? hi'))
    have hk : insFew i = true := by simpa [hi'] using hp
    unfold s6.l0
    simp -implicitDefEqProofs [h2, hix, hfa, c5, hix2, hfa2, c0, hl, abin_lss, hi, hix3, hall3, hcall, hk, abin_add, w]
  · obtain ⟨i, hi'⟩ : ∃ i, b.ins[j]? = some i := ⟨_, List.getElem?_eq_getElem hj⟩
    obtain ⟨q3, qs3, rr3⟩ := seq_row (nl := b.inl) (f := iD) (s := 11) (fun _ => rfl) hi'
    have hi : (j : Int) < b.ins.length := by omega
    have hix3 := rr3.ix
    have hall3 := rr3.all
    have hcall := hins i (ha i (List.mem_of_getElem? hi'))
    have hk : insFew i = false := by simpa [hi'] using hp
    unfold s6.l0
    simp -implicitDefEqProofs [h2, hix, hfa, c5, hix2, hfa2, c0, hl, abin_lss, hi, hix3, hall3, hcall, hk]
  · unfold s6.l0
    simp -implicitDefEqProofs [h2, hix, hfa, c5, hix2, hfa2, c0, hl, abin_lss]
theorem blksV {R : List AV} {PV q : AV} {qs : Nat → AV} (h2 : R[2]? = some PV) {p : Prc} {a : Nat} (hix : ixS 6 PV (vi a) = some q) (hfa : ∀ j, fa j q = some (qs j)) (c5 : ∀ B : Arena, ld (B :: H) (qs 5) = some (.d (seqD p.bnl p.blks bD))) (hm : ∀ b ∈ p.blks, ∀ i ∈ b.ins, i.args.length ≤ 9223372036854775807) (hn : p.blks.length ≤ 40) :
    iterN LB (s6.l1 (evCall Tryd.prog C (d + 1) 1) 1) [.ptr 0 0 0, vi a, vi 0] ([some R] :: H) =
      some (if p.blks.all blkFew then (.exit 2, [.ptr 0 0 0, vi a], [some R] :: H) else (.ret, [vb false], [some R] :: H)) := by
  have hin := fun (k : Nat) (b : Blk) (hb : p.blks[k]? = some b) (h60 : b.ins.length ≤ 60) => insV (d := d) (H := H) h2 hix hfa c5 hb h60 (hm b (List.mem_of_getElem? hb))
  have hl := seq_len p.bnl p.blks bD
  rw [show (if p.blks.all blkFew then _ else _) = (if (List.range p.blks.length).any (fun j => !blkFew ((p.blks[j]?).getD default)) then ((.ret, [vb false], [some R] :: H) : Res) else (.exit 2, [.ptr 0 0 0, vi a], [some R] :: H)) by
    rw [any_all]
    cases p.blks.all blkFew <;> rfl]
  refine iter_any (n := p.blks.length) (fun k => [.ptr 0 0 0, vi a, vi k]) (fun j => !blkFew ((p.blks[j]?).getD default)) (by omega) (fun k hk hp => ?_) (fun k hk hp => ?_) (by simp) ?_ (by simp)
  · obtain ⟨b, hb⟩ : ∃ b, p.blks[k]? = some b := ⟨_, List.getElem?_eq_getElem hk⟩
    obtain ⟨q2, qs2, rr2⟩ := seq_row (nl := p.bnl) (f := bD) (s := 5) (fun _ => rfl) hb
    have hix2 := rr2.ix
    have hfa2 := rr2.fa
    have c0 := fun H => rr2.cell H 0 (seqD b.inl b.ins iD) rfl
    have hl2 := seq_len b.inl b.ins iD
    have hi : (k : Int) < p.blks.length := by omega
    have w := wrap_ok ((k : Int) + 1) (by omega) (by omega)
    have hf : blkFew b = true := by simpa [hb] using hp
    simp [blkFew] at hf
    have hall : b.ins.all insFew = true := List.all_eq_true.2 hf.2
    have h60 : ¬ (60 : Int) < b.ins.length := by omega
    have hloop := hin k b hb hf.1
    rw [hall, if_pos rfl] at hloop
    unfold s6.l1 lp
    simp -implicitDefEqProofs [h2, hix, hfa, c5, hl, abin_lss, hi, hix2, hfa2, c0, hl2, abin_gtr, h60, hloop, bnd_eq, abin_add, w]
  · obtain ⟨b, hb⟩ : ∃ b, p.blks[k]? = some b := ⟨_, List.getElem?_eq_getElem hk⟩
    obtain ⟨q2, qs2, rr2⟩ := seq_row (nl := p.bnl) (f := bD) (s := 5) (fun _ => rfl) hb
    have hix2 := rr2.ix
    have hfa2 := rr2.fa
    have c0 := fun H => rr2.cell H 0 (seqD b.inl b.ins iD) rfl
    have hl2 := seq_len b.inl b.ins iD
    have hi : (k : Int) < p.blks.length := by omega
    have hf : blkFew b = false := by simpa [hb] using hp
    unfold s6.l1 lp
    by_cases h60 : (60 : Int) < b.ins.length
    · simp -implicitDefEqProofs [h2, hix, hfa, c5, hl, abin_lss, hi, hix2, hfa2, c0, hl2, abin_gtr, h60]
    · have hle : b.ins.length ≤ 60 := by omega
      have hall : b.ins.all insFew = false := by
        have : (decide (b.ins.length ≤ 60)) = true := by simpa using hle
        unfold blkFew at hf
        rw [this, Bool.true_and] at hf
        exact hf
      have hloop := hin k b hb hle
      rw [hall, if_neg (by simp)] at hloop
      simp -implicitDefEqProofs [h2, hix, hfa, c5, hl, abin_lss, hi, hix2, hfa2, c0, hl2, abin_gtr, h60, hloop, bnd_eq]
  · unfold s6.l1
    simp -implicitDefEqProofs [h2, hix, hfa, c5, hl, abin_lss]
theorem fewP {A : Arena} {p : Prc} (hA : A[1]? = some (some ((pD p).map .d))) (hm : ∀ b ∈ p.blks, ∀ i ∈ b.ins, i.args.length ≤ 9223372036854775807) :
    evCall Tryd.prog C (d + 2) lim 6 [.agg [.d (.seq true 0 []), .d (.seq true 0 []), .sl 0 1 0 1 6, vi 0]] (A :: H) = some (vb (prcFew p), A :: H) := by
  rw [evCall_pureEq (fi := fi6) rfl rfl (b6 _ _ _ _)]
  have hu : (AV.agg [.d (.seq true 0 []), .d (.seq true 0 []), .sl 0 1 0 1 6, vi 0]).up 1 = .agg [.d (.seq true 0 []), .d (.seq true 0 []), .sl 1 1 0 1 6, vi 0] := by simp [AV.up]
  rw [hu]
  unfold s6
  have hb : bx (.agg [.d (.seq true 0 []), .d (.seq true 0 []), .sl 1 1 0 1 6, vi 0]) ([] :: A :: H) = some (.ptr 0 0 0, [some [.d (.seq true 0 []), .d (.seq true 0 []), .sl 1 1 0 1 6, vi 0]] :: A :: H) := rfl
  have h5 : (pD p)[5]? = some (seqD p.bnl p.blks bD) := rfl
  have h4 : (pD p)[4]? = some (seqD p.onl p.objs sD) := rfl
  have hix : ixS 6 (.sl 1 1 0 1 6) (vi 0) = some (.ptr 1 1 0) := rfl
  have hfa : ∀ j, fa j (.ptr 1 1 0) = some (.ptr 1 1 (0 + j)) := fun j => rfl
  have c5 : ∀ B : Arena, ld (B :: A :: H) (.ptr 1 1 (0 + 5)) = some (.d (seqD p.bnl p.blks bD)) := fun B => by
    simp [ld_ptr, getB, hA, h5, AV.up]
  have c4 : ∀ B : Arena, ld (B :: A :: H) (.ptr 1 1 (0 + 4)) = some (.d (seqD p.onl p.objs sD)) := fun B => by
    simp [ld_ptr, getB, hA, h4, AV.up]
  have hinb : inB (vi 0) 1 = some 0 := rfl
  have hbl := fun h40 => blksV (d := d) (H := A :: H) (R := [.d (.seq true 0 []), .d (.seq true 0 []), .sl 1 1 0 1 6, vi 0]) (PV := .sl 1 1 0 1 6) (q := .ptr 1 1 0) (qs := fun j => .ptr 1 1 (0 + j)) rfl (p := p) (a := 0) hix hfa c5 hm h40
  have l5 := seq_len p.bnl p.blks bD
  have l4 := seq_len p.onl p.objs sD
  have hl1 : lnS (.sl 1 1 0 1 6) = some (vi 1) := rfl
  have hloop : iterN LB (s6.l2 (evCall Tryd.prog C (d + 1) 1) 1) [.ptr 0 0 0, vi 0] ([some [.d (.seq true 0 []), .d (.seq true 0 []), .sl 1 1 0 1 6, vi 0]] :: A :: H) = some (if prcFew p then (.exit 0, [], [some [.d (.seq true 0 []), .d (.seq true 0 []), .sl 1 1 0 1 6, vi 0]] :: A :: H) else (.ret, [vb false], [some [.d (.seq true 0 []), .d (.seq true 0 []), .sl 1 1 0 1 6, vi 0]] :: A :: H)) := by
    have := iter_any (F := s6.l2 (evCall Tryd.prog C (d + 1) 1) 1) (H := [some [.d (.seq true 0 []), .d (.seq true 0 []), .sl 1 1 0 1 6, vi 0]] :: A :: H) (n := 1) (fun k => [.ptr 0 0 0, vi k]) (fun _ => !prcFew p)
      (rv := (.ret, [vb false], [some [.d (.seq true 0 []), .d (.seq true 0 []), .sl 1 1 0 1 6, vi 0]] :: A :: H)) (ex := (.exit 0, [], [some [.d (.seq true 0 []), .d (.seq true 0 []), .sl 1 1 0 1 6, vi 0]] :: A :: H)) (by omega) (fun k hk hp => ?_) (fun k hk hp => ?_) (by simp) ?_ (by simp)
    · rw [show ([.ptr 0 0 0, vi 0] : List AV) = [.ptr 0 0 0, vi ((0 : Nat) : Int)] from rfl, this]
      cases prcFew p <;> rfl
    · obtain rfl : k = 0 := by omega
      have hf : prcFew p = true := by simpa using hp
      simp [prcFew] at hf
      have hall : p.blks.all blkFew = true := List.all_eq_true.2 hf.2
      have h40 : ¬ (40 : Int) < p.blks.length := by omega
      have h20 : ¬ (20 : Int) < p.objs.length := by omega
      have hlo := hbl hf.1.1
      rw [hall, if_pos rfl] at hlo
      have w := wrap_ok (1 : Int) (by omega) (by omega)
      unfold s6.l2 lp
      simp -implicitDefEqProofs at hlo
      simp -implicitDefEqProofs [getB, hl1, abin_lss, hinb, hA, h5, l5, abin_gtr, h40, h4, l4, h20, hlo, bnd_eq, abin_add, w]
    · obtain rfl : k = 0 := by omega
      have hf : prcFew p = false := by simpa using hp
      unfold s6.l2 lp
      by_cases h40 : (40 : Int) < p.blks.length
      · simp -implicitDefEqProofs [getB, hl1, abin_lss, hinb, hA, h5, l5, abin_gtr, h40]
      · by_cases h20 : (20 : Int) < p.objs.length
        · simp -implicitDefEqProofs [getB, hl1, abin_lss, hinb, hA, h5, l5, abin_gtr, h40, h4, l4, h20]
        · have e1 : (decide (p.blks.length ≤ 40) && decide (p.objs.length ≤ 20)) = true := by simp; omega
          have hall : p.blks.all blkFew = false := by
            unfold prcFew at hf
            rw [e1, Bool.true_and] at hf
            exact hf
          have hlo := hbl (by omega)
          rw [hall, if_neg (by simp)] at hlo
          simp -implicitDefEqProofs at hlo
          simp -implicitDefEqProofs [getB, hl1, abin_lss, hinb, hA, h5, l5, abin_gtr, h40, h4, l4, h20, hlo, bnd_eq]
    · unfold s6.l2
      simp -implicitDefEqProofs [getB, hl1, abin_lss]
  have e0 : lnS (.d (.seq true 0 [])) = some (vi 0) := rfl
  unfold lp
  cases hf : prcFew p with
  | true =>
    rw [hf, if_pos rfl] at hloop
    simp -implicitDefEqProofs [hb, getB, hl1, abin_gtr, hloop, bnd_eq]
  | false =>
    rw [hf, if_neg (by simp)] at hloop
    simp -implicitDefEqProofs [hb, getB, hl1, abin_gtr, hloop, bnd_eq]
end
end Go.Ev.Tryd

/- IrTexts: the law. -/
set_option maxRecDepth 100000
namespace Go.Ev.Tryd
open Go Go.Ev Go.Proofs
/-- A block's end, as an instruction. -/
def endI (b : Blk) : Ins := { op := b.fin, d := 0, a := b.a, b := 0, fn := 0, obj := b.to, off := b.els, size := 0, num := 0, anl := true, args := [], log := false }
theorem num_of {n : Int} (h : farN n = false) : Num n := by
  unfold farN at h
  simp at h
  unfold Num
  omega
theorem insW_of {x : Ins} (h : insFew x = true) (hw : W x.num) : InsW x := by
  unfold insFew at h
  simp only [Bool.and_eq_true, Bool.not_eq_true', List.any_eq_false, decide_eq_true_eq] at h
  obtain ⟨⟨h1, h2⟩, h3⟩ := h
  refine ⟨fun n hn => ?_, fun n hn => num_of (by simpa using h2 n hn), h3⟩
  unfold nineL at hn
  simp only [List.mem_cons, List.not_mem_nil, or_false] at hn
  by_cases hq : n = x.num
  · subst hq
    unfold W at hw
    unfold Num
    omega
  · exact num_of (by
      have : n ∈ numsI x := by
        unfold numsI
        simp only [List.mem_cons, List.not_mem_nil, or_false]
        rcases hn with h | h | h | h | h | h | h | h | h
        all_goals first
          | (exact absurd h hq)
          | simp [h]
      simpa using h1 n this)
theorem fourW_of {b : Blk} (h : insFew (endI b) = true) : ∀ n ∈ fourL b, Num n := by
  unfold insFew at h
  simp only [Bool.and_eq_true, Bool.not_eq_true', List.any_eq_false, decide_eq_true_eq] at h
  obtain ⟨⟨h1, _⟩, _⟩ := h
  intro n hn
  unfold fourL at hn
  simp only [List.mem_cons, List.not_mem_nil, or_false] at hn
  refine num_of ?_
  have : n ∈ numsI (endI b) := by
    unfold numsI endI
    simp only [List.mem_cons, List.not_mem_nil, or_false]
    rcases hn with h | h | h | h <;> simp [h]
  simpa using h1 n this
section
variable {d : Nat} {H : Heap}
theorem ends4 {p : Prc} (hl : p.blks.length ≤ 40) (h60 : ∀ b ∈ p.blks, b.ins.length ≤ 60) {A0 : Arena} (h0 : A0[0]? = some (some ((pD p).map .d))) :
    Gives (iterN LB (s4.l0 (evCall Tryd.prog C (d + 99) 1) 1) [.ptr 0 0 0, vi 0, vi 0] (A0 :: H))
      (fun r => (∃ A', r = (.ret, [vb true], A' :: H)) ∨ ∃ A', r = (.exit 0, [.ptr 0 0 0, vi ((p.blks.length : Int) + insSum p.blks)], A' :: H) ∧ A'[0]? = some (some ((pD p).map .d)) ∧ ∀ b ∈ p.blks, insFew (endI b) = true) := by
  have f5 : (pD p)[5]? = some (seqD p.bnl p.blks bD) := rfl
  have hlp := seq_len p.bnl p.blks bD
  refine iter_gives (Inv := fun k s Hh => ∃ A', s = [.ptr 0 0 0, vi ((k : Int) + insSum (p.blks.take k)), vi k] ∧ Hh = A' :: H ∧ A'[0]? = some (some ((pD p).map .d)) ∧ ∀ b ∈ p.blks.take k, insFew (endI b) = true) p.blks.length (big_lt (by omega)) (fun k hk s Hh hinv => ?_)
    ⟨_, by simp [insSum], rfl, h0, by simp⟩
  obtain ⟨A', rfl, rfl, h0', hall'⟩ := hinv
  rcases Nat.lt_or_ge k p.blks.length with hk' | hk'
  · obtain ⟨b, hb⟩ : ∃ b, p.blks[k]? = some b := ⟨_, List.getElem?_eq_getElem hk'⟩
    obtain ⟨q, qs, rr⟩ := seq_row (nl := p.bnl) (f := bD) (s := 5) (fun _ => rfl) hb
    have hix := rr.ix
    have hall := rr.all
    have hi : (k : Int) < p.blks.length := by omega
    have w := wrap_ok ((k : Int) + 1) (by omega) (by omega)
    have hs := insSum_take hb
    have hle := insSum_le (l := p.blks.take k) fun x hx => h60 x (List.mem_of_mem_take hx)
    have hle2 : (p.blks.take k).length ≤ 40 := by simp; omega
    have hb60 := h60 b (List.mem_of_getElem? hb)
    have w2 := wrap_ok ((k : Int) + (insSum (p.blks.take k) : Nat) + 1) (by omega) (by omega)
    have w3 := wrap_ok ((k : Int) + (insSum (p.blks.take k) : Nat) + 1 + b.ins.length) (by omega) (by omega)
    have hst := stA_new (n := 5) (lim := 1) (A := A') (H := H) (cs := (bD b).map .d) (c := blkZ) (by decide) (all_leaf_d _) rfl rfl
    have hA := al_eq blkZ A' H
    have g1 : (A' ++ [some ((bD b).map AV.d)])[A'.length]? = some (some ((bD b).map AV.d)) := by simp
    have h0l := (List.getElem?_eq_some_iff.1 h0').1
    have g0 : (A' ++ [some ((bD b).map AV.d)])[0]? = some (some ((pD p).map AV.d)) := by rw [List.getElem?_append_left h0l]; exact h0'
    have e0 : (bD b)[0]? = some (seqD b.inl b.ins iD) := rfl
    have e1 : (bD b)[1]? = some (.int .i64 b.fin) := rfl
    have e2 : (bD b)[2]? = some (.int .i64 b.a) := rfl
    have e3 : (bD b)[3]? = some (.int .i64 b.to) := rfl
    have e4 : (bD b)[4]? = some (.int .i64 b.els) := rfl
    have hln := seq_len b.inl b.ins iD
    have hbld : bld [(0, 1), (1, 1), (2, 1), (3, 1), (4, 1), (5, 1), (6, 1), (7, 1), (8, 1), (9, 1), (10, 1)] insZ [(0, vi b.fin), (2, vi b.a), (5, vi b.to), (6, vi b.els)] = some (.agg ((iD (endI b)).map .d)) := by kernel_rfl
    have h12 := fun H => ins17 (d := d + 98) (lim := 1) (H := H) (i := endI b) (by simp [endI])
    have h7 := fun H => awake_d (d := d) (H := H)
    cases hf : insFew (endI b) with
    | false =>
      rw [hf] at h12
      refine .inr ⟨(.ret, [vb true], (A' ++ [some ((bD b).map AV.d)]) :: H), ?_, by simp, .inl ⟨_, rfl⟩⟩
      unfold s4.l0
      generalize bD b = rb at *
      generalize pD p = rp at *
      generalize iD (endI b) = re at *
      generalize seqD p.bnl p.blks bD = sq at *
      generalize seqD b.inl b.ins iD = sb at *
      simp -implicitDefEqProofs only [Ev.bi, pu, bnd_eq, Option.bind_some, Option.map_some, List.getD_cons_zero, List.getD_cons_succ, fa_ptr, ld_ptr, getB_zero, h0', Option.join_some, List.getElem?_map, f5, up_zero, Nat.zero_add, hlp, abin_lss, hi, decide_true, asB_b, cn, cond_true, cond_false, hix, hall, hA, hst, g1, e1, e2, e3, e4, hbld, h12, aun_not, Bool.not_false, Bool.not_true, h7]
    | true =>
      rw [hf] at h12
      refine .inl ⟨[.ptr 0 0 0, vi (((k + 1 : Nat) : Int) + insSum (p.blks.take (k + 1))), vi ((k + 1 : Nat) : Int)], (A' ++ [some ((bD b).map AV.d)]) :: H, hk', ?_, _, rfl, rfl, g0, ?_⟩
      · have e : ((k + 1 : Nat) : Int) + (insSum (p.blks.take (k + 1)) : Nat) = (k : Int) + (insSum (p.blks.take k) : Nat) + 1 + b.ins.length := by rw [hs]; omega
        have e' : ((k + 1 : Nat) : Int) = (k : Int) + 1 := by omega
        rw [e, e']
        unfold s4.l0
        generalize bD b = rb at *
        generalize pD p = rp at *
        generalize iD (endI b) = re at *
        generalize seqD p.bnl p.blks bD = sq at *
        generalize seqD b.inl b.ins iD = sb at *
        simp -implicitDefEqProofs only [Ev.bi, pu, bnd_eq, Option.bind_some, Option.map_some, List.getD_cons_zero, List.getD_cons_succ, fa_ptr, ld_ptr, getB_zero, h0', Option.join_some, List.getElem?_map, f5, up_zero, Nat.zero_add, hlp, abin_lss, hi, decide_true, asB_b, cn, cond_true, cond_false, hix, hall, hA, hst, g1, e0, e1, e2, e3, e4, hbld, h12, aun_not, Bool.not_true, hln, abin_add, w, w2, w3]
      · rw [List.take_add_one, hb]
        intro x hx
        simp only [Option.toList_some, List.mem_append, List.mem_singleton] at hx
        rcases hx with hx | rfl
        · exact hall' x hx
        · exact hf
  · obtain rfl : k = p.blks.length := by omega
    refine .inr ⟨_, ?_, by simp, .inr ⟨A', rfl, h0', by simpa using hall'⟩⟩
    unfold s4.l0
    generalize pD p = rp at *
    rw [List.take_length]
    simp -implicitDefEqProofs [getB, h0', f5, hlp, abin_lss]
end
end Go.Ev.Tryd

/- IrTexts: the law, the walk. -/
set_option maxRecDepth 100000
namespace Go.Ev.Tryd
open Go Go.Ev Go.Proofs
theorem abin_eqls (x : ByteArray) : abin Tryd.prog .eql 9 (vs x) (vs x) = some (vb true) := by
  simp [abin, strOp]
section
variable {d : Nat} {H : Heap}
theorem texts_ok {p : Prc} (hm : ∀ b ∈ p.blks, ∀ i ∈ b.ins, i.args.length ≤ 9223372036854775807 ∧ W i.num) : evCall Tryd.prog C (d + 100) 1 4 [.agg ((pD p).map .d)] H = some (vb true, H) := by
  rw [evCall_pureEq (fi := fi4) rfl rfl (b4 _ _ _ _), up_data]
  unfold s4
  have hb := bx_data (r := pD p) (A := []) (H := H)
  have hcut := cut_data (r := pD p) (n := 6) rfl
  have h1 := bldS_one (s := 6) (z := [.d (.str ⟨#[]⟩), vb false, vi 0, vi 0, .d (.seq true 0 []), .d (.seq true 0 [])]) (cs := (pD p).map .d) (A := [some ((pD p).map .d)]) (H := H) rfl rfl (all_leaf_d _)
  have h1' : bldS 6 1 [.d (.str ⟨#[]⟩), vb false, vi 0, vi 0, .d (.seq true 0 []), .d (.seq true 0 [])] [(0, .agg ((pD p).map .d))] ([some ((pD p).map .d)] :: H) = some (.sl 0 1 0 1 6, [some ((pD p).map .d), some ((pD p).map .d)] :: H) := h1
  have h2 : bld [(0, 1), (1, 1), (2, 1), (3, 1)] [.d (.seq true 0 []), .d (.seq true 0 []), .d (.seq true 0 []), vi 0] [(2, .sl 0 1 0 1 6)] = some (.agg [.d (.seq true 0 []), .d (.seq true 0 []), .sl 0 1 0 1 6, vi 0]) := rfl
  have h6 := fewP (d := d + 97) (lim := 1) (H := H) (A := [some ((pD p).map .d), some ((pD p).map .d)]) rfl (fun b hb i hi => (hm b hb i hi).1)
  have h7 := fun H => awake_d (d := d) (H := H)
  cases hf : prcFew p with
  | false =>
    rw [hf] at h6
    generalize pD p = row at *
    simp -implicitDefEqProofs [hb, hcut, h1', h2, h6, h7]
  | true =>
    rw [hf] at h6
    have hf' := hf
    simp [prcFew, blkFew] at hf'
    have hF : FewP p := ⟨hf'.1.1, hf'.1.2, fun b hb => (hf'.2 b hb).1, fun b hb i hi => by
      have := (hf'.2 b hb).2 i hi
      simp [insFew] at this
      exact this.2⟩
    obtain ⟨r, hr, hcase⟩ := ends4 (d := d) (H := H) (p := p) hf'.1.1 (fun b hb => (hf'.2 b hb).1) (A0 := [some ((pD p).map .d), some ((pD p).map .d)]) rfl
    rcases hcase with ⟨A', rfl⟩ | ⟨A', rfl, h0', hends⟩
    · generalize pD p = row at *
      simp -implicitDefEqProofs [hb, hcut, h1', h2, h6, lp, hr, bnd_eq]
    · have hW : ∀ b ∈ p.blks, BlkW b := fun b hb => ⟨fourW_of (hends b hb), fun x hx => insW_of ((hf'.2 b hb).2 x hx) (hm b hb x hx).2, (hf'.2 b hb).1⟩
      have h13 := fun H => text13 (d := d + 94) (lim := 1) (H := H) hf'.1.1 hW
      have h14 := fun H => text14 (d := d + 95) (lim := 1) (H := H) hf'.1.1 hW
      have h15 := fun H => size72 (d := d + 98) (lim := 1) (H := H) hF
      have heq := abin_eqls (bstr (textTo p.blks p.blks.length))
      generalize bstr (textTo p.blks p.blks.length) = tx at *
      generalize ((p.blks.length : Int) + insSum p.blks) = tot at *
      generalize pD p = row at *
      have hcut' : cut (row.map AV.d) 0 6 = some (row.map AV.d) := hcut
      simp -implicitDefEqProofs [hb, hcut, h1', h2, h6, lp, hr, bnd_eq, gv, h7, getB, h0', h13, h14, heq, h15, abin_eql]
end
theorem walkIrTexts {ds0 : List D} {W0 : World} (hL : LT W0) {v0 : Value} (h0 : DOk Tryd.prog 12 37 ds0) (hv : VRs (IW W0) G0 [.agg (ds0.map .d)] [v0]) :
    Calls Tryd.prog 4 #[v0] W0 (fun x W' => x = .returned (.bool true) ∧ RowKit.Below W0.heap.size W0 W') := by
  obtain ⟨p, rfl, hp⟩ := dok37 h0
  exact calls_true fitsC follows fits4 hL (texts_ok (fun b hb i hi => (hp.2.2 b hb).2 i hi) (d := 0)) hv
end Go.Ev.Tryd
