import Derived.Test.YtkbimbpaaikkeaaT2
import Derived.Test.YtkbimbpaaikkeaaE3
set_option linter.unusedSimpArgs false
set_option linter.unusedVariables false
/- Words: what the program's own functions of words and the document's answer. -/
set_option maxRecDepth 100000
namespace Go.Ev.Try
open Go Go.Ev Go.Proofs

abbrev vi (n : Int) : AV := .d (.int .i64 n)
abbrev vw (n : Int) : AV := .d (.int .u32 n)
abbrev vb (b : Bool) : AV := .d (.bool b)
theorem dsp_ret (nrm ret : Option Res) (exs : List (Nat × Option Res)) : dsp .ret nrm ret exs = ret := (rfl)
theorem dsp_normal (nrm ret : Option Res) (exs : List (Nat × Option Res)) : dsp .normal nrm ret exs = nrm := (rfl)
theorem dsp_exit (i : Nat) (nrm ret : Option Res) (q : Option Res) : dsp (.exit i) nrm ret [(i, q)] = q := by simp [dsp, dspE]
theorem cal_fn (call : ACall) (g : FuncId) (caps args : List AV) (H : Heap) : cal call (.fn g caps) args H = call g (args ++ caps) H := (rfl)
theorem cvI_int (k k' : IntKind) (n : Int) : cvI k (.d (.int k' n)) = some (.d (.int k (k.wrap n))) := (rfl)
theorem gv_at (e : AX) (vs : List AV) (H : Heap) (j : Nat) : gv (e, vs, H) j = vs.getD j .junk := (rfl)
attribute [simp] dsp_ret dsp_normal dsp_exit cal_fn cvI_int gv_at
theorem wrap_ok (n : Int) (h0 : -9223372036854775808 ≤ n) (h1 : n < 9223372036854775808) : IntKind.i64.wrap n = n := by
  simp [IntKind.wrap, IntKind.bits, IntKind.signed]
  omega
theorem wrap_u (n : Int) : IntKind.u32.wrap n = n % 4294967296 := by
  simp [IntKind.wrap, IntKind.bits, IntKind.signed]
theorem wrap_s (n : Int) : IntKind.i32.wrap n = (n + 2147483648) % 4294967296 - 2147483648 := by
  simp [IntKind.wrap, IntKind.bits, IntKind.signed]
  omega
/-- A word. -/
def W (n : Int) : Prop := 0 ≤ n ∧ n < 4294967296
/-- A word as a signed number. -/
def sg (n : Int) : Int := if 2147483648 ≤ n then n - 4294967296 else n
theorem sg_wrap {n : Int} (h : W n) : IntKind.i32.wrap n = sg n := by
  obtain ⟨h0, h1⟩ := h
  rw [wrap_s]
  unfold sg
  split <;> omega
theorem sg_lo {n : Int} (h : W n) : -2147483648 ≤ sg n ∧ sg n < 2147483648 := by
  obtain ⟨h0, h1⟩ := h
  unfold sg
  split <;> omega
theorem w_mod (n : Int) : W (n % 4294967296) := ⟨by omega, by omega⟩

theorem tdiv_cases (n p : Int) : n.tdiv p = if 0 ≤ n then n / p else -((-n) / p) := by
  split
  · rw [Int.tdiv_eq_ediv_of_nonneg (by assumption)]
  · rw [← Int.tdiv_eq_ediv_of_nonneg (by omega), Int.neg_tdiv, Int.neg_neg]
theorem tmod_cases (n p : Int) : n.tmod p = if 0 ≤ n then n % p else -((-n) % p) := by
  split
  · rw [Int.tmod_eq_emod_of_nonneg (by assumption)]
  · rw [← Int.tmod_eq_emod_of_nonneg (by omega), Int.neg_tmod, Int.neg_neg]
theorem cut_eqn (n : Int) : (if n.tmod 4294967296 < 0 then n.tmod 4294967296 + 4294967296 else n.tmod 4294967296) = n % 4294967296 := by
  rw [tmod_cases]
  split <;> split <;> omega
/-- The quotient's and the remainder's size. -/
theorem tdiv_bound {x y : Int} (hx : -2147483648 ≤ x) (hx1 : x < 2147483648) (hy : y ≠ 0) : -2147483648 ≤ x.tdiv y ∧ x.tdiv y ≤ 2147483648 := by
  have h1 := Int.natAbs_tdiv x y
  have h2 := Nat.div_le_self x.natAbs y.natAbs
  rw [show x.natAbs / y.natAbs = (x.tdiv y).natAbs from h1.symm] at h2
  omega
theorem tmod_bound {x y : Int} (hx : -2147483648 ≤ x) (hx1 : x < 2147483648) : -2147483648 ≤ x.tmod y ∧ x.tmod y ≤ 2147483648 := by
  have h1 := Int.natAbs_tmod x y
  have h2 := Nat.mod_le x.natAbs y.natAbs
  rw [show x.natAbs % y.natAbs = (x.tmod y).natAbs from h1.symm] at h2
  omega
/-- A number without its sign. -/
def ab (n : Int) : Int := if n < 0 then -n else n
theorem ab_tdiv (x y : Int) : (if (x < 0 ∧ y > 0) ∨ (x > 0 ∧ y < 0) then -((ab x).tdiv (ab y)) else (ab x).tdiv (ab y)) = x.tdiv y := by
  unfold ab
  rcases Int.lt_trichotomy x 0 with hx | hx | hx <;> rcases Int.lt_trichotomy y 0 with hy | hy | hy
  · rw [if_neg (by omega), if_pos hx, if_pos hy, Int.neg_tdiv, Int.tdiv_neg, Int.neg_neg]
  · subst hy; simp
  · rw [if_pos (.inl ⟨hx, hy⟩), if_pos hx, if_neg (by omega), Int.neg_tdiv, Int.neg_neg]
  · subst hx; simp
  · subst hx; simp
  · subst hx; simp
  · rw [if_pos (.inr ⟨hx, hy⟩), if_neg (by omega), if_pos hy, Int.tdiv_neg, Int.neg_neg]
  · subst hy; simp
  · rw [if_neg (by omega), if_neg (by omega), if_neg (by omega)]
theorem ab_tmod (x y : Int) : (if x < 0 then -((ab x).tmod (ab y)) else (ab x).tmod (ab y)) = x.tmod y := by
  have hy : ∀ z : Int, z.tmod (ab y) = z.tmod y := by
    intro z
    unfold ab
    split
    · rw [Int.tmod_neg]
    · rfl
  rw [hy]
  unfold ab
  split
  · rw [Int.neg_tmod, Int.neg_neg]
  · rfl

section
variable {d lim : Nat} {H : Heap} {a b : Int}
theorem cut_ok {n : Int} : evCall Try.prog C (d + 1) lim 47 [vi n] H = some (vw (n % 4294967296), H) := by
  rw [evCall_pureEq (fi := fi47) rfl rfl (b47 _ _ _ _)]
  unfold s47
  have hc := cut_eqn n
  have hb : -4294967296 < n.tmod 4294967296 ∧ n.tmod 4294967296 < 4294967296 := by
    rw [tmod_cases]
    split <;> omega
  have e1 : abin Try.prog .rem 3 (vi n) (vi 4294967296) = some (vi (n.tmod 4294967296)) := abin_rem _ _ _ _ _ (by decide)
  generalize n.tmod 4294967296 = t at hc hb e1
  have hw := wrap_ok t (by omega) (by omega)
  have hu : (n % 4294967296) % 4294967296 = n % 4294967296 := by omega
  by_cases hn : t < 0
  · have hw := wrap_ok (t + 4294967296) (by omega) (by omega)
    rw [if_pos hn] at hc
    simp -implicitDefEqProofs [e1, abin_lss, hn, abin_add, hw, wrap_u]
    rw [← hc]
    omega
  · rw [if_neg hn] at hc
    simp -implicitDefEqProofs [e1, abin_lss, hn, wrap_u]
    omega
theorem signed_ok (ha : W a) : evCall Try.prog C (d + 1) lim 52 [vw a] H = some (vi (sg a), H) := by
  obtain ⟨h0, h1⟩ := ha
  rw [evCall_pureEq (fi := fi52) rfl rfl (b52 _ _ _ _)]
  unfold s52
  unfold sg
  have hw := wrap_ok a (by omega) (by omega)
  by_cases h : 2147483648 ≤ a
  · have w2 := wrap_ok (a - 4294967296) (by omega) (by omega)
    simp -implicitDefEqProofs [abin_geq, h, hw, abin_sub, w2]
  · simp -implicitDefEqProofs [abin_geq, h, hw]
theorem abs_ok {n : Int} (h0 : -9000000000000000000 ≤ n) (h1 : n < 9000000000000000000) : evCall Try.prog C (d + 1) lim 53 [vi n] H = some (vi (ab n), H) := by
  rw [evCall_pureEq (fi := fi53) rfl rfl (b53 _ _ _ _)]
  unfold s53
  unfold ab
  by_cases h : n < 0
  · simp -implicitDefEqProofs [abin_lss, h, aun, wrap_ok (-n) (by omega) (by omega)]
  · simp -implicitDefEqProofs [abin_lss, h]
theorem truth59 (t : Bool) : evCall Try.prog C (d + 1) lim 59 [vb t] H = some (vw (if t then 1 else 0), H) := by
  rw [evCall_pureEq (fi := fi59) rfl rfl (b59 _ _ _ _)]
  unfold s59
  cases t <;> simp -implicitDefEqProofs
theorem truth51 (t : Bool) : evCall Try.prog C (d + 1) lim 51 [vb t] H = some (vw (if t then 1 else 0), H) := by
  rw [evCall_pureEq (fi := fi51) rfl rfl (b51 _ _ _ _)]
  unfold s51
  cases t <;> simp -implicitDefEqProofs
theorem truth30 (t : Bool) : evCall Try.prog C (d + 1) lim 30 [vb t] H = some (vw (if t then 1 else 0), H) := by
  rw [evCall_pureEq (fi := fi30) rfl rfl (b30 _ _ _ _)]
  unfold s30
  cases t <;> simp -implicitDefEqProofs
theorem add23 : evCall Try.prog C (d + 1) lim 23 [vw a, vw b] H = some (vw ((a + b) % 4294967296), H) := by
  rw [evCall_pureEq (fi := fi23) rfl rfl (b23 _ _ _ _ _)]
  unfold s23
  simp -implicitDefEqProofs [abin_add, wrap_u]
theorem sub24 : evCall Try.prog C (d + 1) lim 24 [vw a, vw b] H = some (vw ((a - b) % 4294967296), H) := by
  rw [evCall_pureEq (fi := fi24) rfl rfl (b24 _ _ _ _ _)]
  unfold s24
  simp -implicitDefEqProofs [abin_sub, wrap_u]
theorem mul25 : evCall Try.prog C (d + 1) lim 25 [vw a, vw b] H = some (vw ((a * b) % 4294967296), H) := by
  rw [evCall_pureEq (fi := fi25) rfl rfl (b25 _ _ _ _ _)]
  unfold s25
  simp -implicitDefEqProofs [abin_mul, wrap_u]
theorem add54 (ha : W a) (hb : W b) : evCall Try.prog C (d + 2) lim 54 [vw a, vw b] H = some (vw ((a + b) % 4294967296), H) := by
  obtain ⟨h0, h1⟩ := ha
  obtain ⟨h2, h3⟩ := hb
  rw [evCall_pureEq (fi := fi54) rfl rfl (b54 _ _ _ _ _)]
  unfold s54
  have hc := fun H => cut_ok (d := d) (lim := 1) (H := H) (n := a + b)
  have w1 := wrap_ok a (by omega) (by omega)
  have w2 := wrap_ok b (by omega) (by omega)
  have w3 := wrap_ok (a + b) (by omega) (by omega)
  simp -implicitDefEqProofs [abin_add, w1, w2, w3, hc]
theorem sub55 (ha : W a) (hb : W b) : evCall Try.prog C (d + 2) lim 55 [vw a, vw b] H = some (vw ((a - b) % 4294967296), H) := by
  obtain ⟨h0, h1⟩ := ha
  obtain ⟨h2, h3⟩ := hb
  rw [evCall_pureEq (fi := fi55) rfl rfl (b55 _ _ _ _ _)]
  unfold s55
  have hc := fun H => cut_ok (d := d) (lim := 1) (H := H) (n := a - b)
  have w1 := wrap_ok a (by omega) (by omega)
  have w2 := wrap_ok b (by omega) (by omega)
  have w3 := wrap_ok (a - b) (by omega) (by omega)
  simp -implicitDefEqProofs [abin_sub, w1, w2, w3, hc]
theorem less31 (ha : W a) (hb : W b) : evCall Try.prog C (d + 2) lim 31 [vw a, vw b] H = some (vw (if sg a < sg b then 1 else 0), H) := by
  rw [evCall_pureEq (fi := fi31) rfl rfl (b31 _ _ _ _ _)]
  unfold s31
  have hc := fun H => truth51 (d := d) (lim := 1) (H := H) (decide (sg a < sg b))
  have w1 := sg_wrap ha
  have w2 := sg_wrap hb
  simp -implicitDefEqProofs [abin_lss, w1, w2, hc]
end
end Go.Ev.Try

/- Words: quotients, remainders, shifts, products. -/
set_option maxRecDepth 100000
namespace Go.Ev.Try
open Go Go.Ev Go.Proofs

theorem sg_zero {n : Int} (h : W n) : sg n = 0 ↔ n = 0 := by
  obtain ⟨h0, h1⟩ := h
  unfold sg
  split <;> omega
/-- A quotient and a remainder of signed numbers. -/
def divW (a b : Int) : Int := if b = 0 then 4294967295 else ((sg a).tdiv (sg b)) % 4294967296
def remW (a b : Int) : Int := if b = 0 then a else ((sg a).tmod (sg b)) % 4294967296

theorem and31 {b : Int} (h : W b) : (IntKind.u32.wrap (BitVec.ofInt 32 b &&& BitVec.ofInt 32 31).toNat) = b % 32 := by
  obtain ⟨h0, h1⟩ := h
  obtain ⟨n, rfl⟩ : ∃ n : Nat, b = n := ⟨b.toNat, by omega⟩
  rw [wrap_u, BitVec.toNat_and]
  have e1 : (BitVec.ofInt 32 (n : Int)).toNat = n := by simp; omega
  have e2 : (BitVec.ofInt 32 31).toNat = 2 ^ 5 - 1 := rfl
  rw [e1, e2, Nat.and_two_pow_sub_one_eq_mod]
  omega
theorem abin_and31 {b : Int} (h : W b) (t : TypeId) : abin Try.prog .and t (vw b) (vw 31) = some (vw (b % 32)) := by
  rw [abin_int _ _ _ _ _ _ (by simp)]
  simp only [intOp, Option.map_some]
  rw [show IntKind.u32.bits = 32 from rfl, and31 h]
theorem shl_ok {a e : Int} (h0 : 0 ≤ e) (h1 : e < 32) (t : TypeId) : abin Try.prog .shl t (vw a) (vw e) = some (vw ((a * 2 ^ e.toNat) % 4294967296)) := by
  have hm : min e.toNat IntKind.u32.bits = e.toNat := Nat.min_eq_left (by show e.toNat ≤ 32; omega)
  have hn : decide (e < 0) = false := by simpa using h0
  simp only [abin, shOp, hn, cond_false, Option.map_some, hm, wrap_u]
theorem shr_ok {x e : Int} (h0 : 0 ≤ e) (h1 : e < 32) (t : TypeId) : abin Try.prog .shr t (.d (.int .i32 x)) (vw e) = some (.d (.int .i32 (x.fdiv (2 ^ e.toNat)))) := by
  have hm : min e.toNat IntKind.i32.bits = e.toNat := Nat.min_eq_left (by show e.toNat ≤ 32; omega)
  have hn : decide (e < 0) = false := by simpa using h0
  simp only [abin, shOp, hn, cond_false, Option.map_some, hm]

section
variable {d lim : Nat} {H : Heap} {a b : Int}
theorem div26 (ha : W a) (hb : W b) : evCall Try.prog C (d + 3) lim 26 [vw a, vw b] H = some (vw (divW a b), H) := by
  rw [evCall_pureEq (fi := fi26) rfl rfl (b26 _ _ _ _ _)]
  unfold s26 divW
  by_cases h : b = 0
  · simp -implicitDefEqProofs [abin_eql, h]
  · have hz := sg_zero hb
    have l1 := sg_lo ha
    have l2 := sg_lo hb
    have bd := tdiv_bound l1.1 l1.2 (y := sg b) (by omega)
    have e49 : ∀ H, evCall Try.prog C (d + 1) 1 49 [vi (sg a), vi (sg b)] H = some (vi ((sg a).tdiv (sg b)), H) := fun H => by
      rw [evCall_pureEq (fi := fi49) rfl rfl (b49 _ _ _ _ _)]
      unfold s49
      have e := abin_quo Try.prog 2 .i64 (sg a) (sg b) (by omega)
      have w := wrap_ok ((sg a).tdiv (sg b)) (by omega) (by omega)
      simp -implicitDefEqProofs [e, w]
    have e48 : ∀ H, evCall Try.prog C (d + 2) 1 48 [vw a, vw b, .fn 49 []] H = some (vi ((sg a).tdiv (sg b)), H) := fun H => by
      rw [evCall_pureEq (fi := fi48) rfl rfl (b48 _ _ _ _ _ _)]
      unfold s48
      have w1 := sg_wrap ha
      have w2 := sg_wrap hb
      have w3 := wrap_ok (sg a) (by omega) (by omega)
      have w4 := wrap_ok (sg b) (by omega) (by omega)
      simp -implicitDefEqProofs [w1, w2, w3, w4, e49]
    simp -implicitDefEqProofs [abin_eql, h, e48, wrap_u]
theorem rem27 (ha : W a) (hb : W b) : evCall Try.prog C (d + 3) lim 27 [vw a, vw b] H = some (vw (remW a b), H) := by
  rw [evCall_pureEq (fi := fi27) rfl rfl (b27 _ _ _ _ _)]
  unfold s27 remW
  by_cases h : b = 0
  · simp -implicitDefEqProofs [abin_eql, h]
  · have hz := sg_zero hb
    have l1 := sg_lo ha
    have l2 := sg_lo hb
    have e50 : ∀ H, evCall Try.prog C (d + 1) 1 50 [vi (sg a), vi (sg b)] H = some (vi ((sg a).tmod (sg b)), H) := fun H => by
      rw [evCall_pureEq (fi := fi50) rfl rfl (b50 _ _ _ _ _)]
      unfold s50
      have e := abin_rem Try.prog 2 .i64 (sg a) (sg b) (by omega)
      simp -implicitDefEqProofs [e]
    have e48 : ∀ H, evCall Try.prog C (d + 2) 1 48 [vw a, vw b, .fn 50 []] H = some (vi ((sg a).tmod (sg b)), H) := fun H => by
      rw [evCall_pureEq (fi := fi48) rfl rfl (b48 _ _ _ _ _ _)]
      unfold s48
      have w1 := sg_wrap ha
      have w2 := sg_wrap hb
      have w3 := wrap_ok (sg a) (by omega) (by omega)
      have w4 := wrap_ok (sg b) (by omega) (by omega)
      simp -implicitDefEqProofs [w1, w2, w3, w4, e50]
    simp -implicitDefEqProofs [abin_eql, h, e48, wrap_u]
theorem div32 (ha : W a) (hb : W b) : evCall Try.prog C (d + 2) lim 32 [vw a, vw b] H = some (vw (divW a b), H) := by
  rw [evCall_pureEq (fi := fi32) rfl rfl (b32 _ _ _ _ _)]
  unfold s32 divW
  have hz := sg_zero hb
  have s1 := fun H => signed_ok (d := d) (lim := 1) (H := H) ha
  have s2 := fun H => signed_ok (d := d) (lim := 1) (H := H) hb
  have l1 := sg_lo ha
  have l2 := sg_lo hb
  by_cases h : b = 0
  · have hs : sg b = 0 := hz.2 h
    rw [if_pos h]
    simp -implicitDefEqProofs [s1, s2, abin_eql, hs]
  · have hs : sg b ≠ 0 := fun e => h (hz.1 e)
    have a1 := fun H => abs_ok (d := d) (lim := 1) (H := H) (n := sg a) (by omega) (by omega)
    have a2 := fun H => abs_ok (d := d) (lim := 1) (H := H) (n := sg b) (by omega) (by omega)
    have hab : ab (sg b) ≠ 0 := by unfold ab; split <;> omega
    have hA : -2147483648 ≤ ab (sg a) ∧ ab (sg a) ≤ 2147483648 := by unfold ab; split <;> omega
    have hq : -2147483648 ≤ (ab (sg a)).tdiv (ab (sg b)) ∧ (ab (sg a)).tdiv (ab (sg b)) ≤ 2147483648 := by
      have h1 := Int.natAbs_tdiv (ab (sg a)) (ab (sg b))
      have h2 := Nat.div_le_self (ab (sg a)).natAbs (ab (sg b)).natAbs
      rw [show (ab (sg a)).natAbs / (ab (sg b)).natAbs = ((ab (sg a)).tdiv (ab (sg b))).natAbs from h1.symm] at h2
      omega
    have e := abin_quo Try.prog 3 .i64 (ab (sg a)) (ab (sg b)) hab
    have key := ab_tdiv (sg a) (sg b)
    generalize (ab (sg a)).tdiv (ab (sg b)) = q at hq e key
    generalize (sg a).tdiv (sg b) = z at key
    have w := wrap_ok q (by omega) (by omega)
    have wn := wrap_ok (-q) (by omega) (by omega)
    have c1 := fun H => cut_ok (d := d) (lim := 1) (H := H) (n := q)
    have c2 := fun H => cut_ok (d := d) (lim := 1) (H := H) (n := -q)
    by_cases x0 : sg a < 0
    · by_cases y0 : 0 < sg b
      · rw [if_pos (.inl ⟨x0, y0⟩)] at key
        subst key
        simp -implicitDefEqProofs [s1, s2, abin_eql, h, hs, a1, a2, e, w, abin_lss, abin_gtr, x0, y0, aun, wn, c2]
      · rw [if_neg (by omega)] at key
        subst key
        simp -implicitDefEqProofs [s1, s2, abin_eql, h, hs, a1, a2, e, w, abin_lss, abin_gtr, x0, y0, show ¬ 0 < sg a by omega, c1]
    · by_cases xp : 0 < sg a
      · by_cases y0 : sg b < 0
        · rw [if_pos (.inr ⟨xp, y0⟩)] at key
          subst key
          simp -implicitDefEqProofs [s1, s2, abin_eql, h, hs, a1, a2, e, w, abin_lss, abin_gtr, x0, y0, xp, aun, wn, c2]
        · rw [if_neg (by omega)] at key
          subst key
          simp -implicitDefEqProofs [s1, s2, abin_eql, h, hs, a1, a2, e, w, abin_lss, abin_gtr, x0, y0, xp, c1]
      · rw [if_neg (by omega)] at key
        subst key
        simp -implicitDefEqProofs [s1, s2, abin_eql, h, hs, a1, a2, e, w, abin_lss, abin_gtr, x0, xp, c1]
theorem rem33 (ha : W a) (hb : W b) : evCall Try.prog C (d + 2) lim 33 [vw a, vw b] H = some (vw (remW a b), H) := by
  rw [evCall_pureEq (fi := fi33) rfl rfl (b33 _ _ _ _ _)]
  unfold s33 remW
  have hz := sg_zero hb
  have s1 := fun H => signed_ok (d := d) (lim := 1) (H := H) ha
  have s2 := fun H => signed_ok (d := d) (lim := 1) (H := H) hb
  have l1 := sg_lo ha
  have l2 := sg_lo hb
  by_cases h : b = 0
  · have hs : sg b = 0 := hz.2 h
    rw [if_pos h]
    simp -implicitDefEqProofs [s1, s2, abin_eql, hs]
  · have hs : sg b ≠ 0 := fun e => h (hz.1 e)
    have a1 := fun H => abs_ok (d := d) (lim := 1) (H := H) (n := sg a) (by omega) (by omega)
    have a2 := fun H => abs_ok (d := d) (lim := 1) (H := H) (n := sg b) (by omega) (by omega)
    have hab : ab (sg b) ≠ 0 := by unfold ab; split <;> omega
    have hA : -2147483648 ≤ ab (sg a) ∧ ab (sg a) ≤ 2147483648 := by unfold ab; split <;> omega
    have hq : -2147483648 ≤ (ab (sg a)).tmod (ab (sg b)) ∧ (ab (sg a)).tmod (ab (sg b)) ≤ 2147483648 := by
      have h1 := Int.natAbs_tmod (ab (sg a)) (ab (sg b))
      have h2 := Nat.mod_le (ab (sg a)).natAbs (ab (sg b)).natAbs
      rw [show (ab (sg a)).natAbs % (ab (sg b)).natAbs = ((ab (sg a)).tmod (ab (sg b))).natAbs from h1.symm] at h2
      omega
    have e := abin_rem Try.prog 3 .i64 (ab (sg a)) (ab (sg b)) hab
    have key := ab_tmod (sg a) (sg b)
    generalize (ab (sg a)).tmod (ab (sg b)) = q at hq e key
    generalize (sg a).tmod (sg b) = z at key
    have wn := wrap_ok (-q) (by omega) (by omega)
    have c1 := fun H => cut_ok (d := d) (lim := 1) (H := H) (n := q)
    have c2 := fun H => cut_ok (d := d) (lim := 1) (H := H) (n := -q)
    by_cases x0 : sg a < 0
    · rw [if_pos x0] at key
      subst key
      simp -implicitDefEqProofs [s1, s2, abin_eql, h, hs, a1, a2, e, abin_lss, x0, aun, wn, c2]
    · rw [if_neg x0] at key
      subst key
      simp -implicitDefEqProofs [s1, s2, abin_eql, h, hs, a1, a2, e, abin_lss, x0, c1]
end
end Go.Ev.Try

/- Words: shifts and products. -/
set_option maxRecDepth 100000
namespace Go.Ev.Try
open Go Go.Ev Go.Proofs

theorem pow_le31 {k : Nat} (h : k ≤ 31) : (1 : Int) ≤ 2 ^ k ∧ (2 : Int) ^ k ≤ 2147483648 := by
  have : ∀ k : Fin 32, (1 : Int) ≤ 2 ^ k.1 ∧ (2 : Int) ^ k.1 ≤ 2147483648 := by decide
  exact this ⟨k, by omega⟩
/-- A shift to the left. -/
def leftW (a b : Int) : Int := (a * 2 ^ (b % 32).toNat) % 4294967296
def rightW (a b : Int) : Int := ((sg a).fdiv (2 ^ (b % 32).toNat)) % 4294967296

section
variable {d lim : Nat} {H : Heap} {a b : Int}
theorem left28 (hb : W b) : evCall Try.prog C (d + 1) lim 28 [vw a, vw b] H = some (vw (leftW a b), H) := by
  rw [evCall_pureEq (fi := fi28) rfl rfl (b28 _ _ _ _ _)]
  unfold s28 leftW
  have e1 := abin_and31 hb 31
  have e2 := shl_ok (a := a) (e := b % 32) (by omega) (by omega) 31
  simp -implicitDefEqProofs [e1, e2]
theorem right29 (ha : W a) (hb : W b) : evCall Try.prog C (d + 1) lim 29 [vw a, vw b] H = some (vw (rightW a b), H) := by
  rw [evCall_pureEq (fi := fi29) rfl rfl (b29 _ _ _ _ _)]
  unfold s29 rightW
  have e1 := abin_and31 hb 31
  have w := sg_wrap ha
  have e2 := shr_ok (x := sg a) (e := b % 32) (by omega) (by omega) 21
  simp -implicitDefEqProofs [e1, e2, w, wrap_u]

theorem power_loop (hb : W b) (m k : Nat) (h : (b % 32).toNat < k + m) (hk : k ≤ (b % 32).toNat) (q : Nat) : iterN (m + q) (s71.l0 (evCall Try.prog C d 1) 1) [vw b, vi (2 ^ k), vi k] H = some (.exit 0, [vi (2 ^ (b % 32).toNat)], H) := by
  obtain ⟨h0, h1⟩ := hb
  induction m generalizing k with
  | zero => omega
  | succ m ih =>
    have e1 := abin_rem Try.prog 31 .u32 b 32 (by decide)
    have e2 : b.tmod 32 = b % 32 := Int.tmod_eq_emod_of_nonneg h0
    have w := wrap_ok (b % 32) (by omega) (by omega)
    have hp := pow_le31 (k := k) (by omega)
    rw [show m + 1 + q = (m + q) + 1 by omega]
    by_cases hlt : (k : Int) < b % 32
    · have hgo : s71.l0 (evCall Try.prog C d 1) 1 [vw b, vi (2 ^ k), vi k] H = some (.normal, [vw b, vi (2 ^ (k + 1)), vi ((k + 1 : Nat) : Int)], H) := by
        unfold s71.l0
        have w1 := wrap_ok (2 * 2 ^ k) (by omega) (by omega)
        have w2 := wrap_ok ((k : Int) + 1) (by omega) (by omega)
        have w3 : (2 : Int) ^ (k + 1) = 2 * 2 ^ k := by rw [Int.pow_succ, Int.mul_comm]
        simp -implicitDefEqProofs [e1, e2, w, abin_lss, hlt, abin_mul, w1, abin_add, w2, w3]
      rw [iterN_go hgo]
      exact ih (k + 1) (by omega) (by omega)
    · have hk' : k = (b % 32).toNat := by omega
      refine iterN_exit ?_
      unfold s71.l0
      simp -implicitDefEqProofs [e1, e2, w, abin_lss, hlt, ← hk']
theorem power71 (hb : W b) : evCall Try.prog C (d + 1) lim 71 [vw b] H = some (vi (2 ^ (b % 32).toNat), H) := by
  rw [evCall_pureEq (fi := fi71) rfl rfl (b71 _ _ _ _)]
  unfold s71
  have hl := power_loop (d := d) (H := [] :: H) hb 40 0 (by have := hb.1; omega) (by omega) (LB - 40)
  rw [show 40 + (LB - 40) = LB by unfold LB; omega] at hl
  simp only [Int.pow_zero, Int.natCast_zero] at hl
  unfold lp
  simp -implicitDefEqProofs [hl, bnd_eq]

theorem left57 (ha : W a) (hb : W b) : evCall Try.prog C (d + 2) lim 57 [vw a, vw b] H = some (vw (leftW a b), H) := by
  rw [evCall_pureEq (fi := fi57) rfl rfl (b57 _ _ _ _ _)]
  unfold s57 leftW
  have ep := fun H => power71 (d := d) (lim := 1) (H := H) hb
  have hp := pow_le31 (k := (b % 32).toNat) (by omega)
  obtain ⟨h0, h1⟩ := ha
  have w := wrap_ok a (by omega) (by omega)
  have hd : ∃ c : Int, 4294967296 = 2 ^ (b % 32).toNat * c ∧ 2 ≤ c := by
    refine ⟨2 ^ (32 - (b % 32).toNat), ?_, ?_⟩
    · rw [← Int.pow_add, show (b % 32).toNat + (32 - (b % 32).toNat) = 32 by omega]
      rfl
    · have : ∀ k : Fin 32, (2 : Int) ≤ 2 ^ (32 - k.1) := by decide
      exact this ⟨(b % 32).toNat, by omega⟩
  generalize (2 : Int) ^ (b % 32).toNat = p at *
  obtain ⟨c, hc, hc2⟩ := hd
  have e1 := abin_quo Try.prog 3 .i64 4294967296 p (by omega)
  have e2 : Int.tdiv 4294967296 p = c := by rw [hc, Int.mul_tdiv_cancel_left _ (by omega)]
  have hcl : c ≤ 4294967296 := by
    have := Int.mul_le_mul_of_nonneg_right hp.1 (show 0 ≤ c by omega)
    omega
  have w1 := wrap_ok c (by omega) (by omega)
  have e3 := abin_rem Try.prog 3 .i64 a c (by omega)
  have e4 : a.tmod c = a % c := Int.tmod_eq_emod_of_nonneg h0
  have key : a % c * p = (a * p) % 4294967296 := by
    rw [hc, Int.mul_comm a p, Int.mul_emod_mul_of_pos _ _ (by omega), Int.mul_comm]
  have w2 := wrap_ok ((a * p) % 4294967296) (by omega) (by omega)
  have ec := fun H => cut_ok (d := d) (lim := 1) (H := H) (n := (a * p) % 4294967296)
  rw [e2] at e1
  rw [e4] at e3
  simp -implicitDefEqProofs [ep, e1, w, w1, e3, abin_mul, key, w2, ec]
theorem right58 (ha : W a) (hb : W b) : evCall Try.prog C (d + 2) lim 58 [vw a, vw b] H = some (vw (rightW a b), H) := by
  rw [evCall_pureEq (fi := fi58) rfl rfl (b58 _ _ _ _ _)]
  unfold s58 rightW
  have ep := fun H => power71 (d := d) (lim := 1) (H := H) hb
  have hp := pow_le31 (k := (b % 32).toNat) (by omega)
  have s1 := fun H => signed_ok (d := d) (lim := 1) (H := H) ha
  have l1 := sg_lo ha
  generalize (2 : Int) ^ (b % 32).toNat = p at *
  generalize sg a = x at *
  have e1 := abin_quo Try.prog 3 .i64 x p (by omega)
  have bd := tdiv_bound l1.1 l1.2 (y := p) (by omega)
  have bm := tmod_bound l1.1 l1.2 (y := p)
  have hm := Int.mul_tdiv_add_tmod x p
  have hcm : x.tdiv p * p = p * x.tdiv p := Int.mul_comm _ _
  have hf : x.fdiv p = x / p := Int.fdiv_eq_ediv_of_nonneg _ (by omega)
  have hx : x / p = if x < 0 ∧ p * x.tdiv p ≠ x then x.tdiv p - 1 else x.tdiv p := by
    by_cases h : x < 0
    · by_cases h2 : p * x.tdiv p = x
      · rw [if_neg (by simp [h2])]
        conv => lhs; rw [← h2]
        rw [Int.mul_ediv_cancel_left _ (by omega)]
      · rw [if_pos ⟨h, h2⟩]
        have hn : x.tmod p ≠ 0 := fun e => h2 (by omega)
        have hneg : x.tmod p < 0 := by
          have : x.tmod p = -((-x).tmod p) := by rw [Int.neg_tmod, Int.neg_neg]
          have h3 : 0 ≤ (-x).tmod p := Int.tmod_nonneg _ (by omega)
          omega
        have hlow : -p < x.tmod p := by
          have : x.tmod p = -((-x).tmod p) := by rw [Int.neg_tmod, Int.neg_neg]
          have h3 : (-x).tmod p < p := Int.tmod_lt_of_pos _ (by omega)
          omega
        refine (Int.ediv_eq_iff_of_pos (by omega)).2 ⟨?_, ?_⟩
        · rw [Int.sub_mul, hcm]; omega
        · rw [Int.sub_mul, hcm]; omega
    · rw [if_neg (by simp [h]), Int.tdiv_eq_ediv_of_nonneg (by omega)]
  rw [hf, hx]
  generalize x.tdiv p = q at *
  have w1 := wrap_ok q (by omega) (by omega)
  have w2 := wrap_ok (q - 1) (by omega) (by omega)
  have w3 := wrap_ok (p * q) (by omega) (by omega)
  have c1 := fun H => cut_ok (d := d) (lim := 1) (H := H) (n := q)
  have c2 := fun H => cut_ok (d := d) (lim := 1) (H := H) (n := q - 1)
  by_cases h : x < 0
  · by_cases h2 : p * q = x
    · rw [if_neg (by simp [h2])]
      rw [h2] at hcm w3
      simp -implicitDefEqProofs [ep, s1, e1, w1, abin_lss, h, abin_mul, hcm, w3, abin_neq, c1]
    · rw [if_pos ⟨h, h2⟩]
      simp -implicitDefEqProofs [ep, s1, e1, w1, abin_lss, h, abin_mul, hcm, w3, abin_neq, h2, c2, abin_sub, w2]
  · rw [if_neg (by simp [h])]
    simp -implicitDefEqProofs [ep, s1, e1, w1, abin_lss, h, c1]
end
end Go.Ev.Try

/- Functions of words: both sides answer alike. -/
set_option maxRecDepth 100000
namespace Go.Ev.Try
open Go Go.Ev Go.Proofs

theorem halves (al ah bl bh : Int) : (al + 65536 * ah) * (bl + 65536 * bh) = al * bl + 65536 * (ah * bl + al * bh) + 4294967296 * (ah * bh) := by
  rw [Int.add_mul, Int.mul_add, Int.mul_add, Int.mul_add, Int.mul_assoc, Int.mul_assoc, Int.mul_left_comm al 65536, Int.mul_left_comm ah 65536]
  omega
theorem prod_le {x y : Int} (h0 : 0 ≤ x) (h1 : x ≤ 65535) (h2 : 0 ≤ y) (h3 : y ≤ 65535) : 0 ≤ x * y ∧ x * y ≤ 4294836225 := by
  refine ⟨Int.mul_nonneg h0 h2, ?_⟩
  have a := Int.mul_le_mul_of_nonneg_right h1 h2
  have b := Int.mul_le_mul_of_nonneg_left h3 (show (0 : Int) ≤ 65535 by decide)
  omega
/-- The upper word of the product by halves. -/
def highW (a b : Int) : Int :=
  ((a / 65536) * (b / 65536) + ((a / 65536) * (b % 65536) + ((a % 65536) * (b % 65536)) / 65536) / 65536 + ((a % 65536) * (b / 65536) + ((a / 65536) * (b % 65536) + ((a % 65536) * (b % 65536)) / 65536) % 65536) / 65536) % 4294967296

section
variable {d lim : Nat} {H : Heap} {a b : Int}
theorem half70 (ha : W a) (hb : W b) : evCall Try.prog C (d + 1) lim 70 [vw a, vw b] H = some (.tup [vw (highW a b), vw ((a * b) % 4294967296)], H) := by
  rw [evCall_pureEq (fi := fi70) rfl rfl (b70 _ _ _ _ _)]
  unfold s70 highW
  obtain ⟨h0, h1⟩ := ha
  obtain ⟨h2, h3⟩ := hb
  have wa := wrap_ok a (by omega) (by omega)
  have wb := wrap_ok b (by omega) (by omega)
  have r1 := abin_rem Try.prog 3 .i64 a 65536 (by decide)
  have r2 := abin_rem Try.prog 3 .i64 b 65536 (by decide)
  have q1 := abin_quo Try.prog 3 .i64 a 65536 (by decide)
  have q2 := abin_quo Try.prog 3 .i64 b 65536 (by decide)
  rw [Int.tmod_eq_emod_of_nonneg h0] at r1
  rw [Int.tmod_eq_emod_of_nonneg h2] at r2
  rw [Int.tdiv_eq_ediv_of_nonneg h0, wrap_ok (a / 65536) (by omega) (by omega)] at q1
  rw [Int.tdiv_eq_ediv_of_nonneg h2, wrap_ok (b / 65536) (by omega) (by omega)] at q2
  have p1 := prod_le (x := a % 65536) (y := b % 65536) (by omega) (by omega) (by omega) (by omega)
  have p2 := prod_le (x := a / 65536) (y := b % 65536) (by omega) (by omega) (by omega) (by omega)
  have p3 := prod_le (x := a % 65536) (y := b / 65536) (by omega) (by omega) (by omega) (by omega)
  have p4 := prod_le (x := a / 65536) (y := b / 65536) (by omega) (by omega) (by omega) (by omega)
  have key := halves (a % 65536) (a / 65536) (b % 65536) (b / 65536)
  rw [show a % 65536 + 65536 * (a / 65536) = a by omega, show b % 65536 + 65536 * (b / 65536) = b by omega] at key
  rw [key]
  have m1 := abin_mul Try.prog 3 .i64 (a % 65536) (b % 65536)
  have m2 := abin_mul Try.prog 3 .i64 (a / 65536) (b % 65536)
  have m3 := abin_mul Try.prog 3 .i64 (a % 65536) (b / 65536)
  have m4 := abin_mul Try.prog 3 .i64 (a / 65536) (b / 65536)
  generalize (a % 65536) * (b % 65536) = P at *
  generalize (a / 65536) * (b % 65536) = Q at *
  generalize (a % 65536) * (b / 65536) = R at *
  generalize (a / 65536) * (b / 65536) = S at *
  rw [wrap_ok P (by omega) (by omega)] at m1
  rw [wrap_ok Q (by omega) (by omega)] at m2
  rw [wrap_ok R (by omega) (by omega)] at m3
  rw [wrap_ok S (by omega) (by omega)] at m4
  have q3 := abin_quo Try.prog 3 .i64 P 65536 (by decide)
  rw [Int.tdiv_eq_ediv_of_nonneg p1.1, wrap_ok (P / 65536) (by omega) (by omega)] at q3
  have a1 := abin_add Try.prog 3 .i64 Q (P / 65536)
  rw [wrap_ok (Q + P / 65536) (by omega) (by omega)] at a1
  have e0 : ∃ M, M = Q + P / 65536 := ⟨_, rfl⟩
  obtain ⟨M, hM⟩ := e0
  rw [← hM] at a1 ⊢
  have r3 := abin_rem Try.prog 3 .i64 M 65536 (by decide)
  rw [Int.tmod_eq_emod_of_nonneg (by omega)] at r3
  have a2 := abin_add Try.prog 3 .i64 R (M % 65536)
  rw [wrap_ok (R + M % 65536) (by omega) (by omega)] at a2
  have e0 : ∃ Z, Z = R + M % 65536 := ⟨_, rfl⟩
  obtain ⟨Z, hZ⟩ := e0
  rw [← hZ] at a2 ⊢
  have q4 := abin_quo Try.prog 3 .i64 M 65536 (by decide)
  rw [Int.tdiv_eq_ediv_of_nonneg (by omega), wrap_ok (M / 65536) (by omega) (by omega)] at q4
  have a3 := abin_add Try.prog 3 .i64 S (M / 65536)
  rw [wrap_ok (S + M / 65536) (by omega) (by omega)] at a3
  have q5 := abin_quo Try.prog 3 .i64 Z 65536 (by decide)
  rw [Int.tdiv_eq_ediv_of_nonneg (by omega), wrap_ok (Z / 65536) (by omega) (by omega)] at q5
  have a4 := abin_add Try.prog 3 .i64 (S + M / 65536) (Z / 65536)
  rw [wrap_ok (S + M / 65536 + Z / 65536) (by omega) (by omega)] at a4
  have r4 := abin_rem Try.prog 3 .i64 Z 65536 (by decide)
  rw [Int.tmod_eq_emod_of_nonneg (by omega)] at r4
  have m5 := abin_mul Try.prog 3 .i64 (Z % 65536) 65536
  rw [wrap_ok (Z % 65536 * 65536) (by omega) (by omega)] at m5
  have r5 := abin_rem Try.prog 3 .i64 P 65536 (by decide)
  rw [Int.tmod_eq_emod_of_nonneg (by omega)] at r5
  have a5 := abin_add Try.prog 3 .i64 (Z % 65536 * 65536) (P % 65536)
  rw [wrap_ok (Z % 65536 * 65536 + P % 65536) (by omega) (by omega)] at a5
  simp -implicitDefEqProofs [wa, wb, r1, r2, q1, q2, m1, m2, m3, m4, q3, a1, r3, a2, q4, a3, q5, a4, r4, m5, r5, a5, wrap_u, leave_tup, AV.leaveL]
  omega
theorem mul56 (ha : W a) (hb : W b) : evCall Try.prog C (d + 2) lim 56 [vw a, vw b] H = some (vw ((a * b) % 4294967296), H) := by
  rw [evCall_pureEq (fi := fi56) rfl rfl (b56 _ _ _ _ _)]
  unfold s56
  have e := fun H => half70 (d := d) (lim := 1) (H := H) ha hb
  simp -implicitDefEqProofs [e, aextract]
end
end Go.Ev.Try

/- Functions of words: both sides answer alike. -/
set_option maxRecDepth 100000
namespace Go.Ev.Try
open Go Go.Ev Go.Proofs

def andW (a b : Int) : Int := IntKind.u32.wrap (BitVec.ofInt IntKind.u32.bits a &&& BitVec.ofInt IntKind.u32.bits b).toNat
def orW (a b : Int) : Int := IntKind.u32.wrap (BitVec.ofInt IntKind.u32.bits a ||| BitVec.ofInt IntKind.u32.bits b).toNat
def xorW (a b : Int) : Int := IntKind.u32.wrap (BitVec.ofInt IntKind.u32.bits a ^^^ BitVec.ofInt IntKind.u32.bits b).toNat
theorem abin_and (a b : Int) (t : TypeId) : abin Try.prog .and t (vw a) (vw b) = some (vw (andW a b)) := by
  rw [abin_int _ _ _ _ _ _ (by simp)]
  rfl
theorem abin_or (a b : Int) (t : TypeId) : abin Try.prog .or t (vw a) (vw b) = some (vw (orW a b)) := by
  rw [abin_int _ _ _ _ _ _ (by simp)]
  rfl
theorem abin_xor (a b : Int) (t : TypeId) : abin Try.prog .xor t (vw a) (vw b) = some (vw (xorW a b)) := by
  rw [abin_int _ _ _ _ _ _ (by simp)]
  rfl
theorem aun_xor {a : Int} (h : W a) : aun .xor (vw a) = some (vw ((4294967295 - a) % 4294967296)) := by
  obtain ⟨h0, h1⟩ := h
  obtain ⟨n, rfl⟩ : ∃ n : Nat, a = n := ⟨a.toNat, by omega⟩
  show some (vw (IntKind.u32.wrap (BitVec.ofInt 32 4294967295 ^^^ BitVec.ofInt 32 (n : Int)).toNat)) = _
  have e1 : BitVec.ofInt 32 4294967295 = BitVec.allOnes 32 := rfl
  have e2 : (BitVec.ofInt 32 (n : Int)).toNat = n := by simp; omega
  rw [e1, BitVec.allOnes_xor, BitVec.toNat_not, e2, wrap_u]
  congr 4
  omega
theorem sg_inj {a b : Int} (ha : W a) (hb : W b) : sg a = sg b ↔ a = b := by
  obtain ⟨h0, h1⟩ := ha
  obtain ⟨h2, h3⟩ := hb
  unfold sg
  constructor
  · intro h
    split at h <;> split at h <;> omega
  · rintro rfl; rfl

def tr (t : Bool) : Int := if t then 1 else 0
/-- The document's list. -/
def applyL (a b : Int) : List Int := [0, (a + b) % 4294967296, (a - b) % 4294967296, (a * b) % 4294967296, divW a b, remW a b, andW a b, orW a b, xorW a b, leftW a b, rightW a b,
  tr (decide (sg a = sg b)), tr (!decide (sg a = sg b)), tr (decide (sg a < sg b)), tr (decide (sg b < sg a)), tr (decide (sg a ≤ sg b)), tr (decide (sg b ≤ sg a)), (-a) % 4294967296, (4294967295 - a) % 4294967296, tr (decide (a = 0))]
theorem bldS_20 (x1 x2 x3 x4 x5 x6 x7 x8 x9 x10 x11 x12 x13 x14 x15 x16 x17 x18 x19 : Int) (A : Arena) (H : Heap) :
    bldS 1 20 [vw 0] [(0, vw 0), (1, vw x1), (2, vw x2), (3, vw x3), (4, vw x4), (5, vw x5), (6, vw x6), (7, vw x7), (8, vw x8), (9, vw x9), (10, vw x10), (11, vw x11), (12, vw x12), (13, vw x13), (14, vw x14), (15, vw x15), (16, vw x16), (17, vw x17), (18, vw x18), (19, vw x19)] (A :: H) =
      some (.sl 0 A.length 0 20 1, (A ++ [some ([0, x1, x2, x3, x4, x5, x6, x7, x8, x9, x10, x11, x12, x13, x14, x15, x16, x17, x18, x19].map vw)]) :: H) := by kernel_rfl

section
variable {d lim : Nat} {H : Heap} {a b : Int}
theorem apply34 (ha : W a) (hb : W b) {fn : Int} (h4 : fn ≠ 4) (h5 : fn ≠ 5) : evCall Try.prog C (d + 3) lim 34 [vi fn, vw a, vw b] H =
    some (if fn < 1 ∨ 20 ≤ fn then .tup [vw 0, vi 1] else .tup [vw ((applyL a b).getD fn.toNat 0), vi 0], H) := by
  rw [evCall_pureEq (fi := fi34) rfl rfl (b34 _ _ _ _ _ _)]
  unfold s34
  have w0 : W 0 := ⟨by decide, by decide⟩
  have w9 : W 4294967295 := ⟨by decide, by decide⟩
  have s1 := fun H => signed_ok (d := d + 1) (lim := 1) (H := H) ha
  have s2 := fun H => signed_ok (d := d + 1) (lim := 1) (H := H) hb
  have e1 := fun H => add54 (d := d) (lim := 1) (H := H) ha hb
  have e2 := fun H => sub55 (d := d) (lim := 1) (H := H) ha hb
  have e3 := fun H => mul56 (d := d) (lim := 1) (H := H) ha hb
  have e4 := fun H => div32 (d := d) (lim := 1) (H := H) ha hb
  have e5 := fun H => rem33 (d := d) (lim := 1) (H := H) ha hb
  have e6 := fun H => left57 (d := d) (lim := 1) (H := H) ha hb
  have e7 := fun H => right58 (d := d) (lim := 1) (H := H) ha hb
  have e8 : ∀ H, evCall Try.prog C (d + 2) 1 55 [vw 0, vw a] H = some (vw ((-a) % 4294967296), H) := fun H => by rw [sub55 w0 ha, Int.zero_sub]
  have e9 := fun H => sub55 (d := d) (lim := 1) (H := H) w9 ha
  have ht : ∀ t H, evCall Try.prog C (d + 2) 1 59 [.d (.bool t)] H = some (vw (tr t), H) := fun t H => truth59 t
  have hx : decide (fn = 4) = false := by simpa using h4
  have hy : decide (fn = 5) = false := by simpa using h5
  have hB := bldS_20 ((a + b) % 4294967296) ((a - b) % 4294967296) ((a * b) % 4294967296) (divW a b) (remW a b) (andW a b) (orW a b) (xorW a b) (leftW a b) (rightW a b)
    (tr (decide (sg a = sg b))) (tr (!decide (sg a = sg b))) (tr (decide (sg a < sg b))) (tr (decide (sg b < sg a))) (tr (decide (sg a ≤ sg b))) (tr (decide (sg b ≤ sg a))) ((-a) % 4294967296) ((4294967295 - a) % 4294967296) (tr (decide (a = 0))) [] H
  have hld : ∀ n : Nat, n < 20 → ld ([some ((applyL a b).map vw)] :: H) (.ptr 0 0 n) = some (vw ((applyL a b).getD n 0)) := fun n hn => by
    have hL : (applyL a b)[n]? = some ((applyL a b).getD n 0) := by
      rw [List.getD_eq_getElem?_getD, List.getElem?_eq_getElem (show n < (applyL a b).length from hn)]
      rfl
    obtain ⟨v, hv⟩ : ∃ v, (applyL a b).getD n 0 = v := ⟨_, rfl⟩
    rw [hv] at hL ⊢
    simp -implicitDefEqProofs [ld, getB, hL]
  replace hB : _ = some (AV.sl 0 0 0 20 1, [some ((applyL a b).map vw)] :: H) := hB
  generalize (applyL a b).map vw = cs at hB hld
  generalize applyL a b = L at hld ⊢
  by_cases hlo : fn < 1
  · rw [if_pos (.inl hlo)]
    simp -implicitDefEqProofs (maxSteps := 2000000) [s1, s2, abin_eql, hx, hy, e1, e2, e3, e4, e5, e6, e7, e8, e9, abin_and, abin_or, abin_xor, abin_neq, abin_lss, abin_gtr, abin_leq, abin_geq, ht, hB, hlo, leave_tup, AV.leaveL]
  · by_cases hhi : 20 ≤ fn
    · rw [if_pos (.inr hhi)]
      simp -implicitDefEqProofs (maxSteps := 2000000) [s1, s2, abin_eql, hx, hy, e1, e2, e3, e4, e5, e6, e7, e8, e9, abin_and, abin_or, abin_xor, abin_neq, abin_lss, abin_gtr, abin_leq, abin_geq, ht, hB, hlo, hhi, leave_tup, AV.leaveL]
    · rw [if_neg (by omega)]
      obtain ⟨n, rfl⟩ : ∃ n : Nat, fn = n := ⟨fn.toNat, by omega⟩
      have hn : n < 20 := by omega
      have hix : ixS 1 (.sl 0 0 0 20 1) (vi (n : Int)) = some (.ptr 0 0 n) := by
        have : ((n : Int) < 20) := by omega
        simp [ixS, inB, asI, this]
      have hl := hld n hn
      simp -implicitDefEqProofs (maxSteps := 2000000) [s1, s2, abin_eql, hx, hy, e1, e2, e3, e4, e5, e6, e7, e8, e9, abin_and, abin_or, abin_xor, abin_neq, abin_lss, abin_gtr, abin_leq, abin_geq, ht, hB, hlo, hhi, hix, hl, leave_tup, AV.leaveL]
end
end Go.Ev.Try

/- IrrunFns. -/
set_option maxRecDepth 100000
namespace Go.Ev.Try
open Go Go.Ev Go.Proofs

theorem awake_d {d : Nat} {H : Heap} : evCall Try.prog C (d + 99) 1 8 [] H = some (vb true, H) := by kernel_rfl
theorem awake_ok {H : Heap} : evCall Try.prog C 99 1 8 [] H = some (vb true, H) := awake_d (d := 0)

section
variable {d lim : Nat} {H : Heap} {a b : Int}
/-- What both sides answer. -/
def fnW (fn a b : Int) : Int := if fn < 1 ∨ 20 ≤ fn then 0 else (applyL a b).getD fn.toNat 0
theorem fn13 (ha : W a) (hb : W b) {fn : Int} : evCall Try.prog C (d + 4) lim 13 [vi fn, vw a, vw b] H = some (vw (fnW fn a b), H) := by
  rw [evCall_pureEq (fi := fi13) rfl rfl (b13 _ _ _ _ _ _)]
  unfold s13 fnW
  have e4 := fun H => div32 (d := d + 1) (lim := 1) (H := H) ha hb
  have e5 := fun H => rem33 (d := d + 1) (lim := 1) (H := H) ha hb
  by_cases h4 : fn = 4
  · subst h4
    rw [if_neg (by decide)]
    simp -implicitDefEqProofs [abin_eql, e4]
    rfl
  by_cases h5 : fn = 5
  · subst h5
    rw [if_neg (by decide)]
    simp -implicitDefEqProofs [abin_eql, e5]
    rfl
  have e := fun H => apply34 (d := d) (lim := 1) (H := H) ha hb h4 h5
  have hx : decide (fn = 4) = false := by simpa using h4
  have hy : decide (fn = 5) = false := by simpa using h5
  by_cases hr : fn < 1 ∨ 20 ≤ fn
  · rw [if_pos hr]
    simp only [if_pos hr] at e
    simp -implicitDefEqProofs [abin_eql, hx, hy, e, aextract, abin_neq]
  · rw [if_neg hr]
    simp only [if_neg hr] at e
    generalize (applyL a b).getD fn.toNat 0 = v at e ⊢
    simp -implicitDefEqProofs [abin_eql, hx, hy, e, aextract, abin_neq]
theorem fn12 (ha : W a) (hb : W b) {fn : Int} : evCall Try.prog C (d + 4) lim 12 [vi fn, vw a, vw b] H = some (vw (fnW fn a b), H) := by
  rw [evCall_pureEq (fi := fi12) rfl rfl (b12 _ _ _ _ _ _)]
  unfold s12
  have e1 := fun H => add23 (d := d + 2) (lim := 1) (H := H) (a := a) (b := b)
  have e2 := fun H => sub24 (d := d + 2) (lim := 1) (H := H) (a := a) (b := b)
  have e3 := fun H => mul25 (d := d + 2) (lim := 1) (H := H) (a := a) (b := b)
  have e4 := fun H => div26 (d := d) (lim := 1) (H := H) ha hb
  have e5 := fun H => rem27 (d := d) (lim := 1) (H := H) ha hb
  have e9 := fun H => left28 (d := d + 2) (lim := 1) (H := H) (a := a) hb
  have e10 := fun H => right29 (d := d + 2) (lim := 1) (H := H) ha hb
  have e11 : ∀ t H, evCall Try.prog C (d + 3) 1 30 [.d (.bool t)] H = some (vw (tr t), H) := fun t H => truth30 t
  have e13 := fun H => less31 (d := d + 1) (lim := 1) (H := H) ha hb
  have e14 := fun H => less31 (d := d + 1) (lim := 1) (H := H) hb ha
  have e17 := fun H => sub24 (d := d + 2) (lim := 1) (H := H) (a := 0) (b := a)
  have e18 := aun_xor ha
  have hk : ∀ k : Int, fn = k ∨ decide (fn = k) = false := fun k => by
    by_cases h : fn = k
    · exact .inl h
    · exact .inr (by simpa using h)
  have hF : ∀ k : Nat, 1 ≤ k → k < 20 → fn = k → fnW fn a b = (applyL a b).getD k 0 := fun k h1 h2 h => by
    unfold fnW
    rw [if_neg (by omega), h]
    rfl
  rcases hk 1 with h | n1
  · rw [hF 1 (by decide) (by decide) h, h]; simp -implicitDefEqProofs [abin_eql, e1]; rfl
  rcases hk 2 with h | n2
  · rw [hF 2 (by decide) (by decide) h, h]; simp -implicitDefEqProofs [abin_eql, e2]; rfl
  rcases hk 3 with h | n3
  · rw [hF 3 (by decide) (by decide) h, h]; simp -implicitDefEqProofs [abin_eql, e3]; rfl
  rcases hk 4 with h | n4
  · rw [hF 4 (by decide) (by decide) h, h]; simp -implicitDefEqProofs [abin_eql, e4]; rfl
  rcases hk 5 with h | n5
  · rw [hF 5 (by decide) (by decide) h, h]; simp -implicitDefEqProofs [abin_eql, e5]; rfl
  rcases hk 6 with h | n6
  · rw [hF 6 (by decide) (by decide) h, h]; simp -implicitDefEqProofs [abin_eql, abin_and]; rfl
  rcases hk 7 with h | n7
  · rw [hF 7 (by decide) (by decide) h, h]; simp -implicitDefEqProofs [abin_eql, abin_or]; rfl
  rcases hk 8 with h | n8
  · rw [hF 8 (by decide) (by decide) h, h]; simp -implicitDefEqProofs [abin_eql, abin_xor]; rfl
  rcases hk 9 with h | n9
  · rw [hF 9 (by decide) (by decide) h, h]; simp -implicitDefEqProofs [abin_eql, e9]; rfl
  rcases hk 10 with h | n10
  · rw [hF 10 (by decide) (by decide) h, h]; simp -implicitDefEqProofs [abin_eql, e10]; rfl
  rcases hk 11 with h | n11
  · rw [hF 11 (by decide) (by decide) h, h]; simp -implicitDefEqProofs [abin_eql, e11]
    show tr (decide (a = b)) = tr (decide (sg a = sg b))
    simp [sg_inj ha hb]
  rcases hk 12 with h | n12
  · rw [hF 12 (by decide) (by decide) h, h]; simp -implicitDefEqProofs [abin_eql, abin_neq, e11]
    show tr (!decide (a = b)) = tr (!decide (sg a = sg b))
    simp [sg_inj ha hb]
  rcases hk 13 with h | n13
  · rw [hF 13 (by decide) (by decide) h, h]; simp -implicitDefEqProofs [abin_eql, e13]
    show (if sg a < sg b then 1 else 0) = tr (decide (sg a < sg b))
    simp [tr]
  rcases hk 14 with h | n14
  · rw [hF 14 (by decide) (by decide) h, h]; simp -implicitDefEqProofs [abin_eql, e14]
    show (if sg b < sg a then 1 else 0) = tr (decide (sg b < sg a))
    simp [tr]
  rcases hk 15 with h | n15
  · rw [hF 15 (by decide) (by decide) h, h]; simp -implicitDefEqProofs [abin_eql, e14, abin_sub, wrap_u]
    show (1 - (if sg b < sg a then 1 else 0)) % 4294967296 = tr (decide (sg a ≤ sg b))
    unfold tr
    by_cases hh : sg b < sg a
    · simp [hh, show ¬ sg a ≤ sg b by omega]
    · simp [hh, show sg a ≤ sg b by omega]
  rcases hk 16 with h | n16
  · rw [hF 16 (by decide) (by decide) h, h]; simp -implicitDefEqProofs [abin_eql, e13, abin_sub, wrap_u]
    show (1 - (if sg a < sg b then 1 else 0)) % 4294967296 = tr (decide (sg b ≤ sg a))
    unfold tr
    by_cases hh : sg a < sg b
    · simp [hh, show ¬ sg b ≤ sg a by omega]
    · simp [hh, show sg b ≤ sg a by omega]
  rcases hk 17 with h | n17
  · rw [hF 17 (by decide) (by decide) h, h]; rw [Int.zero_sub] at e17; simp -implicitDefEqProofs [abin_eql, e17]; rfl
  rcases hk 18 with h | n18
  · rw [hF 18 (by decide) (by decide) h, h]; simp -implicitDefEqProofs [abin_eql, e18]; rfl
  rcases hk 19 with h | n19
  · rw [hF 19 (by decide) (by decide) h, h]; simp -implicitDefEqProofs [abin_eql, e11]; rfl
  have hz : fnW fn a b = 0 := by
    unfold fnW
    simp only [decide_eq_false_iff_not] at *
    rw [if_pos (by omega)]
  rw [hz]
  simp -implicitDefEqProofs [abin_eql, n1, n2, n3, n4, n5, n6, n7, n8, n9, n10, n11, n12, n13, n14, n15, n16, n17, n18, n19]
end
theorem fns_ok {fn a b : Int} (ha : W a) (hb : W b) {H : Heap} : evCall Try.prog C 100 1 4 [vi fn, vw a, vw b] H = some (vb true, H) := by
  rw [evCall_pureEq (fi := fi4) rfl rfl (b4 _ _ _ _ _ _)]
  unfold s4
  have h0 := fun H => awake_ok (H := H)
  have h1 := fun H => fn12 (d := 95) (lim := 1) (H := H) ha hb (fn := fn)
  have h2 := fun H => fn13 (d := 95) (lim := 1) (H := H) ha hb (fn := fn)
  simp -implicitDefEqProofs [h0, h1, h2, abin_eql]
end Go.Ev.Try

/- IrrunFns: the walk. -/
set_option maxRecDepth 100000
namespace Go.Ev.Try
open Go Go.Ev Go.Proofs Go.RowKit
theorem u3 : Try.prog.underlying 3 = some (.int .i64) := by kernel_rfl
theorem u31 : Try.prog.underlying 31 = some (.int .u32) := by kernel_rfl
theorem follows : Try.prog.follows .mixedOrders = true := by kernel_rfl
theorem dok3 {f : Nat} {ds : List D} (h : DOk Try.prog (f + 1) 3 ds) : ∃ n, ds = [.int .i64 n] ∧ (Lit.int .i64 n).wf = true := by
  unfold DOk at h
  rw [u3] at h
  exact h
theorem dok31 {f : Nat} {ds : List D} (h : DOk Try.prog (f + 1) 31 ds) : ∃ n, ds = [.int .u32 n] ∧ W n := by
  unfold DOk at h
  rw [u31] at h
  obtain ⟨n, h1, h2⟩ := h
  refine ⟨n, h1, ?_⟩
  simp [Lit.wf, IntKind.min, IntKind.max, IntKind.signed, IntKind.bits] at h2
  exact ⟨h2.1, by omega⟩
theorem walkIrrunFns {d0 d1 d2 : D} {W : World} {v0 v1 v2 : Value} (h0 : DOk Try.prog 8 3 [d0]) (h1 : DOk Try.prog 8 31 [d1]) (h2 : DOk Try.prog 8 31 [d2]) (hv : VRs (IW W) G0 [.d d0, .d d1, .d d2] [v0, v1, v2]) :
    Calls Try.prog 4 #[v0, v1, v2] W (fun x W' => x = .returned (.bool true) ∧ Below W.heap.size W W') := by
  obtain ⟨n, h0, _⟩ := dok3 h0
  obtain ⟨a, h1, ha⟩ := dok31 h1
  obtain ⟨b, h2, hb⟩ := dok31 h2
  obtain rfl : d0 = .int .i64 n := by simpa using h0
  obtain rfl : d1 = .int .u32 a := by simpa using h1
  obtain rfl : d2 = .int .u32 b := by simpa using h2
  exact calls_true fitsC follows (fns_ok ha hb) hv
end Go.Ev.Try
