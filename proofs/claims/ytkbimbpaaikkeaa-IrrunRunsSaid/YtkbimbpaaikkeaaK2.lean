import Derived.Test.YtkbimbpaaikkeaaK1
set_option linter.unusedSimpArgs false
set_option linter.unusedVariables false
/- Slots, and where they lie. -/
set_option maxRecDepth 100000
namespace Go.Ev
/-- One element more; what was made after the slice stays. -/
theorem OutAt.appendB {k0 : Nat} {A : Arena} {H : Heap} {v : AV} {cells cs : List AV} {n s bytes lim : Nat} (h : OutAt k0 A v cells n s) (B : Arena) (h0 : k0 ≤ A.length) (hl : 0 < lim) (hc : cs.all AV.leaf = true) (hn : cs.length = s)
    (h1 : n + 1 ≤ 140737488355328) (h2 : (n + 1) * bytes ≤ 140737488355328) :
    ∃ v' A', app s bytes lim ((A ++ B ++ [some cs]) :: H) v (elS s ((A ++ B ++ [some cs]) :: H) (.sl 0 (A ++ B).length 0 1 s)) = some (v', A' :: H) ∧ OutAt k0 A' v' (cells ++ cs) (n + 1) s ∧ (A ++ B).length ≤ A'.length ∧
      ∀ j, A.length ≤ j → j < (A ++ B).length → A'[j]? = (A ++ B)[j]? := by
  have he : elS s ((A ++ B ++ [some cs]) :: H) (.sl 0 (A ++ B).length 0 1 s) = some (1, cs) := by
    rw [elS_here (c := cs) (by simp) (by omega)]
    simp [← hn]
  rw [he]
  have hlen : (A ++ B).length = A.length + B.length := List.length_append
  cases h with
  | nil =>
    refine ⟨_, _, app_nil (by decide) (by omega) (by omega) hc, .row (cells := cs) (by simp <;> omega) (by simp) (by omega), by simp <;> omega, fun j _ hj => ?_⟩
    rw [List.getElem?_append_left (by rw [List.length_append]; omega), List.getElem?_append_left hj]
  | row hb hA hlen' =>
    have hb' := (List.getElem?_eq_some_iff.1 hA).1
    refine ⟨_, _, app_sl (old := cells) hl (by rw [List.getElem?_append_left (by omega), List.getElem?_append_left hb', hA]; rfl) hlen' (by decide) h1 h2 hc, .row (by simp <;> omega) (by simp) (by simp [hlen', hn, Nat.add_mul]), by simp <;> omega, fun j hj1 hj => ?_⟩
    rw [List.getElem?_append_left (by rw [List.length_set, List.length_append]; omega), List.getElem?_set_ne (by omega), List.getElem?_append_left hj]
end Go.Ev
namespace Go.Ev.Try
open Go Go.Ev Go.Proofs

structure Slt where
  name : ByteArray
  size : Int
  align : Int
  cell : Int
def sD (s : Slt) : List D := [.str s.name, .int .i64 s.size, .int .i64 s.align, .int .i64 s.cell]
def up4 (n : Int) : Int := (n + 3) / 4 * 4
def sizeAt (L : List Slt) (k : Nat) : Int := ((L[k]?).map (·.size)).getD 0
def plAt (L : List Slt) : Nat → Int
  | 0 => 0
  | k + 1 => up4 (plAt L k + sizeAt L k)
def Small (L : List Slt) : Prop := L.length ≤ 40 ∧ ∀ s ∈ L, 0 ≤ s.size ∧ s.size ≤ 40000
theorem sizeAt_ok {L : List Slt} (h : ∀ s ∈ L, 0 ≤ s.size ∧ s.size ≤ 40000) (k : Nat) : 0 ≤ sizeAt L k ∧ sizeAt L k ≤ 40000 := by
  unfold sizeAt
  cases hk : L[k]? with
  | none => simp
  | some s => exact h s (List.mem_of_getElem? hk)
theorem plAt_ok {L : List Slt} (h : ∀ s ∈ L, 0 ≤ s.size ∧ s.size ≤ 40000) (k : Nat) : 0 ≤ plAt L k ∧ plAt L k ≤ 40004 * k := by
  induction k with
  | zero => simp [plAt]
  | succ k ih =>
    have := sizeAt_ok h k
    unfold plAt up4
    omega
/-- Where the first ones lie, as data. -/
def plD (L : List Slt) (k : Nat) : List D := (List.range k).map fun j => .int .i64 (plAt L j)
theorem plD_succ (L : List Slt) (k : Nat) : (plD L k).map AV.d ++ [vi (plAt L k)] = (plD L (k + 1)).map AV.d := by
  unfold plD
  rw [List.range_succ]
  simp
/-- The answer of both sides. -/
def plV (L : List Slt) : AV := if L.length = 0 then .d (.seq true 0 []) else .d (.seq false L.length (plD L L.length))

section
variable {d lim : Nat} {H : Heap}
theorem up35 {n : Int} (h0 : 0 ≤ n) (h1 : n < 1000000000) : evCall Try.prog C (d + 1) lim 35 [vi n] H = some (vi (up4 n), H) := by
  rw [evCall_pureEq (fi := fi35) rfl rfl (b35 _ _ _ _)]
  unfold s35 up4
  have w1 := wrap_ok (n + 4) (by omega) (by omega)
  have w2 := wrap_ok (n + 4 - 1) (by omega) (by omega)
  have q := abin_quo Try.prog 3 .i64 (n + 4 - 1) 4 (by decide)
  rw [Int.tdiv_eq_ediv_of_nonneg (by omega), wrap_ok _ (by omega) (by omega)] at q
  have w3 := wrap_ok ((n + 4 - 1) / 4 * 4) (by omega) (by omega)
  simp -implicitDefEqProofs [abin_add, w1, abin_sub, w2, q, abin_mul, w3]
  omega
theorem next_loop {call : ACall} {n : Int} (h0 : 0 ≤ n) (h1 : n ≤ 1000000000) (m : Nat) (hm : up4 n - n < m) (q : Nat) : iterN (m + q) (s36.l0 call lim) [vi n] H = some (.exit 0, [vi (up4 n)], H) := by
  induction m generalizing n with
  | zero => unfold up4 at hm; omega
  | succ m ih =>
    rw [show m + 1 + q = (m + q) + 1 by omega]
    have r := abin_rem Try.prog 3 .i64 n 4 (by decide)
    rw [Int.tmod_eq_emod_of_nonneg h0] at r
    by_cases hn : n % 4 = 0
    · refine iterN_exit ?_
      have : up4 n = n := by unfold up4; omega
      rw [this]
      unfold s36.l0
      rw [hn] at r
      simp -implicitDefEqProofs [r, abin_neq]
    · have hup : up4 (n + 1) = up4 n := by unfold up4; omega
      have hgo : s36.l0 call lim [vi n] H = some (.normal, [vi (n + 1)], H) := by
        unfold s36.l0
        have w := wrap_ok (n + 1) (by omega) (by omega)
        simp -implicitDefEqProofs [r, abin_neq, hn, abin_add, w]
      rw [iterN_go hgo]
      have := ih (n := n + 1) (by omega) (by omega) (by rw [hup]; omega)
      rw [hup] at this
      exact this
theorem next36 {n : Int} (h0 : 0 ≤ n) (h1 : n < 900000000) : evCall Try.prog C (d + 1) lim 36 [vi n] H = some (vi (up4 n), H) := by
  rw [evCall_pureEq (fi := fi36) rfl rfl (b36 _ _ _ _)]
  unfold s36
  have hl := next_loop (call := evCall Try.prog C d 1) (lim := 1) (H := [] :: H) h0 (by omega) 5 (by unfold up4; omega) (LB - 5)
  rw [show 5 + (LB - 5) = LB by unfold LB; omega] at hl
  unfold lp
  simp -implicitDefEqProofs [hl, bnd_eq]
end
end Go.Ev.Try

/- IrrunPlaces. -/
set_option maxRecDepth 100000
namespace Go.Ev.Try
open Go Go.Ev Go.Proofs Go.RowKit

/-- Slots as an argument. -/
def slV (nl : Bool) (L : List Slt) : AV := .d (.seq nl L.length (L.flatMap sD))
theorem slV_up (nl : Bool) (L : List Slt) (k : Nat) : (slV nl L).up k = slV nl L := by unfold slV; simp
theorem slV_sv (nl : Bool) (L : List Slt) (H : Heap) : SV H (slV nl L) 4 (L.map sD) :=
  ⟨fun r hr => by obtain ⟨s, _, rfl⟩ := List.mem_map.1 hr; rfl, .inl ⟨nl, by simp [slV, List.flatMap_def]⟩⟩
theorem slV_len (nl : Bool) (L : List Slt) : lnS (slV nl L) = some (vi L.length) := by unfold slV; simp
theorem slV_read (nl : Bool) {L : List Slt} {k : Nat} {s : Slt} (hs : L[k]? = some s) : ∃ (p : AV) (q : Nat → AV), ixS 4 (slV nl L) (vi k) = some p ∧ (∀ j, fa j p = some (q j)) ∧ (∀ (A : Arena) (H : Heap), ld (A :: H) (q 1) = some (vi s.size)) ∧
    ∀ (A : Arena) (H : Heap), ldA 4 (A :: H) p = some (.agg ((sD s).map .d)) := by
  have key : ∀ H : Heap, ∃ p q, SRead (slV nl L) 4 k H (sD s) p q := fun H => (slV_sv nl L H).read (by simp [hs])
  obtain ⟨p, q, r⟩ := key []
  have hix := r.ix
  rw [slV_up] at hix
  refine ⟨p, q, hix, r.fa, fun A H => ?_, fun A H => ?_⟩
  · obtain ⟨p', q', r'⟩ := key H
    have h2 := r'.ix
    rw [slV_up, hix] at h2
    cases h2
    have h3 := (r.fa 1).symm.trans (r'.fa 1)
    rw [Option.some.inj h3]
    exact r'.cell A 1 _ rfl
  · obtain ⟨p', q', r'⟩ := key H
    have h2 := r'.ix
    rw [slV_up, hix] at h2
    cases h2
    exact r'.all A
theorem sizeAt_eq {L : List Slt} {k : Nat} {s : Slt} (h : L[k]? = some s) : sizeAt L k = s.size := by simp [sizeAt, h]

section
variable {d lim : Nat} {H : Heap} {nl : Bool} {L : List Slt}
theorem place14_loop (hL : Small L) : Gives (iterN LB (s14.l0 (evCall Try.prog C (d + 1) 1) 1) [vi 0, .d (.seq true 0 []), slV nl L, vi L.length, vi 0] ([] :: H))
    (fun r => ∃ A o, r = (.exit 0, [vi (plAt L L.length), o], A :: H) ∧ OutAt 0 A o ((plD L L.length).map .d) L.length 1 ∧ (L.length = 0 → o = .d (.seq true 0 []))) := by
  obtain ⟨h40, hsz⟩ := hL
  refine iter_gives (Inv := fun k s H' => ∃ A o, s = [vi (plAt L k), o, slV nl L, vi L.length, vi k] ∧ H' = A :: H ∧ OutAt 0 A o ((plD L k).map .d) k 1 ∧ (k = 0 → o = .d (.seq true 0 []))) L.length (big_lt (by omega)) (fun k hk s H' h => ?_) ⟨[], _, rfl, rfl, .nil 1, fun _ => rfl⟩
  obtain ⟨A, o, rfl, rfl, ho, hnil⟩ := h
  rcases Nat.lt_or_ge k L.length with hlt | hge
  · left
    obtain ⟨s, hs⟩ : ∃ s, L[k]? = some s := ⟨_, List.getElem?_eq_getElem hlt⟩
    obtain ⟨p, q, hix, hfa, hld, hldA⟩ := slV_read nl hs
    have hi : (k : Int) < L.length := by omega
    have hst := stA_new (n := 4) (lim := 1) (A := A) (H := H) (cs := (sD s).map .d) (c := [.d (.str ⟨#[]⟩), .d (.int .i64 0), .d (.int .i64 0), .d (.int .i64 0)]) (by decide) (all_leaf_d _) rfl rfl
    have hb := bldS_onev (z := vi 0) (v := vi (plAt L k)) (A := A ++ [some ((sD s).map .d)]) (H := H) rfl
    obtain ⟨o', A', h1, h2, h3, h4⟩ := ho.appendB (H := H) (bytes := 8) (lim := 1) (cs := [vi (plAt L k)]) [some ((sD s).map .d)] (by omega) (by decide) rfl rfl (by omega) (by omega)
    have h5 := h4 A.length (Nat.le_refl _) (by simp)
    have h6 : A'[A.length]? = some (some ((sD s).map .d)) := by rw [h5]; simp
    have h7 : (sD s)[1]? = some (.int .i64 s.size) := rfl
    simp only [List.append_assoc, List.cons_append, List.nil_append, List.length_append, List.length_cons, List.length_nil] at h1
    have hz := sizeAt_ok hsz k
    have hp := plAt_ok hsz k
    rw [sizeAt_eq hs] at hz
    have w := wrap_ok (plAt L k + s.size) (by omega) (by omega)
    have hup := fun H => up35 (d := d) (lim := 1) (H := H) (n := plAt L k + s.size) (by omega) (by omega)
    have w2 := wrap_ok ((k : Int) + 1) (by omega) (by omega)
    refine ⟨[vi (plAt L (k + 1)), o', slV nl L, vi L.length, vi (k + 1 : Nat)], A' :: H, hlt, ?_, A', o', rfl, rfl, by rw [← plD_succ]; exact h2, fun h => by omega⟩
    have hpl : up4 (plAt L k + s.size) = plAt L (k + 1) := by rw [plAt, sizeAt_eq hs]
    unfold s14.l0
    simp -implicitDefEqProofs [abin_lss, hi, hix, hldA, hst, hb, h1, h6, h7, abin_add, w, hup, hpl, w2]
  · right
    obtain rfl : k = L.length := by omega
    refine ⟨_, ?_, ?_, A, o, rfl, ho, hnil⟩
    · unfold s14.l0
      simp -implicitDefEqProofs [abin_lss]
    · simp
theorem place15_loop (hL : Small L) : Gives (iterN LB (s15.l0 (evCall Try.prog C (d + 1) 1) 1) [slV nl L, .d (.seq true 0 []), vi 0, vi 0] ([] :: H))
    (fun r => ∃ A o, r = (.exit 0, [o, vi (plAt L L.length)], A :: H) ∧ OutAt 0 A o ((plD L L.length).map .d) L.length 1 ∧ (L.length = 0 → o = .d (.seq true 0 []))) := by
  obtain ⟨h40, hsz⟩ := hL
  refine iter_gives (Inv := fun k s H' => ∃ A o, s = [slV nl L, o, vi (plAt L k), vi k] ∧ H' = A :: H ∧ OutAt 0 A o ((plD L k).map .d) k 1 ∧ (k = 0 → o = .d (.seq true 0 []))) L.length (big_lt (by omega)) (fun k hk s H' h => ?_) ⟨[], _, rfl, rfl, .nil 1, fun _ => rfl⟩
  obtain ⟨A, o, rfl, rfl, ho, hnil⟩ := h
  have hln := slV_len nl L
  rcases Nat.lt_or_ge k L.length with hlt | hge
  · left
    obtain ⟨s, hs⟩ : ∃ s, L[k]? = some s := ⟨_, List.getElem?_eq_getElem hlt⟩
    obtain ⟨p, q, hix, hfa, hld, hldA⟩ := slV_read nl hs
    have hi : (k : Int) < L.length := by omega
    have hb := bldS_onev (z := vi 0) (v := vi (plAt L k)) (A := A) (H := H) rfl
    obtain ⟨o', A', h1, h2, h3, h4⟩ := ho.append (H := H) (bytes := 8) (lim := 1) (cs := [vi (plAt L k)]) (by omega) (by decide) rfl rfl (by omega) (by omega)
    have hz := sizeAt_ok hsz k
    have hp := plAt_ok hsz k
    rw [sizeAt_eq hs] at hz
    have w := wrap_ok (plAt L k + s.size) (by omega) (by omega)
    have hup := fun H => next36 (d := d) (lim := 1) (H := H) (n := plAt L k + s.size) (by omega) (by omega)
    have w2 := wrap_ok ((k : Int) + 1) (by omega) (by omega)
    refine ⟨[slV nl L, o', vi (plAt L (k + 1)), vi (k + 1 : Nat)], A' :: H, hlt, ?_, A', o', rfl, rfl, by rw [← plD_succ]; exact h2, fun h => by omega⟩
    have hpl : up4 (plAt L k + s.size) = plAt L (k + 1) := by rw [plAt, sizeAt_eq hs]
    unfold s15.l0
    simp -implicitDefEqProofs [hln, abin_lss, hi, hix, hb, h1, hfa, hld, abin_add, w, hup, hpl, w2]
  · right
    obtain rfl : k = L.length := by omega
    refine ⟨_, ?_, ?_, A, o, rfl, ho, hnil⟩
    · unfold s15.l0
      simp -implicitDefEqProofs [hln, abin_lss]
    · simp
theorem plV_leave {A : Arena} {o : AV} (ho : OutAt 0 A o ((plD L L.length).map .d) L.length 1) (hn : L.length = 0 → o = .d (.seq true 0 [])) : AV.leave A o = some (plV L) := by
  unfold plV
  by_cases h : L.length = 0
  · rw [if_pos h, hn h]
    exact leave_d _ _
  · rw [if_neg h]
    exact ho.leave h
theorem place14 (hL : Small L) : evCall Try.prog C (d + 2) lim 14 [slV nl L] H = some (.tup [plV L, vi (plAt L L.length)], H) := by
  rw [evCall_pureEq (fi := fi14) rfl rfl (b14 _ _ _ _), slV_up]
  unfold s14
  obtain ⟨r, hr, A, o, rfl, ho, hn⟩ := place14_loop (d := d) (H := H) (nl := nl) hL
  have hle := plV_leave ho hn
  have hln := slV_len nl L
  unfold lp
  simp -implicitDefEqProofs [hln, hr, bnd_eq, leave_tup, AV.leaveL, hle]
theorem place15 (hL : Small L) : evCall Try.prog C (d + 2) lim 15 [slV nl L] H = some (.tup [plV L, vi (plAt L L.length)], H) := by
  rw [evCall_pureEq (fi := fi15) rfl rfl (b15 _ _ _ _), slV_up]
  unfold s15
  obtain ⟨r, hr, A, o, rfl, ho, hn⟩ := place15_loop (d := d) (H := H) (nl := nl) hL
  have hle := plV_leave ho hn
  unfold lp
  simp -implicitDefEqProofs [hr, bnd_eq, leave_tup, AV.leaveL, hle]
/-- What is too much for the law. -/
def bigS (s : Slt) : Bool := decide (s.size < 0) || decide (40000 < s.size)
theorem guard5 (call : ACall) (haw : ∀ H, call 8 [] H = some (vb true, H)) (h40 : L.length ≤ 40) : iterN LB (s5.l0 call 1) [slV nl L, vi 0] ([] :: H) =
    some (if (List.range L.length).any (fun k => bigS ((L[k]?).getD ⟨⟨#[]⟩, 0, 0, 0⟩)) then (.ret, [vb true], [] :: H) else (.exit 0, [slV nl L], [] :: H)) := by
  have hln := slV_len nl L
  refine iter_any (n := L.length) (fun k => [slV nl L, vi k]) (fun k => bigS ((L[k]?).getD ⟨⟨#[]⟩, 0, 0, 0⟩)) (by omega) (fun k hk hp => ?_) (fun k hk hp => ?_) (by simp) ?_ (by simp)
  all_goals try
    obtain ⟨s, hs⟩ : ∃ s, L[k]? = some s := ⟨_, List.getElem?_eq_getElem hk⟩
    obtain ⟨p, q, hix, hfa, hld, hldA⟩ := slV_read nl hs
    have hi : (k : Int) < L.length := by omega
    rw [hs] at hp
  · have w := wrap_ok ((k : Int) + 1) (by omega) (by omega)
    simp [bigS] at hp
    unfold s5.l0
    simp -implicitDefEqProofs [hln, abin_lss, hi, hix, hfa, hld, Int.not_lt.2 hp.1, abin_gtr, Int.not_lt.2 hp.2, abin_add, w]
  · simp [bigS] at hp
    unfold s5.l0
    by_cases h0 : s.size < 0
    · simp -implicitDefEqProofs [hln, abin_lss, hi, hix, hfa, hld, h0, haw]
    · have h1 : 40000 < s.size := by omega
      simp -implicitDefEqProofs [hln, abin_lss, hi, hix, hfa, hld, h0, abin_gtr, h1, haw]
  · unfold s5.l0
    simp -implicitDefEqProofs [hln, abin_lss]
theorem plV_len (L : List Slt) : lnS (plV L) = some (vi L.length) := by
  unfold plV
  split
  · rename_i h; rw [h]; simp
  · simp
theorem plV_read {k : Nat} (hk : k < L.length) : ∃ p, ixS 1 (plV L) (vi k) = some p ∧ ∀ H, ld H p = some (vi (plAt L k)) := by
  unfold plV
  rw [if_neg (by omega)]
  refine ⟨.dptr (plD L L.length) k, by simp [inB_nat hk], fun H => ?_⟩
  rw [ld_dptr]
  unfold plD
  rw [List.getElem?_map, List.getElem?_range hk]
  rfl
theorem same5 (call : ACall) (h40 : L.length ≤ 40) : iterN LB (s5.l1 call 1) [plV L, plV L, vi 0] ([] :: H) = some (.exit 2, [], [] :: H) := by
  have hln := plV_len L
  have := iter_any (F := s5.l1 call 1) (H := [] :: H) (n := L.length) (fun k => [plV L, plV L, vi k]) (fun _ => false) (rv := (.ret, [], [])) (ex := (.exit 2, [], [] :: H)) (by omega) (fun k hk _ => by
    obtain ⟨p, hix, hld⟩ := plV_read hk
    have hi : (k : Int) < L.length := by omega
    have w := wrap_ok ((k : Int) + 1) (by omega) (by omega)
    unfold s5.l1
    simp -implicitDefEqProofs [hln, abin_lss, hi, hix, hld, abin_neq, abin_add, w]) (fun k hk h => by cases h) (by simp) (by
    unfold s5.l1
    simp -implicitDefEqProofs [hln, abin_lss]) (by simp)
  simpa using this
end
theorem places_ok {nl : Bool} {L : List Slt} {H : Heap} : evCall Try.prog C 100 1 5 [slV nl L] H = some (vb true, H) := by
  rw [evCall_pureEq (fi := fi5) rfl rfl (b5 _ _ _ _), slV_up]
  unfold s5
  have h0 := fun H => awake_ok (H := H)
  have hln := slV_len nl L
  by_cases h40 : 40 < L.length
  · have hi : (40 : Int) < L.length := by omega
    simp -implicitDefEqProofs [hln, abin_gtr, hi, h0]
  have hi : ¬ (40 : Int) < L.length := by omega
  have hg := guard5 (H := H) (nl := nl) (evCall Try.prog C 99 1) h0 (show L.length ≤ 40 by omega)
  cases hb : (List.range L.length).any (fun k => bigS ((L[k]?).getD ⟨⟨#[]⟩, 0, 0, 0⟩)) with
  | true =>
    rw [hb, if_pos rfl] at hg
    unfold lp
    simp -implicitDefEqProofs [hln, abin_gtr, hi, hg, bnd_eq]
  | false =>
    rw [hb, if_neg (by simp)] at hg
    have hS : Small L := by
      refine ⟨by omega, fun s hs => ?_⟩
      obtain ⟨k, hk, he⟩ := List.getElem_of_mem hs
      have := List.any_eq_false.1 hb k (List.mem_range.2 hk)
      rw [List.getElem?_eq_getElem hk, he] at this
      simp [bigS] at this
      omega
    have h1 := fun H => place14 (d := 97) (lim := 1) (H := H) (nl := nl) hS
    have h2 := fun H => place15 (d := 97) (lim := 1) (H := H) (nl := nl) hS
    have hs := same5 (H := H) (evCall Try.prog C 99 1) (show L.length ≤ 40 by omega)
    have hpl := plV_len L
    unfold lp
    simp -implicitDefEqProofs [hln, abin_gtr, hi, hg, bnd_eq, h1, h2, aextract, abin_neq, hpl, hs, h0]
end Go.Ev.Try

/- IrrunPlaces: the walk. -/
set_option maxRecDepth 100000
namespace Go.Ev.Try
open Go Go.Ev Go.Proofs Go.RowKit
theorem u9 : Try.prog.underlying 9 = some .string := by kernel_rfl
theorem u22 : Try.prog.underlying 22 = some (.slice 40) := by kernel_rfl
theorem u40 : fieldTypes Try.prog 40 = some [9, 3, 3, 3] := by kernel_rfl
theorem dok9 {f : Nat} {ds : List D} (h : DOk Try.prog (f + 1) 9 ds) : ∃ s, ds = [.str s] ∧ s.size ≤ maxLen := by
  unfold DOk at h
  rw [u9] at h
  exact h
theorem dok40 {f : Nat} {ds : List D} (h : DOk Try.prog (f + 2) 40 ds) : ∃ s : Slt, ds = sD s := by
  obtain ⟨p, q, rfl, h1, p2, q2, rfl, h2, p3, q3, rfl, h3, p4, q4, rfl, h4, rfl⟩ := dok_struct u40 h
  obtain ⟨s, rfl, _⟩ := dok9 h1
  obtain ⟨a, rfl, _⟩ := dok3 h2
  obtain ⟨b, rfl, _⟩ := dok3 h3
  obtain ⟨c, rfl, _⟩ := dok3 h4
  exact ⟨⟨s, a, b, c⟩, rfl⟩
theorem rows_list {α : Type} {Q : List D → Prop} {g : α → List D} (hq : ∀ r, Q r → ∃ a, r = g a) : ∀ {rows : List (List D)}, (∀ r ∈ rows, Q r) → ∃ l : List α, rows = l.map g
  | [], _ => ⟨[], rfl⟩
  | r :: rows, h => by
    obtain ⟨a, ha⟩ := hq r (h r (by simp))
    obtain ⟨l, hl⟩ := rows_list hq (rows := rows) fun x hx => h x (by simp [hx])
    exact ⟨a :: l, by simp [ha, hl]⟩
theorem dok22 {f : Nat} {ds : List D} (h : DOk Try.prog (f + 3) 22 ds) : ∃ (nl : Bool) (L : List Slt), ds = [.seq nl L.length (L.flatMap sD)] := by
  unfold DOk at h
  rw [u22] at h
  rcases h with rfl | ⟨rows, rfl, _, h⟩
  · exact ⟨true, [], rfl⟩
  · obtain ⟨l, rfl⟩ := rows_list (g := sD) (fun r hr => dok40 hr.2) h
    exact ⟨false, l, by simp [List.flatMap]⟩
theorem walkIrrunPlaces {d0 : D} {W : World} {v0 : Value} (h0 : DOk Try.prog 8 22 [d0]) (hv : VRs (IW W) G0 [.d d0] [v0]) :
    Calls Try.prog 5 #[v0] W (fun x W' => x = .returned (.bool true) ∧ Below W.heap.size W W') := by
  obtain ⟨nl, L, h0⟩ := dok22 h0
  obtain rfl : d0 = .seq nl L.length (L.flatMap sD) := by simpa using h0
  exact calls_true fitsC follows places_ok hv
end Go.Ev.Try
