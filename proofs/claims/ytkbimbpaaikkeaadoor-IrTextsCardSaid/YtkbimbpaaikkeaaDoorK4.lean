import Derived.Test.YtkbimbpaaikkeaaDoorK3
set_option linter.unusedSimpArgs false
set_option linter.unusedVariables false
/- What an instruction reads and sets: lists of numbers. -/
set_option maxRecDepth 100000
namespace Go.Ev.Tryd
open Go Go.Ev Go.Proofs
/-- A list of numbers. -/
abbrev nums (nl : Bool) (l : List Int) : AV := .d (.seq nl l.length (l.map (.int .i64)))
theorem out_leave {k0 : Nat} {A : Arena} {v : AV} {l : List Int} (h : OutAt k0 A v (l.map vi) l.length 1) : ∃ nl, AV.leave A v = some (nums nl l) := by
  generalize hc : l.map vi = cells at h
  generalize hn : l.length = n at h
  cases h with
  | nil =>
    obtain rfl : l = [] := List.eq_nil_of_length_eq_zero hn
    exact ⟨true, by simp⟩
  | row hb hA hl =>
    subst hc hn
    refine ⟨false, ?_⟩
    exact leave_row (c := l.map (.int .i64)) (by rw [hA]; simp [List.map_map, Function.comp_def]) (by simp)
def usesL (i : Ins) : List Int := (if hasA i.op = true ∧ i.a ≠ -1 then [i.a] else []) ++ (if hasB i.op = true ∧ i.b ≠ -1 then [i.b] else []) ++ (if i.op = 9 then i.args.filter (· ≠ -1) else [])
def outsL (b : Blk) : List Int := (if b.fin = 1 ∨ b.fin = 2 then [b.to] else []) ++ (if b.fin = 2 ∧ b.els ≠ b.to then [b.els] else [])
/-- One number more. -/
theorem add1 {A : Arena} {H : Heap} {v : AV} {l : List Int} {k0 : Nat} (x : Int) (h : OutAt k0 A v (l.map vi) l.length 1) (h0 : k0 ≤ A.length) (hl : l.length ≤ 1000) :
    ∃ v' A', app 1 8 1 ((A ++ [some [vi x]]) :: H) v (elS 1 ((A ++ [some [vi x]]) :: H) (.sl 0 A.length 0 1 1)) = some (v', A' :: H) ∧ OutAt k0 A' v' ((l ++ [x]).map vi) (l ++ [x]).length 1 ∧ A.length ≤ A'.length ∧ ∀ j, j < k0 → A'[j]? = A[j]? := by
  have := OutAt.append (H := H) (cs := [vi x]) (bytes := 8) (lim := 1) h h0 (by decide) rfl rfl (by omega) (by omega)
  simpa using this
section
variable {d lim : Nat} {H : Heap}
theorem args19 {call : ACall} {nl : Bool} {l : List Int} (hl : l.length ≤ 12) {X : Option (List AV)} :
    Gives (iterN LB (s19.l0 call 1) [.d (.seq true 0 []), .d (seqD nl l nD), vi l.length, vi 0] ([X] :: H)) (fun r => ∃ v A', r = (.exit 0, [v], A' :: H) ∧ OutAt 1 A' v ((l.filter (· ≠ -1)).map vi) (l.filter (· ≠ -1)).length 1) := by
  refine iter_gives (Inv := fun k s Hh => ∃ v A', s = [v, .d (seqD nl l nD), vi l.length, vi k] ∧ Hh = A' :: H ∧ OutAt 1 A' v (((l.take k).filter (· ≠ -1)).map vi) ((l.take k).filter (· ≠ -1)).length 1 ∧ 1 ≤ A'.length) l.length (big_lt (by omega)) (fun k hk s Hh hi => ?_)
    ⟨_, _, rfl, rfl, by simp; exact .nil 1, by simp⟩
  obtain ⟨v, A', rfl, rfl, ho, hA⟩ := hi
  rcases Nat.lt_or_ge k l.length with hk' | hk'
  · obtain ⟨x, hx⟩ : ∃ x, l[k]? = some x := ⟨_, List.getElem?_eq_getElem hk'⟩
    obtain ⟨q, hix, hld⟩ := seq_one (nl := nl) (f := fun n => D.int .i64 n) hx
    have hix' : ixS 1 (.d (seqD nl l nD)) (vi k) = some q := hix
    have hi : (k : Int) < l.length := by omega
    have w := wrap_ok ((k : Int) + 1) (by omega) (by omega)
    have hle : ((l.take k).filter (· ≠ -1)).length ≤ 1000 := by
      have := List.length_filter_le (fun x : Int => decide (x ≠ -1)) (l.take k)
      simp only [List.length_take] at this
      omega
    have htk : l.take (k + 1) = l.take k ++ [x] := by rw [List.take_add_one, hx]; rfl
    by_cases h1 : x = -1
    · refine .inl ⟨[v, .d (seqD nl l nD), vi l.length, vi (k + 1)], A' :: H, hk', ?_, v, A', by simp, rfl, by rw [htk]; simpa [h1] using ho, hA⟩
      unfold s19.l0
      simp -implicitDefEqProofs [abin_lss, hi, hix', hld, abin_neq, h1, abin_add, w]
    · obtain ⟨v', B, ha, ho', hB, _⟩ := add1 (H := H) x ho hA hle
      refine .inl ⟨[v', .d (seqD nl l nD), vi l.length, vi (k + 1)], B :: H, hk', ?_, v', B, by simp, rfl, by rw [htk]; simpa [h1] using ho', by omega⟩
      have hbl := bldS_onev (z := vi 0) (v := vi x) (A := A') (H := H) rfl
      unfold s19.l0
      simp -implicitDefEqProofs [abin_lss, hi, hix', hld, abin_neq, h1, hbl, ha, abin_add, w]
  · obtain rfl : k = l.length := by omega
    refine .inr ⟨(.exit 0, [v], A' :: H), ?_, by simp, v, A', rfl, by simpa using ho⟩
    unfold s19.l0
    simp -implicitDefEqProofs [abin_lss]
end
end Go.Ev.Tryd

/- What an instruction reads and sets: the functions. -/
set_option maxRecDepth 100000
namespace Go.Ev.Tryd
open Go Go.Ev Go.Proofs
theorem flB_len (op : Int) : (flB op).length = 10 := by unfold flB; repeat' split
                                                        all_goals rfl
theorem flB_cases (op : Int) : (flB op)[0]? = some (hasD op) ∧ (flB op)[1]? = some (hasA op) ∧ (flB op)[2]? = some (hasB op) ∧ (flB op)[8]? = some (decide (op = 9)) := by
  unfold flB
  repeat' split
  all_goals first
    | (subst_vars; simp [hasD, hasA, hasB]; done)
    | (simp_all [hasD, hasA, hasB])
theorem flV_out {op : Int} (h : op < 1 ∨ 12 < op) : flV op = .d (.seq true 0 []) ∧ hasD op = false ∧ hasA op = false ∧ hasB op = false ∧ op ≠ 9 := by
  refine ⟨by unfold flV; rw [if_pos h], ?_, ?_, ?_, by omega⟩
  · unfold hasD; simp only [decide_eq_false_iff_not]; omega
  · unfold hasA; simp only [decide_eq_false_iff_not]; omega
  · unfold hasB; simp only [decide_eq_false_iff_not]; omega
theorem flV_in {op : Int} (h : ¬ (op < 1 ∨ 12 < op)) : lnS (flV op) = some (vi 10) ∧ ∀ (j : Nat) (b : Bool), (flB op)[j]? = some b → ∃ q, ixS 1 (flV op) (vi j) = some q ∧ ∀ H, ld H q = some (vb b) := by
  unfold flV
  rw [if_neg h]
  refine ⟨by simp, fun j b hb => ?_⟩
  have hj : j < 10 := by rw [← flB_len op]; exact (List.getElem?_eq_some_iff.1 hb).1
  refine ⟨_, by rw [ixS_d, inB_nat hj]; rfl, fun H => ?_⟩
  simp [hb]
section
variable {d lim : Nat} {H : Heap}
theorem def17 {i : Ins} : evCall Tryd.prog C (d + 2) lim 17 [.agg ((iD i).map .d)] H = some (vi (if hasD i.op then i.d else -1), H) := by
  rw [evCall_pureEq (fi := fi17) rfl rfl (b17 _ _ _ _), up_data]
  unfold s17
  have hb := bx_data (r := iD i) (A := []) (H := H)
  have h0 : (iD i)[0]? = some (.int .i64 i.op) := rfl
  have h1 : (iD i)[1]? = some (.int .i64 i.d) := rfl
  have hf := fun H => fields77 (d := d) (lim := 1) (H := H) (op := i.op)
  generalize iD i = r at *
  generalize i.op = op at *
  by_cases h : op < 1 ∨ 12 < op
  · obtain ⟨e1, e2, _⟩ := flV_out h
    rw [e1] at hf
    simp -implicitDefEqProofs [hb, h0, h1, hf, e2, abin_eql]
  · obtain ⟨e1, e2⟩ := flV_in h
    obtain ⟨q, e3, e4⟩ := e2 0 _ (flB_cases op).1
    simp only [Int.ofNat_zero, Int.natCast_zero] at e3
    generalize flV op = F at *
    cases hd : hasD op <;> simp -implicitDefEqProofs [hb, h0, h1, hf, e1, e3, e4, hd, abin_eql]
end
end Go.Ev.Tryd

/- What an instruction reads: both sides. -/
set_option maxRecDepth 100000
namespace Go.Ev.Tryd
open Go Go.Ev Go.Proofs
section
variable {d lim : Nat} {H : Heap}
theorem fin_leave {l : List Int} {A : Arena} {v : AV} (h : OutAt 1 A v (l.map vi) l.length 1) {H : Heap} : ∃ nl, ((some ((.ret, [v], A :: H) : Res)).bind fun r => match r.2.2 with | A :: _ => (AV.leave A (headA r.2.1)).map fun v => (v, H) | [] => none) = some (nums nl l, H) := by
  obtain ⟨nl, e⟩ := out_leave h
  exact ⟨nl, by simp [headA, e]⟩
theorem uses19 {i : Ins} (hn : i.args.length ≤ 12) : ∃ nl, evCall Tryd.prog C (d + 2) lim 19 [.agg ((iD i).map .d)] H = some (nums nl (usesL i), H) := by
  rw [evCall_pureEq (fi := fi19) rfl rfl (b19 _ _ _ _), up_data]
  unfold s19
  have hb := bx_data (r := iD i) (A := []) (H := H)
  have h0 : (iD i)[0]? = some (.int .i64 i.op) := rfl
  have h2 : (iD i)[2]? = some (.int .i64 i.a) := rfl
  have h3 : (iD i)[3]? = some (.int .i64 i.b) := rfl
  have h9 : (iD i)[9]? = some (seqD i.anl i.args nD) := rfl
  have hr := fun H => reads78 (d := d) (lim := 1) (H := H) (op := i.op)
  have hl9 := seq_len i.anl i.args nD
  have hloop := args19 (H := H) (call := evCall Tryd.prog C (d + 1) 1) (nl := i.anl) hn (X := some ((iD i).map .d))
  unfold usesL
  generalize iD i = r at *
  generalize i.op = op at *
  generalize i.a = a at *
  generalize i.b = b at *
  by_cases h : op = 9
  · subst h
    obtain ⟨r', hr', v, A', rfl, ho⟩ := hloop
    have ea : hasA 9 = false := rfl
    have eb : hasB 9 = false := rfl
    obtain ⟨nl, e⟩ := fin_leave ho (H := H)
    refine ⟨nl, ?_⟩
    simp only [ea, eb, Bool.false_eq_true, false_and, if_false, if_true, List.nil_append]
    rw [← e]
    unfold lp
    simp -implicitDefEqProofs [hb, h0, hr, ea, eb, abin_eql, h9, hl9, hr', bnd_eq]
  · simp only [if_neg h, List.append_nil]
    have o0 : OutAt 1 [some (r.map AV.d)] (.d (.seq true 0 [])) (([] : List Int).map vi) ([] : List Int).length 1 := .nil 1
    by_cases ha : hasA op = true ∧ a ≠ -1
    · obtain ⟨ha, ha'⟩ := ha
      obtain ⟨v1, A1, e1, o1, l1, k1⟩ := add1 (H := H) a o0 (by simp) (by simp)
      have b1 := bldS_onev (z := vi 0) (v := vi a) (A := [some (r.map AV.d)]) (H := H) rfl
      simp only [List.length_cons, List.length_nil, List.cons_append, List.nil_append, Nat.zero_add] at e1 b1 o1
      have g1 : A1[0]? = some (some (r.map AV.d)) := k1 0 (by decide)
      by_cases hb' : hasB op = true ∧ b ≠ -1
      · obtain ⟨hb1, hb2⟩ := hb'
        obtain ⟨v2, A2, e2, o2, l2, k2⟩ := add1 (H := H) b o1 l1 (by simp)
        have b2 := bldS_onev (z := vi 0) (v := vi b) (A := A1) (H := H) rfl
        have g2 : A2[0]? = some (some (r.map AV.d)) := (k2 0 (by decide)).trans g1
        obtain ⟨nl, e⟩ := fin_leave o2 (H := H)
        refine ⟨nl, ?_⟩
        simp only [ha, hb1, ha', hb2, ne_eq, not_false_eq_true, and_self, if_true]
        refine Eq.trans ?_ e
        simp -implicitDefEqProofs [hb, h0, hr, ha, hb1, h2, abin_neq, ha', b1, e1, h3, hb2, b2, e2, g1, g2, getB, abin_eql, h]
      · obtain ⟨nl, e⟩ := fin_leave o1 (H := H)
        refine ⟨nl, ?_⟩
        rw [if_pos ⟨ha, ha'⟩, if_neg hb', List.append_nil]
        refine Eq.trans ?_ e
        cases hb1 : hasB op with
        | false => simp -implicitDefEqProofs [hb, h0, hr, ha, hb1, h2, abin_neq, ha', b1, e1, g1, getB, abin_eql, h]
        | true =>
          have hb2 : b = -1 := by
            by_cases q : b = -1
            · exact q
            · exact absurd ⟨hb1, q⟩ hb'
          simp -implicitDefEqProofs [hb, h0, hr, ha, hb1, h2, abin_neq, ha', b1, e1, h3, hb2, g1, getB, abin_eql, h]
    · rw [if_neg ha]
      by_cases hb' : hasB op = true ∧ b ≠ -1
      · obtain ⟨hb1, hb2⟩ := hb'
        obtain ⟨v2, A2, e2, o2, l2, k2⟩ := add1 (H := H) b o0 (by simp) (by simp)
        have b2 := bldS_onev (z := vi 0) (v := vi b) (A := [some (r.map AV.d)]) (H := H) rfl
        simp only [List.length_cons, List.length_nil, List.cons_append, List.nil_append, Nat.zero_add] at e2 b2 o2
        have g2 : A2[0]? = some (some (r.map AV.d)) := k2 0 (by decide)
        obtain ⟨nl, e⟩ := fin_leave o2 (H := H)
        refine ⟨nl, ?_⟩
        rw [if_pos ⟨hb1, hb2⟩, List.nil_append]
        refine Eq.trans ?_ e
        cases ha1 : hasA op with
        | false => simp -implicitDefEqProofs [hb, h0, hr, ha1, hb1, abin_neq, h3, hb2, b2, e2, g2, getB, abin_eql, h]
        | true =>
          have ha2 : a = -1 := by
            by_cases q : a = -1
            · exact q
            · exact absurd ⟨ha1, q⟩ ha
          simp -implicitDefEqProofs [hb, h0, hr, ha1, hb1, abin_neq, h2, ha2, h3, hb2, b2, e2, g2, getB, abin_eql, h]
      · rw [if_neg hb', List.append_nil]
        obtain ⟨nl, e⟩ := fin_leave o0 (H := H)
        refine ⟨nl, ?_⟩
        refine Eq.trans ?_ e
        cases ha1 : hasA op with
        | false =>
          cases hb1 : hasB op with
          | false => simp -implicitDefEqProofs [hb, h0, hr, ha1, hb1, getB, abin_eql, h]
          | true =>
            have hb2 : b = -1 := by
              by_cases q : b = -1
              · exact q
              · exact absurd ⟨hb1, q⟩ hb'
            simp -implicitDefEqProofs [hb, h0, hr, ha1, hb1, h3, abin_neq, hb2, getB, abin_eql, h]
        | true =>
          have ha2 : a = -1 := by
            by_cases q : a = -1
            · exact q
            · exact absurd ⟨ha1, q⟩ ha
          cases hb1 : hasB op with
          | false => simp -implicitDefEqProofs [hb, h0, hr, ha1, hb1, h2, abin_neq, ha2, getB, abin_eql, h]
          | true =>
            have hb2 : b = -1 := by
              by_cases q : b = -1
              · exact q
              · exact absurd ⟨hb1, q⟩ hb'
            simp -implicitDefEqProofs [hb, h0, hr, ha1, hb1, h2, h3, abin_neq, ha2, hb2, getB, abin_eql, h]
end
end Go.Ev.Tryd

/- What an instruction reads: the document's side. -/
set_option maxRecDepth 100000
namespace Go.Ev.Tryd
open Go Go.Ev Go.Proofs
section
variable {d lim : Nat} {H : Heap}
theorem stop20 {call : ACall} {F v : AV} {N : Int} {q : AV} {A : Arena} (hN : lnS F = some (vi N)) (h8 : N ≤ 0 ∨ (0 < N ∧ ixS 1 F (vi 8) = some q ∧ ∀ H, ld H q = some (vb false))) :
    iterN LB (s20.l0 call 1) [.ptr 0 0 0, v, F, vi 0] (A :: H) = some (.exit 0, [v], A :: H) := by
  have := iter_any (F := s20.l0 call 1) (H := A :: H) (n := 0) (fun k => [.ptr 0 0 0, v, F, vi k]) (fun _ => false) (rv := (.exit 0, [v], A :: H)) (ex := (.exit 0, [v], A :: H)) (by omega) (fun k hk => by omega) (fun k hk => by omega) (by simp) (by
    unfold s20.l0
    rcases h8 with h8 | ⟨h8, hq, hl⟩
    · have : ¬ (0 < N) := by omega
      simp -implicitDefEqProofs [hN, abin_gtr, this]
    · simp -implicitDefEqProofs [hN, abin_gtr, h8, hq, hl]) (by simp)
  simpa using this
theorem args20 {call : ACall} {F q8 : AV} (hN : lnS F = some (vi 10)) (hq : ixS 1 F (vi 8) = some q8) (hl8 : ∀ H, ld H q8 = some (vb true)) {r : List D} {nl : Bool} {l : List Int} (h9 : r[9]? = some (seqD nl l nD)) (hl : l.length ≤ 12) :
    Gives (iterN LB (s20.l0 call 1) [.ptr 0 0 0, .d (.seq true 0 []), F, vi 0] ([some (r.map .d)] :: H)) (fun x => ∃ v A', x = (.exit 0, [v], A' :: H) ∧ OutAt 1 A' v ((l.filter (· ≠ -1)).map vi) (l.filter (· ≠ -1)).length 1) := by
  have hln := seq_len nl l nD
  refine iter_gives (Inv := fun k s Hh => ∃ v A', s = [.ptr 0 0 0, v, F, vi k] ∧ Hh = A' :: H ∧ OutAt 1 A' v (((l.take k).filter (· ≠ -1)).map vi) ((l.take k).filter (· ≠ -1)).length 1 ∧ 1 ≤ A'.length ∧ A'[0]? = some (some (r.map .d))) l.length (big_lt (by omega)) (fun k hk s Hh hi => ?_)
    ⟨_, _, rfl, rfl, by simp; exact .nil 1, by simp, by simp⟩
  obtain ⟨v, A', rfl, rfl, ho, hA, h0⟩ := hi
  rcases Nat.lt_or_ge k l.length with hk' | hk'
  · obtain ⟨x, hx⟩ : ∃ x, l[k]? = some x := ⟨_, List.getElem?_eq_getElem hk'⟩
    obtain ⟨q, hix, hld⟩ := seq_one (nl := nl) (f := fun n => D.int .i64 n) hx
    have hix' : ixS 1 (.d (seqD nl l nD)) (vi k) = some q := hix
    have hi : (k : Int) < l.length := by omega
    have w := wrap_ok ((k : Int) + 1) (by omega) (by omega)
    have hle : ((l.take k).filter (· ≠ -1)).length ≤ 1000 := by
      have := List.length_filter_le (fun x : Int => decide (x ≠ -1)) (l.take k)
      simp only [List.length_take] at this
      omega
    have htk : l.take (k + 1) = l.take k ++ [x] := by rw [List.take_add_one, hx]; rfl
    by_cases h1 : x = -1
    · refine .inl ⟨[.ptr 0 0 0, v, F, vi (k + 1)], A' :: H, hk', ?_, v, A', by simp, rfl, by rw [htk]; simpa [h1] using ho, hA, h0⟩
      unfold s20.l0
      simp -implicitDefEqProofs [hN, abin_gtr, hq, hl8, getB, h0, h9, hln, abin_lss, hi, hix', hld, abin_neq, h1, abin_add, w]
    · obtain ⟨v', B, ha, ho', hB, hB0⟩ := add1 (H := H) x ho hA hle
      refine .inl ⟨[.ptr 0 0 0, v', F, vi (k + 1)], B :: H, hk', ?_, v', B, by simp, rfl, by rw [htk]; simpa [h1] using ho', by omega, (hB0 0 (by decide)).trans h0⟩
      have hbl := bldS_onev (z := vi 0) (v := vi x) (A := A') (H := H) rfl
      unfold s20.l0
      simp -implicitDefEqProofs [hN, abin_gtr, hq, hl8, getB, h0, h9, hln, abin_lss, hi, hix', hld, abin_neq, h1, hbl, ha, abin_add, w]
  · obtain rfl : k = l.length := by omega
    refine .inr ⟨(.exit 0, [v], A' :: H), ?_, by simp, v, A', rfl, by simpa using ho⟩
    unfold s20.l0
    simp -implicitDefEqProofs [hN, abin_gtr, hq, hl8, getB, h0, h9, hln, abin_lss]
theorem uses20 {i : Ins} (hn : i.args.length ≤ 12) : ∃ nl, evCall Tryd.prog C (d + 2) lim 20 [.agg ((iD i).map .d)] H = some (nums nl (usesL i), H) := by
  rw [evCall_pureEq (fi := fi20) rfl rfl (b20 _ _ _ _), up_data]
  unfold s20
  have hb := bx_data (r := iD i) (A := []) (H := H)
  have h0 : (iD i)[0]? = some (.int .i64 i.op) := rfl
  have h2 : (iD i)[2]? = some (.int .i64 i.a) := rfl
  have h3 : (iD i)[3]? = some (.int .i64 i.b) := rfl
  have h9 : (iD i)[9]? = some (seqD i.anl i.args nD) := rfl
  have hf := fun H => fields77 (d := d) (lim := 1) (H := H) (op := i.op)
  have hc := flB_cases i.op
  have hst := fun (v : AV) (A : Arena) (F : AV) (N : Int) (q : AV) => stop20 (H := H) (call := evCall Tryd.prog C (d + 1) 1) (F := F) (v := v) (N := N) (q := q) (A := A)
  have hloop := fun (F q8 : AV) a b c => args20 (H := H) (call := evCall Tryd.prog C (d + 1) 1) (F := F) (q8 := q8) a b c h9 hn
  unfold usesL
  generalize iD i = r at *
  generalize i.op = op at *
  generalize i.a = a at *
  generalize i.b = b at *
  have o0 : OutAt 1 [some (r.map AV.d)] (.d (.seq true 0 [])) (([] : List Int).map vi) ([] : List Int).length 1 := .nil 1
  by_cases h : op < 1 ∨ 12 < op
  · obtain ⟨e1, e2, e3, e4, e5⟩ := flV_out h
    rw [e1] at hf
    have hs := hst (.d (.seq true 0 [])) [some (r.map AV.d)] (.d (.seq true 0 [])) 0 .junk rfl (.inl (by omega))
    obtain ⟨nl, e⟩ := fin_leave o0 (H := H)
    refine ⟨nl, ?_⟩
    simp only [e3, e4, e5, Bool.false_eq_true, false_and, if_false, List.append_nil]
    refine Eq.trans ?_ e
    unfold lp
    simp -implicitDefEqProofs [hb, h0, hf, abin_gtr, hs, bnd_eq]
  · obtain ⟨e1, e2⟩ := flV_in h
    obtain ⟨q1, x1, y1⟩ := e2 1 _ hc.2.1
    obtain ⟨q2, x2, y2⟩ := e2 2 _ hc.2.2.1
    obtain ⟨q8, x8, y8⟩ := e2 8 _ hc.2.2.2
    have x1 : ixS 1 (flV op) (vi 1) = some q1 := x1
    have x2 : ixS 1 (flV op) (vi 2) = some q2 := x2
    have x8 : ixS 1 (flV op) (vi 8) = some q8 := x8
    have up : (flV op).up 1 = flV op := by unfold flV; split <;> rfl
    generalize flV op = F at *
    by_cases h9' : op = 9
    · subst h9'
      obtain ⟨r', hr', v, A', rfl, ho⟩ := hloop F q8 e1 x8 y8
      have ea : hasA 9 = false := rfl
      have eb : hasB 9 = false := rfl
      obtain ⟨nl, e⟩ := fin_leave ho (H := H)
      refine ⟨nl, ?_⟩
      simp only [ea, eb, Bool.false_eq_true, false_and, if_false, if_true, List.nil_append]
      refine Eq.trans ?_ e
      unfold lp
      simp -implicitDefEqProofs [hb, h0, hf, e1, abin_gtr, x1, y1, x2, y2, ea, eb, hr', bnd_eq]
    · have hs := fun v A => hst v A F 10 q8 e1 (.inr ⟨by omega, x8, fun H => by rw [y8]; simp [h9']⟩)
      simp only [if_neg h9', List.append_nil]
      unfold lp
      by_cases ha : hasA op = true ∧ a ≠ -1
      · obtain ⟨ha, ha'⟩ := ha
        obtain ⟨v1, A1, f1, o1, l1, k1⟩ := add1 (H := H) a o0 (by simp) (by simp)
        have b1 := bldS_onev (z := vi 0) (v := vi a) (A := [some (r.map AV.d)]) (H := H) rfl
        simp only [List.length_cons, List.length_nil, List.cons_append, List.nil_append, Nat.zero_add] at f1 b1 o1
        have g1 : A1[0]? = some (some (r.map AV.d)) := k1 0 (by decide)
        by_cases hb' : hasB op = true ∧ b ≠ -1
        · obtain ⟨hb1, hb2⟩ := hb'
          obtain ⟨v2, A2, f2, o2, l2, k2⟩ := add1 (H := H) b o1 l1 (by simp)
          have b2 := bldS_onev (z := vi 0) (v := vi b) (A := A1) (H := H) rfl
          obtain ⟨nl, e⟩ := fin_leave o2 (H := H)
          refine ⟨nl, ?_⟩
          simp only [ha, hb1, ha', hb2, ne_eq, not_false_eq_true, and_self, if_true]
          refine Eq.trans ?_ e
          simp -implicitDefEqProofs [hb, h0, hf, e1, abin_gtr, x1, y1, ha, h2, abin_neq, ha', b1, f1, x2, y2, hb1, g1, getB, h3, hb2, b2, f2, hs, bnd_eq]
        · obtain ⟨nl, e⟩ := fin_leave o1 (H := H)
          refine ⟨nl, ?_⟩
          rw [if_pos ⟨ha, ha'⟩, if_neg hb', List.append_nil]
          refine Eq.trans ?_ e
          cases hb1 : hasB op with
          | false => simp -implicitDefEqProofs [hb, h0, hf, e1, abin_gtr, x1, y1, ha, h2, abin_neq, ha', b1, f1, x2, y2, hb1, g1, getB, h3, hs, bnd_eq]
          | true =>
            have hb2 : b = -1 := by
              by_cases q : b = -1
              · exact q
              · exact absurd ⟨hb1, q⟩ hb'
            simp -implicitDefEqProofs [hb, h0, hf, e1, abin_gtr, x1, y1, ha, h2, abin_neq, ha', b1, f1, x2, y2, hb1, g1, getB, h3, hb2, hs, bnd_eq]
      · rw [if_neg ha]
        by_cases hb' : hasB op = true ∧ b ≠ -1
        · obtain ⟨hb1, hb2⟩ := hb'
          obtain ⟨v2, A2, f2, o2, l2, k2⟩ := add1 (H := H) b o0 (by simp) (by simp)
          have b2 := bldS_onev (z := vi 0) (v := vi b) (A := [some (r.map AV.d)]) (H := H) rfl
          simp only [List.length_cons, List.length_nil, List.cons_append, List.nil_append, Nat.zero_add] at f2 b2 o2
          obtain ⟨nl, e⟩ := fin_leave o2 (H := H)
          refine ⟨nl, ?_⟩
          rw [if_pos ⟨hb1, hb2⟩, List.nil_append]
          refine Eq.trans ?_ e
          cases ha1 : hasA op with
          | false => simp -implicitDefEqProofs [hb, h0, hf, e1, abin_gtr, x1, y1, ha1, abin_neq, x2, y2, hb1, getB, h3, hb2, b2, f2, hs, bnd_eq]
          | true =>
            have ha2 : a = -1 := by
              by_cases q : a = -1
              · exact q
              · exact absurd ⟨ha1, q⟩ ha
            simp -implicitDefEqProofs [hb, h0, hf, e1, abin_gtr, x1, y1, ha1, abin_neq, h2, ha2, x2, y2, hb1, getB, h3, hb2, b2, f2, hs, bnd_eq]
        · rw [if_neg hb', List.append_nil]
          obtain ⟨nl, e⟩ := fin_leave o0 (H := H)
          refine ⟨nl, ?_⟩
          refine Eq.trans ?_ e
          have ga : hasA op = false ∨ hasA op = true ∧ a = -1 := by
            cases ha1 : hasA op with
            | false => exact .inl rfl
            | true =>
              by_cases q : a = -1
              · exact .inr ⟨rfl, q⟩
              · exact absurd ⟨ha1, q⟩ ha
          have gb : hasB op = false ∨ hasB op = true ∧ b = -1 := by
            cases hb1 : hasB op with
            | false => exact .inl rfl
            | true =>
              by_cases q : b = -1
              · exact .inr ⟨rfl, q⟩
              · exact absurd ⟨hb1, q⟩ hb'
          rcases ga with ga | ⟨ga, rfl⟩ <;> rcases gb with gb | ⟨gb, rfl⟩ <;>
            simp -implicitDefEqProofs [hb, h0, hf, e1, abin_gtr, x1, y1, ga, abin_neq, h2, x2, y2, gb, getB, h3, hs, bnd_eq]
end
end Go.Ev.Tryd

/- IrTells: the law. -/
set_option maxRecDepth 100000
namespace Go.Ev.Tryd
open Go Go.Ev Go.Proofs
section
variable {d lim : Nat} {H : Heap}
theorem same18 {l : List Int} {n1 n2 : Bool} (hl : l.length ≤ 1000) : evCall Tryd.prog C (d + 1) lim 18 [nums n1 l, nums n2 l] H = some (vb true, H) := by
  rw [evCall_pureEq (fi := fi18) rfl rfl (b18 _ _ _ _ _)]
  have u1 : AV.upL 1 [nums n1 l, nums n2 l] = [nums n1 l, nums n2 l] := by simp
  unfold s18
  have hloop := iter_any (F := s18.l0 (evCall Tryd.prog C d 1) 1) (H := [] :: H) (n := l.length) (fun k => [nums n1 l, nums n2 l, vi k]) (fun _ => false) (rv := (.exit 0, [], [] :: H)) (ex := (.exit 0, [], [] :: H)) (by omega) (fun k hk _ => by
    obtain ⟨x, hx⟩ : ∃ x, l[k]? = some x := ⟨_, List.getElem?_eq_getElem hk⟩
    have hi : (k : Int) < l.length := by omega
    have w := wrap_ok ((k : Int) + 1) (by omega) (by omega)
    unfold s18.l0
    simp -implicitDefEqProofs [abin_lss, hi, inB_nat hk, hx, abin_neq, abin_add, w]) (fun k hk h => by cases h) (by simp) (by
    unfold s18.l0
    simp -implicitDefEqProofs [abin_lss]) (by simp)
  have hloop' : iterN LB (s18.l0 (evCall Tryd.prog C d 1) 1) [nums n1 l, nums n2 l, vi 0] ([] :: H) = some (.exit 0, [], [] :: H) := by simpa using hloop
  unfold lp
  simp -implicitDefEqProofs [abin_neq, hloop', bnd_eq]
def pureB (op : Int) : Bool := decide (1 ≤ op) && decide (op ≤ 8) && !decide (op = 6)
theorem pure21 {i : Ins} : evCall Tryd.prog C (d + 1) lim 21 [.agg ((iD i).map .d)] H = some (vb (pureB i.op), H) := by
  rw [evCall_pureEq (fi := fi21) rfl rfl (b21 _ _ _ _), up_data]
  unfold s21
  have hb := bx_data (r := iD i) (A := []) (H := H)
  have h0 : (iD i)[0]? = some (.int .i64 i.op) := rfl
  generalize iD i = r at *
  generalize i.op = op at *
  by_cases h : op = 1 ∨ op = 2 ∨ op = 3 ∨ op = 4 ∨ op = 7 ∨ op = 8 ∨ op = 5
  · rcases h with rfl | rfl | rfl | rfl | rfl | rfl | rfl <;> simp -implicitDefEqProofs [hb, h0, abin_eql, pureB]
  · simp only [not_or] at h
    obtain ⟨n1, n2, n3, n4, n7, n8, n5⟩ := h
    have e : pureB op = false := by
      unfold pureB
      by_cases h6 : op = 6
      · simp [h6]
      · by_cases hh : 1 ≤ op
        · have : ¬ op ≤ 8 := by omega
          simp [this]
        · simp [hh]
    simp -implicitDefEqProofs [hb, h0, abin_eql, e, n1, n2, n3, n4, n5, n7, n8]
theorem bldS_2 (x y : Int) (A : Arena) (H : Heap) : bldS 1 2 [vi 0] [(0, vi x), (1, vi y)] (A :: H) = some (.sl 0 A.length 0 2 1, (A ++ [some [vi x, vi y]]) :: H) := by kernel_rfl
theorem leave_1 (x : Int) (X : Option (List AV)) : AV.leave [X, some [vi x]] (.sl 0 1 0 1 1) = some (nums false [x]) := leave_row (c := [.int .i64 x]) rfl rfl
theorem leave_2 (x y : Int) (X : Option (List AV)) : AV.leave [X, some [vi x, vi y]] (.sl 0 1 0 2 1) = some (nums false [x, y]) := leave_row (c := [.int .i64 x, .int .i64 y]) rfl rfl
theorem outs22 {b : Blk} : ∃ nl, evCall Tryd.prog C (d + 1) lim 22 [.agg ((bD b).map .d)] H = some (nums nl (outsL b), H) := by
  rw [evCall_pureEq (fi := fi22) rfl rfl (b22 _ _ _ _), up_data]
  unfold s22
  have hb := bx_data (r := bD b) (A := []) (H := H)
  have h1 : (bD b)[1]? = some (.int .i64 b.fin) := rfl
  have h3 : (bD b)[3]? = some (.int .i64 b.to) := rfl
  have h4 : (bD b)[4]? = some (.int .i64 b.els) := rfl
  unfold outsL
  generalize bD b = r at *
  generalize b.fin = fin at *
  generalize b.to = to at *
  generalize b.els = els at *
  have c1 := bldS_onev (z := vi 0) (v := vi to) (A := [some (r.map AV.d)]) (H := H) rfl
  have c2 := bldS_2 to els [some (r.map AV.d)] H
  have l1 := leave_1 to (some (r.map AV.d))
  have l2 := leave_2 to els (some (r.map AV.d))
  simp only [List.length_cons, List.length_nil, List.cons_append, List.nil_append, Nat.zero_add] at c1 c2
  by_cases f1 : fin = 1
  · refine ⟨false, ?_⟩
    subst f1
    simp -implicitDefEqProofs [hb, h1, abin_eql, h3, c1, l1]
  · by_cases f2 : fin = 2
    · subst f2
      by_cases e : els = to
      · refine ⟨false, ?_⟩
        subst e
        simp -implicitDefEqProofs [hb, h1, abin_eql, h3, h4, c1, l1]
      · refine ⟨false, ?_⟩
        have e' : ¬ to = els := fun q => e q.symm
        simp -implicitDefEqProofs [hb, h1, abin_eql, h3, h4, c2, l2, e, e']
    · refine ⟨true, ?_⟩
      simp -implicitDefEqProofs [hb, h1, abin_eql, f1, f2]
theorem outs23 {b : Blk} : ∃ nl, evCall Tryd.prog C (d + 1) lim 23 [.agg ((bD b).map .d)] H = some (nums nl (outsL b), H) := by
  rw [evCall_pureEq (fi := fi23) rfl rfl (b23 _ _ _ _), up_data]
  unfold s23
  have hb := bx_data (r := bD b) (A := []) (H := H)
  have h1 : (bD b)[1]? = some (.int .i64 b.fin) := rfl
  have h3 : (bD b)[3]? = some (.int .i64 b.to) := rfl
  have h4 : (bD b)[4]? = some (.int .i64 b.els) := rfl
  unfold outsL
  generalize bD b = r at *
  generalize b.fin = fin at *
  generalize b.to = to at *
  generalize b.els = els at *
  have o0 : OutAt 1 [some (r.map AV.d)] (.d (.seq true 0 [])) (([] : List Int).map vi) ([] : List Int).length 1 := .nil 1
  obtain ⟨v1, A1, e1, o1, l1, k1⟩ := add1 (H := H) to o0 (by simp) (by simp)
  have c1 := bldS_onev (z := vi 0) (v := vi to) (A := [some (r.map AV.d)]) (H := H) rfl
  simp only [List.length_cons, List.length_nil, List.cons_append, List.nil_append, Nat.zero_add] at e1 c1 o1
  have g1 : A1[0]? = some (some (r.map AV.d)) := k1 0 (by decide)
  obtain ⟨v2, A2, e2, o2, l2, k2⟩ := add1 (H := H) els o1 l1 (by simp)
  have c2 := bldS_onev (z := vi 0) (v := vi els) (A := A1) (H := H) rfl
  by_cases f1 : fin = 1
  · subst f1
    obtain ⟨nl, e⟩ := fin_leave o1 (H := H)
    refine ⟨nl, ?_⟩
    simp only [true_or, if_true]
    refine Eq.trans ?_ e
    simp -implicitDefEqProofs [hb, h1, abin_eql, h3, c1, e1, getB, g1]
  · by_cases f2 : fin = 2
    · subst f2
      by_cases e : els = to
      · obtain ⟨nl, e'⟩ := fin_leave o1 (H := H)
        refine ⟨nl, ?_⟩
        simp only [or_true, if_true, e, ne_eq, not_true_eq_false, and_false, if_false, List.append_nil]
        refine Eq.trans ?_ e'
        simp -implicitDefEqProofs [hb, h1, abin_eql, h3, c1, e1, getB, g1, h4, abin_neq, e]
      · obtain ⟨nl, e'⟩ := fin_leave o2 (H := H)
        refine ⟨nl, ?_⟩
        simp only [or_true, if_true, e, ne_eq, not_false_eq_true, and_self]
        refine Eq.trans ?_ e'
        simp -implicitDefEqProofs [hb, h1, abin_eql, h3, c1, e1, getB, g1, h4, abin_neq, e, c2, e2]
    · obtain ⟨nl, e'⟩ := fin_leave o0 (H := H)
      refine ⟨nl, ?_⟩
      simp only [f1, f2, or_self, if_false, false_and, List.append_nil]
      refine Eq.trans ?_ e'
      simp -implicitDefEqProofs [hb, h1, abin_eql, f1, f2]
theorem usesL_len {i : Ins} (hn : i.args.length ≤ 12) : (usesL i).length ≤ 1000 := by
  unfold usesL
  have h1 : (if hasA i.op = true ∧ i.a ≠ -1 then [i.a] else []).length ≤ 1 := by split <;> simp
  have h2 : (if hasB i.op = true ∧ i.b ≠ -1 then [i.b] else []).length ≤ 1 := by split <;> simp
  have h3 : (if i.op = 9 then i.args.filter (· ≠ -1) else []).length ≤ 12 := by
    split
    · exact Nat.le_trans (List.length_filter_le _ _) hn
    · simp
  rw [List.length_append, List.length_append]
  omega
theorem outsL_len (b : Blk) : (outsL b).length ≤ 1000 := by
  unfold outsL
  have h1 : (if b.fin = 1 ∨ b.fin = 2 then [b.to] else []).length ≤ 1 := by split <;> simp
  have h2 : (if b.fin = 2 ∧ b.els ≠ b.to then [b.els] else []).length ≤ 1 := by split <;> simp
  rw [List.length_append]
  omega
theorem abin_eqlb (x y : Bool) : abin Tryd.prog .eql 4 (vb x) (vb y) = some (vb (x == y)) := by
  simp only [abin, eqLeaf, u4]
  rfl
theorem tells_ok {i : Ins} (hn : i.args.length ≤ 9223372036854775807) {b : Blk} : evCall Tryd.prog C (d + 100) 1 5 [.agg ((iD i).map .d), .agg ((bD b).map .d)] H = some (vb true, H) := by
  rw [evCall_pureEq (fi := fi5) rfl rfl (b5 _ _ _ _ _), up_data, up_data]
  unfold s5
  have hb := bx_data (r := iD i) (A := []) (H := H)
  have hb2 := bx_data (r := bD b) (A := [some ((iD i).map .d)]) (H := H)
  have hcut := cut_data (r := iD i) (n := 11) rfl
  have hcutb := cut_data (r := bD b) (n := 5) rfl
  have h0 : (iD i)[0]? = some (.int .i64 i.op) := rfl
  have h12 := fun H => ins17 (d := d + 98) (lim := 1) (H := H) hn
  have h7 := fun H => awake_d (d := d) (H := H)
  cases hf : insFew i with
  | false =>
    rw [hf] at h12
    generalize iD i = r at *
    generalize bD b = q at *
    simp -implicitDefEqProofs [hb, hb2, hcut, h12, h7]
  | true =>
    have h12' : i.args.length ≤ 12 := by
      unfold insFew at hf
      simp at hf
      exact hf.2
    rw [hf] at h12
    have h16 := fun H => def85 (d := d + 98) (lim := 1) (H := H) (i := i)
    have h17 := fun H => def17 (d := d + 97) (lim := 1) (H := H) (i := i)
    have h21 := fun H => pure21 (d := d + 98) (lim := 1) (H := H) (i := i)
    generalize hHH : ([some ((iD i).map AV.d), some ((bD b).map AV.d)] : Arena) :: H = HH at *
    obtain ⟨n1, h19⟩ := uses19 (d := d + 97) (lim := 1) (H := HH) h12'
    obtain ⟨n2, h20⟩ := uses20 (d := d + 97) (lim := 1) (H := HH) h12'
    obtain ⟨n3, h22⟩ := outs22 (d := d + 98) (lim := 1) (H := HH) (b := b)
    obtain ⟨n4, h23⟩ := outs23 (d := d + 98) (lim := 1) (H := HH) (b := b)
    have s1 := same18 (d := d + 98) (lim := 1) (H := HH) (n1 := n1) (n2 := n2) (usesL_len h12')
    have s2 := same18 (d := d + 98) (lim := 1) (H := HH) (n1 := n3) (n2 := n4) (outsL_len b)
    subst hHH
    have hp : ∀ op : Int, pureB op = pureB op := fun _ => rfl
    generalize nums n1 (usesL i) = U1 at *
    generalize nums n2 (usesL i) = U2 at *
    generalize nums n3 (outsL b) = U3 at *
    generalize nums n4 (outsL b) = U4 at *
    generalize (if hasD i.op then i.d else -1) = dd at *
    generalize iD i = r at *
    generalize bD b = q at *
    unfold pureB at h21
    generalize i.op = op at *
    by_cases c1 : 1 ≤ op
    · by_cases c2 : op ≤ 8
      · simp -implicitDefEqProofs [hb, hb2, hcut, hcutb, h12, h7, h0, abin_geq, abin_leq, abin_neq, c1, c2, h16, h17, h21, h19, h20, h22, h23, s1, s2, abin_eql, abin_eqlb, getB]
      · simp -implicitDefEqProofs [hb, hb2, hcut, hcutb, h12, h7, h0, abin_geq, abin_leq, abin_neq, c1, c2, h16, h17, h21, h19, h20, h22, h23, s1, s2, abin_eql, abin_eqlb, getB]
    · simp -implicitDefEqProofs [hb, hb2, hcut, hcutb, h12, h7, h0, abin_geq, abin_leq, abin_neq, c1, h16, h17, h21, h19, h20, h22, h23, s1, s2, abin_eql, abin_eqlb, getB]
end
theorem walkIrTells {ds0 ds1 : List D} {W0 : World} (hL : LT W0) {v0 v1 : Value} (h0 : DOk Tryd.prog 12 45 ds0) (h1 : DOk Tryd.prog 12 40 ds1) (hv : VRs (IW W0) G0 [.agg (ds0.map .d), .agg (ds1.map .d)] [v0, v1]) :
    Calls Tryd.prog 5 #[v0, v1] W0 (fun x W' => x = .returned (.bool true) ∧ RowKit.Below W0.heap.size W0 W') := by
  obtain ⟨i, rfl, hi, _⟩ := dok45 h0
  obtain ⟨b, rfl, _⟩ := dok40 h1
  exact calls_true fitsC follows fits5 hL (tells_ok hi (d := 0)) hv
end Go.Ev.Tryd
