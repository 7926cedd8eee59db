import Derived.Test.YtfamldpmpjdlpaaK1
set_option linter.unusedSimpArgs false
set_option linter.unusedVariables false
/- A struct is given its fields: the call. -/
namespace Go.Ev.Try
open Go Go.Ev Go.Proofs
variable {μ : Nat}

theorem ne27 (a b : Int) : abin Try.prog .neq 27 (vi a) (vi b) = some (vb (!decide (a = b))) := abin_neq _ _ _ _ _
theorem la_get0 {A : Arena} {n i : Nat} {cs : List AV} {at_ al : Int} (hn : A.length = n) : (LA A i cs at_ al)[n]? = some (some [.ptr 0 i 0]) := by subst hn; simp [LA]
theorem la_get2 {A : Arena} {n i : Nat} {cs : List AV} {at_ al : Int} (hn : A.length = n) : (LA A i cs at_ al)[n + 2]? = some (some cs) := by subst hn; simp [LA]
theorem la_get3 {A : Arena} {n i : Nat} {cs : List AV} {at_ al : Int} (hn : A.length = n) : (LA A i cs at_ al)[n + 3]? = some (some [vi at_]) := by subst hn; simp [LA]
theorem la_get4 {A : Arena} {n i : Nat} {cs : List AV} {at_ al : Int} (hn : A.length = n) : (LA A i cs at_ al)[n + 4]? = some (some [vi al]) := by subst hn; simp [LA]
theorem la_old {A : Arena} {j i : Nat} {cs : List AV} {at_ al : Int} (hj : j < A.length) : (LA A i cs at_ al)[j]? = A[j]? := List.getElem?_append_left hj
theorem la_st {lim : Nat} (hl : 0 < lim) {A : Arena} {H : Heap} {b o i : Nat} {c cs : List AV} {at_ al : Int} {x : AV} (hx : x.leaf = true) (hb : A[b]? = some (some c)) (ho : o < c.length) :
    stA 1 lim (LA A i cs at_ al :: H) (.ptr 0 b o) x = some (.undef, LA (A.set b (some (c.set o x))) i cs at_ al :: H) := by
  have hb' := (List.getElem?_eq_some_iff.1 hb).1
  rw [stA_leaf (c := c) hl hx (by rw [la_old hb', hb]; rfl) ho]
  simp only [LA, List.set_append_left _ _ hb']
/-- The same, and what the rows' block holds. -/
def LS (A : Arena) (b : Nat) (c : List AV) (i : Nat) (cs : List AV) (at_ al : Int) : Arena := LA (A.set b (some c)) i cs at_ al
theorem ls_of {A : Arena} {b : Nat} {c : List AV} {i : Nat} {cs : List AV} {at_ al : Int} (hb : A[b]? = some (some c)) : LA A i cs at_ al = LS A b c i cs at_ al := by
  obtain ⟨h1, h2⟩ := List.getElem?_eq_some_iff.1 hb
  unfold LS
  rw [← h2, List.set_getElem_self]
theorem ls_get3 {A : Arena} {b : Nat} {c : List AV} {i : Nat} {cs : List AV} {at_ al : Int} : (LS A b c i cs at_ al)[A.length + 3]? = some (some [vi at_]) := la_get3 (by simp)
theorem ls_get4 {A : Arena} {b : Nat} {c : List AV} {i : Nat} {cs : List AV} {at_ al : Int} : (LS A b c i cs at_ al)[A.length + 4]? = some (some [vi al]) := la_get4 (by simp)
theorem ls_st {lim : Nat} (hl : 0 < lim) {A : Arena} {H : Heap} {b o i : Nat} {c cs : List AV} {at_ al : Int} {x : AV} (hx : x.leaf = true) (hb : b < A.length) (ho : o < c.length) :
    stA 1 lim (LS A b c i cs at_ al :: H) (.ptr 0 b o) x = some (.undef, LS A b (c.set o x) i cs at_ al :: H) := by
  unfold LS
  rw [la_st hl hx (List.getElem?_set_self hb) ho, List.set_set]
theorem New.self (A : Arena) (b : Nat) : New A b b := .inl rfl
theorem struct_ok {d lim : Nat} {A : Arena} {H : Heap} {i b : Nat} {L : List Known} (h : Tab A i b L) (hl : 0 < lim) (hL : L.length ≤ 400) (hs : Sane L) {name : ByteArray} {nl : Bool} {fs : List Fld} (hnl : nl = true → fs = []) (hlen : fs.length < 1000000) :
    Gives (evCall Try.prog (C μ) (d + 7) lim 28 [.ptr 0 i 0, vs name, .d (fsD nl fs)] (A :: H)) (Made A H i b (structL L name fs)) := by
  rw [evCall_inEq (fi := fi28) rfl rfl (b28 _ _ _ _ _ _ _)]
  unfold s28 structL
  rw [bx_leaf (leaf_ptr _ _ _)]
  have h1 := h.app [some [.ptr 0 i 0]]
  have hnm := named_ok (μ := μ) (d := d + 3) (lim := lim) (h1.at_ H) (show L.length < 1000000 by omega) (name := name)
  have hmay := may_ok (μ := μ) (d := d) (lim := lim) (h1.at_ H) (nl := nl) (fs := fs) hlen
  have hst1 : Stay A (A ++ [some [.ptr 0 i 0]]) i b := Stay.app _ _ _ _
  simp [hnm]
  by_cases hn : namedL L name < 0
  · simp [hn]
    exact ⟨rfl, _, b, rfl, h1, .inl rfl, hst1⟩
  · have hn' : 0 ≤ namedL L name := by omega
    obtain ⟨hhas, hisn⟩ := firstL_spec (p := isNamed name) hn'
    change hasL L (namedL L name) = true at hhas
    generalize namedL L name = n at *
    obtain ⟨c, v, hc, hf, hclen, hcut, hg⟩ := h1.at0 hhas
    have hin := inB_has hhas
    have hlt := hasL_lt hhas
    have e7 : c[n.toNat * 8 + 7]? = some (vb (atL L n).opn) := by rw [hg 7 (by omega)]; rfl
    simp [hn, h1.tab, hin, hc, e7]
    cases ho : (atL L n).opn with
    | false =>
      simp
      exact ⟨rfl, _, b, rfl, h1, .inl rfl, hst1⟩
    | true =>
      simp [hmay]
      by_cases hm0 : mayL L fs = 0
      · obtain ⟨hne, hfs⟩ := may_zero hm0
        have hnl' : nl = false := by cases nl with | true => exact absurd (hnl rfl) hne | false => rfl
        subst hnl'
        have hcl := clone_ok (μ := μ) (d := d + 5) (lim := lim) (A := A ++ [some [.ptr 0 i 0]]) (H := H) hl (v := .d (fsD false fs)) (fs := fs) (nil32_d _ _ _) (fun B => by rw [fsD, elS_d (by rw [fsD_len]), fsD_map]) hne hlen
        simp [hm0, hcl]
        have hlt0 := h.lt
        have hc0 : A[b]? = some (some c) := by rw [← hc, List.getElem?_append_left hlt0.2]
        rw [stA_leaf (c := [vi 0]) hl rfl (by simp) (by simp)]
        simp
        rw [stA_leaf (c := [vi 0]) hl rfl (by simp) (by simp)]
        simp [lp, bnd_eq]
        have hloop := struct_loop (μ := μ) (d := d + 3) (H := H) h hl hs n fs.length hlen fs [] 0 1 (by simp) (fun f hf => (hfs f hf).2.2) (by omega) (by omega) (LB - (fs.length + 1))
        rw [show fs.length + 1 + (LB - (fs.length + 1)) = LB by unfold LB; omega] at hloop
        obtain ⟨r, hr, hrq⟩ := hloop
        simp [LA] at hr
        rw [hr]
        simp only [Option.bind_some]
        have hstay : ∀ B, Stay A (A ++ B) i b := fun B => Stay.app _ _ _ _
        cases hlay : layL L fs 0 1 with
        | none =>
          rw [hlay] at hrq
          obtain ⟨cs, at', al', rfl⟩ := hrq
          simp [gv]
          exact ⟨rfl, _, b, rfl, h.la _ _ _, .inl rfl, hstay _⟩
        | some x =>
          obtain ⟨own, at', al'⟩ := x
          rw [hlay] at hrq
          dsimp only at hrq
          subst hrq
          have hle := lay_le hs (fun f hf => (hfs f hf).2.2) (by omega) (by omega) hlay
          have hol := lay_len hlay
          have hup : ∀ H, evCall Try.prog (C μ) (d + 6) lim 40 [vi at', vi al'] H = some (vi (upZ at' al'), H) := fun H => up_ok (μ := μ) (d := d + 5) hle.1 (by omega) hle.2.2.1 (by omega)
          simp [gv, la_get3, la_get4, hup]
          by_cases hbig : 32768 < upZ at' al'
          · simp [hbig]
            exact ⟨rfl, _, b, rfl, h.la _ _ _, .inl rfl, hstay _⟩
          · have hk : n.toNat * 8 + 7 < c.length := by omega
            have hib : i ≠ b := h.ne
            have hLi : (LA A i (own.flatMap fcells) at' al')[i]? = some (some [.sl 0 b 0 L.length 8]) := by rw [la_old hlt0.1, h.tab]
            simp [hbig, la_get0, hLi, hin]
            rw [ls_of hc0]
            have k4 : n.toNat * 8 + 4 < c.length := by omega
            have k5 : n.toNat * 8 + 5 < c.length := by omega
            have k6 : n.toNat * 8 + 6 < c.length := by omega
            have hb : b < List.length A := hlt0.2
            simp [ls_get3, ls_get4, hup, ls_st hl, hb, k4, k5, k6, hk]
            refine ⟨rfl, _, b, rfl, ?_, .inl rfl, ?_⟩
            · have := h.fill hhas (own := own) (by intro e; rw [e] at hol; exact hne (List.eq_nil_of_length_eq_zero hol.symm)) (size := upZ at' al') (align := al') hc0 (x := A.length + 2) (by omega) (B := [some [.ptr 0 i 0], none, some (own.flatMap fcells), some [vi at'], some [vi al']]) (by simp)
              simp only [LS, LA]
              rw [hol] at this
              exact this
            · refine ⟨by simp [LS, LA], fun j hj hji hjb => ?_⟩
              rw [LS, la_old (by simpa using hj), List.getElem?_set_ne (fun e => hjb e.symm)]
      · simp [hm0]
        exact ⟨rfl, _, b, rfl, h1, .inl rfl, hst1⟩
end Go.Ev.Try

/- Fields are found; a type is told. -/
namespace Go.Ev.Try
open Go Go.Ev Go.Proofs
variable {μ : Nat}

def noF : Fld := ⟨⟨#[]⟩, 0, 0⟩
theorem fc_cut {fs : List Fld} {k : Nat} {f : Fld} (h : fs[k]? = some f) : cut (fs.flatMap fcells) (k * 3) 3 = some (fcells f) := by
  have := fsD_cut h
  rw [← fsD_map]
  have hk := (List.getElem?_eq_some_iff.1 h).1
  rw [cut_eq (by rw [fsD_len]; omega)] at this
  rw [cut_eq (by rw [List.length_map, fsD_len]; omega), ← List.map_drop, ← List.map_take, ← fD_cells]
  simp only [Option.some.injEq] at this ⊢
  rw [this]
theorem getB_app (H : Heap) (l i : Nat) : ∀ A : List Arena, getB (A ++ H) (l + A.length) i = getB H l i
  | [] => rfl
  | a :: A => by rw [List.cons_append, List.length_cons, ← Nat.add_assoc, getB_succ, getB_app H l i A]
/-- Where a type's fields can be read. -/
theorem FieldsAt.read {H : Heap} {l i b : Nat} {fs : List Fld} {v : AV} (h : FieldsAt H l i b fs v) : (fs = [] ∧ v = .d (.seq true 0 [])) ∨ ∃ x, v = .sl 0 x 0 fs.length 3 ∧ fs ≠ [] ∧ getB H l x = some (fs.flatMap fcells) ∧ ∀ (k : Nat) f, fs[k]? = some f → ∀ A : List Arena, ldA 3 (A ++ H) (.ptr (l + A.length) x (k * 3)) = some (.agg (fcells f)) := by
  rcases h with h | ⟨x, h1, _, _, h2, hne⟩
  · exact .inl h
  · refine .inr ⟨x, h1, hne, h2, fun k f hf A => ?_⟩
    rw [ldA_ptr, getB_app, h2]
    simp only [Option.bind_some, fc_cut hf, Option.map_some, fcells_up]
def findF (name : ByteArray) : List Fld → Option Fld
  | [] => none
  | f :: fs => if f.name = name then some f else findF name fs
theorem field_loop {call : ACall} {H : Heap} {name : ByteArray} {v : AV} {fs : List Fld} (hn : fs.length < 1000000) (u : List AV) (hu : u.length = 3) (hv : ∀ (k : Nat) (f : Fld), fs[k]? = some f → ∃ l x o, ixS 3 v (vi k) = some (.ptr (l + 1) x o) ∧ ldA 3 ([] :: H) (.ptr (l + 1) x o) = some (.agg (fcells f))) :
    ∀ (m k : Nat) (B : Arena), fs.length = k + m → ∀ q,
    Gives (iterN (m + 1 + q) (s18.l0 call 1) [vs name, .ptr 0 0 0, v, vi fs.length, vi k] ((some u :: B) :: H)) fun r =>
      match findF name (fs.drop k) with
      | some f => ∃ B', r = (.ret, [.ptr 0 0 0, vi 0], (some (fcells f) :: B') :: H)
      | none => ∃ B', r = (.exit 1, [.ptr 0 0 0], (some u :: B') :: H) := by
  intro m
  induction m with
  | zero =>
    intro k B hk q
    rw [show 0 + 1 + q = q + 1 by omega, List.drop_of_length_le (by omega)]
    simp only [findF]
    rw [iterN_exit (i := 1) (vals' := [.ptr 0 0 0]) (H' := (some u :: B) :: H), gives_some]
    · exact ⟨B, rfl⟩
    · unfold s18.l0
      simp [hk]
  | succ m ih =>
    intro k B hk q
    rw [show m + 1 + 1 + q = (m + 1 + q) + 1 by omega]
    obtain ⟨f, hf⟩ : ∃ f, fs[k]? = some f := ⟨_, List.getElem?_eq_getElem (by omega)⟩
    have hd : fs.drop k = f :: fs.drop (k + 1) := by rw [List.drop_eq_getElem_cons (by omega)]; congr 1; rw [List.getElem?_eq_getElem (by omega)] at hf; simpa using hf
    obtain ⟨l, x, o, h1, h2⟩ := hv k f hf
    have h2' : ∀ A : Arena, ldA 3 (A :: H) (.ptr (l + 1) x o) = some (.agg (fcells f)) := fun A => h2
    have hlt : (k : Int) < fs.length := by omega
    rw [hd]
    simp only [findF]
    have e1 : ∀ c : List AV, stA 3 1 ((some u :: (B ++ [some c])) :: H) (.ptr 0 0 0) (.agg (fcells f)) = some (.undef, (some (fcells f) :: (B ++ [some c])) :: H) := fun c => by
      rw [stA_agg (n := 3) (c := u) (by omega) (fcells_leaf f) rfl (by simp) (by omega), setMany_all _ _ (by rw [hu]; rfl)]
      rfl
    have e2 : stA 3 1 ((some u :: (B ++ [some [.d (.str ⟨#[]⟩), .d (.int .i64 0), .d (.int .i64 0)]])) :: H) (.ptr 0 (B.length + 1) 0) (.agg (fcells f)) = some (.undef, (some u :: (B ++ [some (fcells f)])) :: H) := stA_new (A := some u :: B) (by omega) (fcells_leaf f) rfl rfl
    by_cases hfn : f.name = name
    · rw [if_pos hfn]
      rw [iterN_ret (vals' := [.ptr 0 0 0, vi 0]) (H' := (some (fcells f) :: (B ++ [some (fcells f)])) :: H)]
      · simp only [gives_some]
        exact ⟨_, rfl⟩
      · unfold s18.l0
        have e3 : cut (fcells f) 0 3 = some (fcells f) := cut_all rfl
        have e4 : (fcells f)[0]? = some (vs f.name) := rfl
        simp [-ldA_ptr, hlt, h1, h2', e2, e4, hfn]
        simp [e3, e1]
    · rw [if_neg hfn]
      rw [iterN_go (vals' := [vs name, .ptr 0 0 0, v, vi fs.length, vi (k + 1 : Nat)]) (H' := (some u :: (B ++ [some (fcells f)])) :: H)]
      · exact ih (k + 1) _ (by omega) q
      · unfold s18.l0
        have e4 : (fcells f)[0]? = some (vs f.name) := rfl
        simp [-ldA_ptr, hlt, h1, h2', e2, e4, hfn]
        exact wrap_ok ((k : Int) + 1) (by omega) (by omega)
def fieldL (L : List Known) (n : Int) (name : ByteArray) : Fld × Int :=
  if hasL L n then if (atL L n).kind = 5 then match findF name (atL L n).fields with | some f => (f, 0) | none => (noF, 4) else (noF, 5) else (noF, 4)
theorem field_ok {d lim : Nat} {H : Heap} {l i : Nat} {L : List Known} (h : TabAt H l i L) (hlen : ∀ k ∈ L, k.fields.length < 1000000) {n : Int} {name : ByteArray} :
    evCall Try.prog (C μ) (d + 2) lim 18 [.ptr l i 0, vi n, vs name] H = some (.tup [.agg (fcells (fieldL L n name).1), vi (fieldL L n name).2], H) := by
  rw [evCall_pureEq (fi := fi18) rfl rfl (b18 _ _ _ _ _ _ _)]
  unfold s18 fieldL
  have hb : bld [(0, 1), (1, 1), (2, 1)] [.d (.str ⟨#[]⟩), .d (.int .i64 0), .d (.int .i64 0)] [] = some (.agg (fcells noF)) := rfl
  have hst : ∀ (u : List AV) (B : Arena), u.length = 3 → stA 3 1 ((some u :: B) :: H) (.ptr 0 0 0) (.agg (fcells noF)) = some (.undef, (some (fcells noF) :: B) :: H) := fun u B hu => by
    rw [stA_agg (n := 3) (c := u) (by omega) (fcells_leaf noF) rfl (by simp) (by omega), setMany_all _ _ (by rw [hu]; rfl)]
    rfl
  have e3 : ∀ f, cut (fcells f) 0 3 = some (fcells f) := fun f => cut_all rfl
  have hhas : ∀ A : Arena, evCall Try.prog (C μ) (d + 1) 1 33 [.ptr (l + 1) i 0, vi n] (A :: H) = some (vb (hasL L n), A :: H) := fun A => has_call (h.push A)
  simp [hhas]
  cases hn : hasL L n with
  | false => simp [hb, hst, e3, rs, rsL, one]; simp [fcells, noF]
  | true =>
    obtain ⟨b, c, v, h1, h2, h3, h4⟩ := h.at hn
    have hin := inB_has hn
    have g0 : c[n.toNat * 8]? = some (vi (atL L n).kind) := h4 0 (by omega)
    have g4 : c[n.toNat * 8 + 4]? = some v := h4 4 (by omega)
    simp [h1, hin, h2, g0]
    by_cases hk : (atL L n).kind = 5
    · simp [hk, h1, hin, h2, g4]
      have hl5 : (atL L n).fields.length < 1000000 := hlen _ (List.mem_of_getElem? (hasL_lt hn).2.2.2)
      have hlen' : lnS (AV.up (l + 1) v) = some (vi (atL L n).fields.length) := by
        rcases h3.read with ⟨e, rfl⟩ | ⟨x, rfl, _, _, _⟩
        · simp [e]
        · simp
      simp [hlen', lp, bnd_eq]
      have hloop := field_loop (call := evCall Try.prog (C μ) (d + 1) 1) (H := H) (name := name) (v := AV.up (l + 1) v) hl5 [.d (.str ⟨#[]⟩), .d (.int .i64 0), .d (.int .i64 0)] rfl (fun k f hf => by
        rcases h3.read with ⟨e, rfl⟩ | ⟨x, rfl, _, _, hx⟩
        · rw [e] at hf; simp at hf
        · have hk := (List.getElem?_eq_some_iff.1 hf).1
          refine ⟨l, x, k * 3, by simp [inB_nat hk], ?_⟩
          exact hx k f hf [[]]) (atL L n).fields.length 0 [] (by omega) (LB - ((atL L n).fields.length + 1))
      rw [show (atL L n).fields.length + 1 + (LB - ((atL L n).fields.length + 1)) = LB by unfold LB; omega] at hloop
      obtain ⟨r, hr, hrq⟩ := hloop
      simp only [Int.natCast_zero] at hr
      rw [hr]
      rw [List.drop_zero] at hrq
      cases hf : findF name (atL L n).fields with
      | some f =>
        rw [hf] at hrq
        obtain ⟨B', rfl⟩ := hrq
        simp [gv, rs, rsL, one, e3]
        simp [fcells]
      | none =>
        rw [hf] at hrq
        obtain ⟨B', rfl⟩ := hrq
        simp [gv, hb, hst, rs, rsL, one, e3]
        simp [fcells, noF]
    · simp [hk, hb, hst, e3, rs, rsL, one]
      simp [fcells, noF]
end Go.Ev.Try

/- A type is told. -/
namespace Go.Ev.Try
open Go Go.Ev Go.Proofs
variable {μ : Nat}

theorem fcs_up (l : Nat) (fs : List Fld) : (fs.flatMap fcells).map (AV.up l) = fs.flatMap fcells := by rw [← fsD_map]; simp [Function.comp_def]
def fsO (fs : List Fld) : D := fsD fs.isEmpty fs
def typeA (k : Known) : AV := .agg [vi k.kind, vi k.elem, vi k.len, vs k.name, .d (fsO k.fields)]
def noK : Known := ⟨0, 0, 0, ⟨#[]⟩, [], 0, 0, false⟩
def typeL (L : List Known) (n : Int) : Known × Int := if hasL L n then (atL L n, 0) else (noK, 4)
theorem type_ok {d lim : Nat} {H : Heap} {l i : Nat} {L : List Known} (h : TabAt H l i L) (hlen : ∀ k ∈ L, k.fields.length < 1000000) {n : Int} :
    evCall Try.prog (C μ) (d + 2) lim 20 [.ptr l i 0, vi n] H = some (.tup [typeA (typeL L n).1, vi (typeL L n).2], H) := by
  rw [evCall_pureEq (fi := fi20) rfl rfl (b20 _ _ _ _ _ _)]
  unfold s20 typeL
  have hb : bld [(0, 1), (1, 1), (2, 1), (3, 1), (4, 1)] [.d (.int .i64 0), .d (.int .i64 0), .d (.int .i64 0), .d (.str ⟨#[]⟩), .d (.seq true 0 [])] [] = some (typeA noK) := rfl
  have hhas : ∀ A : Arena, evCall Try.prog (C μ) (d + 1) 1 33 [.ptr (l + 1) i 0, vi n] (A :: H) = some (vb (hasL L n), A :: H) := fun A => has_call (h.push A)
  have hst : ∀ (u cs : List AV) (B : Arena), u.length = 5 → cs.length = 5 → cs.all AV.leaf = true → stA 5 1 ((some u :: B) :: H) (.ptr 0 0 0) (.agg cs) = some (.undef, (some cs :: B) :: H) := fun u cs B hu hc hl => by
    rw [stA_agg (n := 5) (c := u) (by omega) hl hc (by simp) (by omega), setMany_all _ _ (by omega)]
    rfl
  simp [hhas]
  cases hn : hasL L n with
  | false =>
    simp [hb, typeA]
    rw [hst _ _ _ rfl rfl (by simp [noK])]
    simp [rs, rsL, one, cut_eq]
  | true =>
    obtain ⟨b, c, v, h1, h2, h3, h4⟩ := h.at hn
    have hin := inB_has hn
    obtain ⟨c', v', h1', h2', h5', h6'⟩ : ∃ (c' : List AV) (v' : AV), getB H l b = some c' ∧ c'.length = L.length * 8 ∧ FieldsAt H l i b (atL L n).fields v' ∧ (c'.drop (n.toNat * 8)).take 8 = kcells (atL L n) v' := by
      obtain ⟨b', c', g1, g2, g3, g4⟩ := h.cell
      obtain ⟨v', g5, g6⟩ := g4 _ _ (hasL_lt hn).2.2.2
      rw [h1] at g1
      simp at g1
      subst g1
      exact ⟨c', v', g2, g3, g5, g6⟩
    rw [h2] at h1'
    simp at h1'
    subst h1'
    have hlt := hasL_lt hn
    have hcut : cut c (n.toNat * 8) 5 = some [vi (atL L n).kind, vi (atL L n).elem, vi (atL L n).len, vs (atL L n).name, v'] := by
      rw [cut_eq (by omega)]
      have : (c.drop (n.toNat * 8)).take 5 = ((c.drop (n.toNat * 8)).take 8).take 5 := by rw [List.take_take]; rfl
      rw [this, h6']
      rfl
    have hk5 : (atL L n).fields.length < 1000000 := hlen _ (List.mem_of_getElem? hlt.2.2.2)
    simp [h1, hin, h2, hcut]
    rw [stA_at (n := 5) [.d (.int .i64 0), .d (.int .i64 0), .d (.int .i64 0), .d (.str ⟨#[]⟩), .d (.seq true 0 [])] (by omega) (by simp; rw [h5'.leaf]) rfl rfl rfl]
    simp
    rcases h5'.read with ⟨e, rfl⟩ | ⟨x, rfl, he, hgx, hx⟩
    · simp [clone_nil]
      rw [stA_leaf (c := [vi (atL L n).kind, vi (atL L n).elem, vi (atL L n).len, vs (atL L n).name, .d (.seq true 0 [])]) (by omega) rfl (by simp) (by simp)]
      simp [cut_eq]
      rw [hst _ _ _ rfl rfl (by simp)]
      simp [rs, rsL, one, cut_eq, typeA, e, fsO, fsD]
    · have hcl := clone_ok (μ := μ) (d := d) (lim := 1) (A := [some [.d (.int .i64 0), .d (.int .i64 0), .d (.int .i64 0), .d (.str ⟨#[]⟩), .d (.seq true 0 [])], some [vi (atL L n).kind, vi (atL L n).elem, vi (atL L n).len, vs (atL L n).name, .sl (l + 1) x 0 (atL L n).fields.length 3]]) (H := H) (by omega) (v := .sl (l + 1) x 0 (atL L n).fields.length 3) (fs := (atL L n).fields) (nil32_sl _ _ _ _ _) (fun B => by
          simp only [elS, beq_self_eq_true, cond_true, getB_succ, hgx, Option.bind_some]
          rw [cut_all (by rw [fc_len])]
          simp [upN_eq, fcs_up]) he hk5
      simp [hcl]
      rw [stA_leaf (c := [vi (atL L n).kind, vi (atL L n).elem, vi (atL L n).len, vs (atL L n).name, .sl (l + 1) x 0 (atL L n).fields.length 3]) (by omega) rfl (by simp) (by simp)]
      simp [cut_eq]
      rw [hst _ _ _ rfl rfl (by simp)]
      have hlv : ∀ A : Arena, A[3]? = some (some ((atL L n).fields.flatMap fcells)) → AV.leave A (.sl 0 3 0 (atL L n).fields.length 3) = some (.d (fsO (atL L n).fields)) := fun A hA => by
        rw [leave_row (c := (atL L n).fields.flatMap fD) (by rw [hA, fsD_map]; rfl) (by rw [fsD_len])]
        simp [fsO, fsD, he]
      simp [rs, rsL, one, cut_eq, typeA]
      rw [hlv _ rfl]
      simp
end Go.Ev.Try

/- The reference: how it reads a list of types, told as data or in memory. -/
namespace Go.Ev.Try
open Go Go.Ev Go.Proofs
variable {μ : Nat}

def rD (k : Known) : List D := [.int .i64 k.kind, .int .i64 k.elem, .int .i64 k.len, .str k.name, fsO k.fields, .bool k.opn]
def rcells (k : Known) (v : AV) : List AV := [vi k.kind, vi k.elem, vi k.len, vs k.name, v, vb k.opn]
def rows (L : List Known) : D := .seq false L.length (L.flatMap rD)
theorem rD_len (L : List Known) : (L.flatMap rD).length = L.length * 6 := by
  induction L with
  | nil => rfl
  | cons f fs ih =>
    have : (rD f).length = 6 := rfl
    simp only [List.flatMap_cons, List.length_append, ih, List.length_cons, this]
    omega
theorem rD_drop {L : List Known} {k : Nat} {f : Known} (h : L[k]? = some f) : ((L.flatMap rD).drop (k * 6)).take 6 = rD f := by
  induction L generalizing k with
  | nil => simp at h
  | cons x L ih =>
    cases k with
    | zero =>
      simp at h
      subst h
      simp [rD]
    | succ k =>
      have := ih (k := k) (by simpa using h)
      rw [List.flatMap_cons, ← this, show (k + 1) * 6 = 6 + k * 6 by omega, ← List.drop_drop]
      congr 2
theorem rc_len {L : List Known} {vs : List AV} (h : vs.length = L.length) : ((L.zip vs).flatMap fun x => rcells x.1 x.2).length = L.length * 6 := by
  induction L generalizing vs with
  | nil => simp
  | cons x L ih =>
    cases vs with
    | nil => simp at h
    | cons v vs =>
      have := ih (vs := vs) (by simpa using h)
      have hk : (rcells x v).length = 6 := rfl
      simp only [List.zip_cons_cons, List.flatMap_cons, List.length_append, List.length_cons, this, hk]
      omega
theorem rc_drop {L : List Known} {vs : List AV} (hl : vs.length = L.length) {k : Nat} {f : Known} {v : AV} (h : L[k]? = some f) (hv : vs[k]? = some v) : (((L.zip vs).flatMap fun x => rcells x.1 x.2).drop (k * 6)).take 6 = rcells f v := by
  induction L generalizing vs k with
  | nil => simp at h
  | cons x L ih =>
    cases vs with
    | nil => simp at hl
    | cons u vs =>
      cases k with
      | zero =>
        simp at h hv
        subst h hv
        simp [rcells]
      | succ k =>
        have := ih (vs := vs) (k := k) (by simpa using hl) (by simpa using h) (by simpa using hv)
        rw [List.zip_cons_cons, List.flatMap_cons, ← this, show (k + 1) * 6 = 6 + k * 6 by omega, ← List.drop_drop]
        congr 2
/-- A value that tells fields. -/
def FV (H : Heap) (v : AV) (fs : List Fld) : Prop := v = .d (fsO fs) ∨ ∃ l x, v = .sl l x 0 fs.length 3 ∧ getB H l x = some (fs.flatMap fcells)
/-- A value that tells types. -/
def RV (H : Heap) (v : AV) (L : List Known) : Prop := v = .d (rows L) ∨ ∃ l x vs, v = .sl l x 0 L.length 6 ∧ vs.length = L.length ∧ getB H l x = some ((L.zip vs).flatMap fun x => rcells x.1 x.2) ∧
  ∀ (k : Nat) (f : Known) (u : AV), L[k]? = some f → vs[k]? = some u → FV H (u.up l) f.fields
theorem up_up (a b : Nat) (v : AV) (h : v.leaf = true) (hf : ∀ f c, v ≠ .fn f c) : (v.up a).up b = v.up (a + b) := by
  cases v <;> simp_all [AV.leaf, Nat.add_assoc]
theorem FV.push {H : Heap} {v : AV} {fs : List Fld} (h : FV H v fs) (A : Arena) : FV (A :: H) (v.up 1) fs := by
  rcases h with rfl | ⟨l, x, rfl, h⟩
  · exact .inl (by simp)
  · exact .inr ⟨l + 1, x, by simp, h⟩
theorem FV.leaf {H : Heap} {v : AV} {l : Nat} {fs : List Fld} (h : FV H (v.up l) fs) : v.leaf = true ∧ ∀ f c, v ≠ .fn f c := by
  rcases h with h | ⟨l', x, h, _⟩ <;> cases v <;> simp_all [AV.up]
theorem RV.push {H : Heap} {v : AV} {L : List Known} (h : RV H v L) (A : Arena) : RV (A :: H) (v.up 1) L := by
  rcases h with rfl | ⟨l, x, vs, rfl, h1, h2, h3⟩
  · exact .inl (by simp)
  · refine .inr ⟨l + 1, x, vs, by simp, h1, h2, fun k f u hf hu => ?_⟩
    have := (h3 k f u hf hu).push A
    rwa [up_up _ _ _ (h3 k f u hf hu).leaf.1 (h3 k f u hf hu).leaf.2] at this
theorem RV.len {H : Heap} {v : AV} {L : List Known} (h : RV H v L) : lnS v = some (vi L.length) := by
  rcases h with rfl | ⟨l, x, vs, rfl, h1, h2, h3⟩ <;> simp [rows]
theorem RV.len1 {H : Heap} {v : AV} {L : List Known} (h : RV H v L) : lnS (v.up 1) = some (vi L.length) := (h.push []).len
theorem FV.len {H : Heap} {v : AV} {fs : List Fld} (h : FV H v fs) : lnS v = some (vi fs.length) := by
  rcases h with rfl | ⟨l, x, rfl, h1⟩ <;> simp [fsO, fsD]
theorem FV.len1 {H : Heap} {v : AV} {fs : List Fld} (h : FV H v fs) : lnS (v.up 1) = some (vi fs.length) := (h.push []).len
/-- What is read at one field. -/
structure FRead (v : AV) (k : Int) (H : Heap) (f : Fld) (p : AV) (q : Nat → AV) : Prop where
  ix : ixS 3 (v.up 1) (vi k) = some p
  fa : ∀ j, fa j p = some (q j)
  c0 : ∀ A : Arena, ld (A :: H) (q 0) = some (vs f.name)
  c1 : ∀ A : Arena, ld (A :: H) (q 1) = some (vi f.type)
  all : ∀ A : Arena, ldA 3 (A :: H) p = some (.agg (fcells f))
theorem FV.read {H : Heap} {v : AV} {fs : List Fld} (h : FV H v fs) {k : Nat} {f : Fld} (hf : fs[k]? = some f) : ∃ p q, FRead v k H f p q := by
  have hk := (List.getElem?_eq_some_iff.1 hf).1
  rcases h with rfl | ⟨l, x, rfl, h⟩
  · have hc := fsD_cut hf
    have hc' := hc
    rw [cut_eq (by rw [fsD_len]; omega)] at hc
    simp only [Option.some.injEq] at hc
    have g : ∀ j, j < 3 → (fs.flatMap fD)[k * 3 + j]? = (fD f)[j]? := fun j hj => by rw [← hc, List.getElem?_take_of_lt hj, List.getElem?_drop]
    refine ⟨.dptr (fs.flatMap fD) (k * 3), fun j => .dptr (fs.flatMap fD) (k * 3 + j), by simp [fsO, fsD, inB_nat hk], fun j => by simp, fun A => ?_, fun A => ?_, fun A => ?_⟩
    · rw [ld_dptr, g 0 (by omega)]; rfl
    · rw [ld_dptr, g 1 (by omega)]; rfl
    · rw [ldA_dptr, hc']; rfl
  · have hc := fc_cut hf
    have hc' := hc
    rw [cut_eq (by rw [fc_len]; omega)] at hc
    simp only [Option.some.injEq] at hc
    have g : ∀ j, j < 3 → (fs.flatMap fcells)[k * 3 + j]? = (fcells f)[j]? := fun j hj => by rw [← hc, List.getElem?_take_of_lt hj, List.getElem?_drop]
    refine ⟨.ptr (l + 1) x (k * 3), fun j => .ptr (l + 1) x (k * 3 + j), by simp [inB_nat hk], fun j => by simp, fun A => ?_, fun A => ?_, fun A => ?_⟩
    · rw [ld_ptr, getB_succ, h, Option.bind_some, g 0 (by omega)]; rfl
    · rw [ld_ptr, getB_succ, h, Option.bind_some, g 1 (by omega)]; rfl
    · rw [ldA_ptr, getB_succ, h, Option.bind_some, hc']; rfl
/-- What is read at one type. -/
structure RRead (v : AV) (k : Int) (H : Heap) (f : Known) (p : AV) (q : Nat → AV) (u : AV) : Prop where
  ix : ixS 6 (v.up 1) (vi k) = some p
  fa : ∀ j, fa j p = some (q j)
  c0 : ∀ A : Arena, ld (A :: H) (q 0) = some (vi f.kind)
  c1 : ∀ A : Arena, ld (A :: H) (q 1) = some (vi f.elem)
  c2 : ∀ A : Arena, ld (A :: H) (q 2) = some (vi f.len)
  c3 : ∀ A : Arena, ld (A :: H) (q 3) = some (vs f.name)
  c4 : ∀ A : Arena, ld (A :: H) (q 4) = some (u.up 1)
  c5 : ∀ A : Arena, ld (A :: H) (q 5) = some (vb f.opn)
  all : ∀ A : Arena, ldA 6 (A :: H) p = some (.agg (rcells f (u.up 1)))
  fv : FV H u f.fields
theorem RV.read {H : Heap} {v : AV} {L : List Known} (h : RV H v L) {n : Int} (hn : hasL L n = true) : ∃ p q u, RRead v n H (atL L n) p q u := by
  obtain ⟨hn0, hn1, hn2, hn3⟩ := hasL_lt hn
  have hin := inB_has hn
  generalize atL L n = f at hn3 ⊢
  rcases h with rfl | ⟨l, x, vs, rfl, h1, h2, h3⟩
  · have hc := rD_drop hn3
    have g : ∀ j, j < 6 → (L.flatMap rD)[n.toNat * 6 + j]? = (rD f)[j]? := fun j hj => by rw [← hc, List.getElem?_take_of_lt hj, List.getElem?_drop]
    refine ⟨.dptr (L.flatMap rD) (n.toNat * 6), fun j => .dptr (L.flatMap rD) (n.toNat * 6 + j), .d (fsO f.fields), by simp [rows, hin], fun j => by simp, fun A => ?_, fun A => ?_, fun A => ?_, fun A => ?_, fun A => ?_, fun A => ?_, fun A => ?_, .inl rfl⟩
    · rw [ld_dptr, g 0 (by omega)]; rfl
    · rw [ld_dptr, g 1 (by omega)]; rfl
    · rw [ld_dptr, g 2 (by omega)]; rfl
    · rw [ld_dptr, g 3 (by omega)]; rfl
    · rw [ld_dptr, g 4 (by omega)]; rfl
    · rw [ld_dptr, g 5 (by omega)]; rfl
    · rw [ldA_dptr, cut_eq (by rw [rD_len]; omega), hc]; rfl
  · obtain ⟨u, hu⟩ : ∃ u, vs[n.toNat]? = some u := ⟨_, List.getElem?_eq_getElem (by omega)⟩
    have hc := rc_drop h1 hn3 hu
    have hfv := h3 _ _ _ hn3 hu
    have g : ∀ j, j < 6 → ((L.zip vs).flatMap fun x => rcells x.1 x.2)[n.toNat * 6 + j]? = (rcells f u)[j]? := fun j hj => by rw [← hc, List.getElem?_take_of_lt hj, List.getElem?_drop]
    refine ⟨.ptr (l + 1) x (n.toNat * 6), fun j => .ptr (l + 1) x (n.toNat * 6 + j), u.up l, by simp [hin], fun j => by simp, fun A => ?_, fun A => ?_, fun A => ?_, fun A => ?_, fun A => ?_, fun A => ?_, fun A => ?_, hfv⟩
    · rw [ld_ptr, getB_succ, h2, Option.bind_some, g 0 (by omega)]; rfl
    · rw [ld_ptr, getB_succ, h2, Option.bind_some, g 1 (by omega)]; rfl
    · rw [ld_ptr, getB_succ, h2, Option.bind_some, g 2 (by omega)]; rfl
    · rw [ld_ptr, getB_succ, h2, Option.bind_some, g 3 (by omega)]; rfl
    · rw [ld_ptr, getB_succ, h2, Option.bind_some, g 4 (by omega), up_up _ _ _ hfv.leaf.1 hfv.leaf.2]; rfl
    · rw [ld_ptr, getB_succ, h2, Option.bind_some, g 5 (by omega)]; rfl
    · rw [ldA_ptr, getB_succ, h2, Option.bind_some, cut_eq (by rw [rc_len h1]; omega), hc, up_up _ _ _ hfv.leaf.1 hfv.leaf.2]; rfl
theorem is_ok {d lim : Nat} {H : Heap} {v : AV} {L : List Known} (h : RV H v L) {n : Int} : evCall Try.prog (C μ) (d + 1) lim 19 [v, vi n] H = some (vb (hasL L n), H) := by
  rw [evCall_pureEq (fi := fi19) rfl rfl (b19 _ _ _ _ _ _)]
  unfold s19 hasL
  have := h.len1
  by_cases h0 : 0 ≤ n <;> simp [h0, this]
end Go.Ev.Try

/- The reference: sizes and alignments. -/
namespace Go.Ev.Try
open Go Go.Ev Go.Proofs
variable {μ : Nat}

theorem upZ_unique {n m x : Int} (h0 : 0 ≤ n) (hm : 0 < m) (hd : m ∣ x) (h1 : n ≤ x) (h2 : x < n + m) : x = upZ n m := by
  have h := upZ_ok n m h0 hm
  have : m ∣ x - upZ n m := Int.dvd_sub hd h.2.2
  have := Int.eq_zero_of_dvd_of_natAbs_lt_natAbs this (by omega)
  omega
theorem upZ_self {n m : Int} (h0 : 0 ≤ n) (hm : 0 < m) (hd : m ∣ n) : upZ n m = n := (upZ_unique h0 hm hd (Int.le_refl _) (by omega)).symm
theorem upZ_step {n m : Int} (h0 : 0 ≤ n) (hm : 0 < m) (hd : ¬ m ∣ n) : upZ (n + 1) m = upZ n m := by
  have h := upZ_ok n m h0 hm
  refine (upZ_unique (by omega) hm h.2.2 ?_ (by omega)).symm
  rcases Int.lt_or_eq_of_le h.1 with h1 | h1
  · omega
  · exact absurd (show m ∣ n by rw [h1]; exact h.2.2) hd
theorem next_ok {d lim : Nat} {H : Heap} {n m : Int} (h0 : 0 ≤ n) (h1 : n ≤ 1000000000000) (hm : 0 < m) (hm1 : m ≤ 1000000) : evCall Try.prog (C μ) (d + 1) lim 37 [vi n, vi m] H = some (vi (upZ n m), H) := by
  rw [evCall_pureEq (fi := fi37) rfl rfl (b37 _ _ _ _ _ _)]
  unfold s37
  have loop : ∀ (call : ACall) (lim : Nat) (H : Heap) (k : Nat) (n : Int), 0 ≤ n → upZ n m ≤ 2000000000000 → (upZ n m - n).toNat = k → ∀ q, iterN (k + 1 + q) (s37.l0 call lim) [vi n, vi m] H = some (.exit 0, [vi (upZ n m)], H) := by
    intro call lim H k
    induction k with
    | zero =>
      intro n h0 h1 hk q
      have h := upZ_ok n m h0 hm
      have : upZ n m = n := by omega
      have hd : m ∣ n := by rw [← this]; exact h.2.2
      rw [show 0 + 1 + q = q + 1 by omega]
      refine iterN_exit ?_
      unfold s37.l0
      simp [abin_rem _ _ _ n m (show m ≠ 0 by omega), Int.tmod_eq_zero_of_dvd hd, this]
    | succ k ih =>
      intro n h0 h1 hk q
      have h := upZ_ok n m h0 hm
      have hd : ¬ m ∣ n := fun hd => by rw [upZ_self h0 hm hd] at hk; omega
      have hst := upZ_step h0 hm hd
      rw [show k + 1 + 1 + q = (k + 1 + q) + 1 by omega]
      rw [iterN_go (vals' := [vi (n + 1), vi m]) (H' := H)]
      · have := ih (n + 1) (by omega) (by rw [hst]; omega) (by rw [hst]; omega) q
        rw [hst] at this
        exact this
      · unfold s37.l0
        have hne : n.tmod m ≠ 0 := fun e => hd (Int.dvd_of_tmod_eq_zero e)
        simp [abin_rem _ _ _ n m (show m ≠ 0 by omega), hne]
        exact wrap_ok (n + 1) (by omega) (by omega)
  have h := upZ_ok n m h0 hm
  have := loop (evCall Try.prog (C μ) d 1) 1 ([] :: H) (upZ n m - n).toNat n h0 (by omega) rfl (LB - ((upZ n m - n).toNat + 1))
  rw [show (upZ n m - n).toNat + 1 + (LB - ((upZ n m - n).toNat + 1)) = LB by unfold LB; omega] at this
  simp [lp, bnd_eq, this, gv]

/-! ### What is so of each type of a table -/
def maxA (L : List Known) : List Fld → Int → Int
  | [], a => a
  | f :: fs, a => maxA L fs (if a < alignL L f.type then alignL L f.type else a)
def endF (L : List Known) : List Fld → Int → Int
  | [], e => e
  | f :: fs, e => endF L fs (upZ e (alignL L f.type) + sizeL L f.type)
/-- `dep`: how deep a type's size is told. -/
structure GoodF (L : List Known) (dep : Nat → Nat) (d : Nat) (f : Fld) : Prop where
  dep : dep f.type.toNat < d
  size : 0 < sizeL L f.type ∧ sizeL L f.type ≤ 32768
  align : 0 < alignL L f.type ∧ alignL L f.type ≤ 4
def Good (L : List Known) (dep : Nat → Nat) (d : Nat) (k : Known) : Prop :=
  (k.kind = 0 ∧ k.size = 0 ∧ k.align = 0) ∨
  (k.opn = false ∧ k.kind = 1 ∧ k.size = 4 ∧ k.align = 4) ∨ (k.opn = false ∧ k.kind = 2 ∧ k.size = 1 ∧ k.align = 1) ∨ (k.opn = false ∧ k.kind = 3 ∧ k.size = 4 ∧ k.align = 4) ∨
  (k.opn = false ∧ k.kind = 4 ∧ (dep k.elem.toNat < d ∧ 0 < sizeL L k.elem) ∧ k.size = k.len * sizeL L k.elem ∧ k.align = alignL L k.elem ∧ 0 ≤ k.size ∧ k.size ≤ 32768) ∨
  (k.kind = 5 ∧ k.opn = true ∧ k.size = 0 ∧ k.align = 0) ∨
  (k.kind = 5 ∧ k.opn = false ∧ k.fields.length < 1000000 ∧ (∀ f ∈ k.fields, GoodF L dep d f) ∧ k.align = maxA L k.fields 1 ∧ k.size = upZ (endF L k.fields 0) k.align)
def WF (L : List Known) (dep : Nat → Nat) : Prop := ∀ (n : Nat) (k : Known), L[n]? = some k → Good L dep (dep n) k
theorem WF.at {L : List Known} {dep : Nat → Nat} (h : WF L dep) {n : Int} (hn : hasL L n = true) : Good L dep (dep n.toNat) (atL L n) := h _ _ (hasL_lt hn).2.2.2
theorem maxA_le {L : List Known} {dep : Nat → Nat} {d : Nat} : ∀ {fs : List Fld} {a : Int}, (∀ f ∈ fs, GoodF L dep d f) → 0 < a ∧ a ≤ 4 → 0 < maxA L fs a ∧ maxA L fs a ≤ 4
  | [], a, _, ha => ha
  | f :: fs, a, h, ha => by
    have := (h f (by simp)).align
    simp only [maxA]
    refine maxA_le (fun g hg => h g (by simp [hg])) ?_
    split <;> omega
theorem endF_le {L : List Known} {dep : Nat → Nat} {d : Nat} : ∀ {fs : List Fld} {e : Int}, (∀ f ∈ fs, GoodF L dep d f) → 0 ≤ e → e ≤ endF L fs e ∧ endF L fs e ≤ e + fs.length * 33000
  | [], e, _, he => by simp [endF]
  | f :: fs, e, h, he => by
    have h1 := (h f (by simp)).align
    have h2 := (h f (by simp)).size
    have h3 := upZ_ok e (alignL L f.type) he h1.1
    have h4 := endF_le (fs := fs) (e := upZ e (alignL L f.type) + sizeL L f.type) (fun g hg => h g (by simp [hg])) (by omega)
    simp only [endF, List.length_cons]
    omega

/-- Alignments, by the reference. -/
theorem alignr_ok {L : List Known} {dep : Nat → Nat} (hw : WF L dep) : ∀ (D d lim : Nat) (H : Heap) (v : AV) (n : Int), RV H v L → dep n.toNat ≤ D → D + 2 ≤ d → evCall Try.prog (C μ) d lim 24 [v, vi n] H = some (vi (alignL L n), H) := by
  intro D
  induction D using Nat.strongRecOn with
  | _ D ih =>
  intro d lim H v n hv hD hd
  obtain ⟨d, rfl⟩ : ∃ e, d = e + 2 := ⟨d - 2, by omega⟩
  rw [evCall_pureEq (fi := fi24) rfl rfl (b24 _ _ _ _ _ _)]
  unfold s24
  have his : ∀ A : Arena, evCall Try.prog (C μ) (d + 1) 1 19 [v.up 1, vi n] (A :: H) = some (vb (hasL L n), A :: H) := fun A => is_ok (hv.push A)
  simp [his]
  unfold alignL
  cases hn : hasL L n with
  | false => simp
  | true =>
    obtain ⟨p, q, u, r⟩ := hv.read hn
    have hg := hw.at hn
    simp [r.ix, r.fa, r.c0]
    rcases hg with ⟨h1, h2, h3⟩ | ⟨h0, h1, h2, h3⟩ | ⟨h0, h1, h2, h3⟩ | ⟨h0, h1, h2, h3⟩ | ⟨h0, h1, h2, h3, h4, h5⟩ | ⟨h0, h1, h2, h3⟩ | ⟨h0, h1, h2, h3, h4, h5⟩
    · simp [h1, h3]
    · simp [h1, h3, r.ix, r.fa, r.c0, r.c5, h0]
    · simp [h1, h3, r.ix, r.fa, r.c0, r.c5, h0]
    · simp [h1, h3, r.ix, r.fa, r.c0, r.c5, h0]
    · have hrec : evCall Try.prog (C μ) (d + 1) 1 24 [v.up 1, vi (atL L n).elem] ([] :: H) = some (vi (alignL L (atL L n).elem), [] :: H) := by
        by_cases hel : dep (atL L n).elem.toNat < D
        · exact ih _ hel (d + 1) 1 ([] :: H) (v.up 1) _ (hv.push []) (Nat.le_refl _) (by omega)
        · omega
      simp [h1, h4, r.ix, r.fa, r.c0, r.c1, r.c5, h0, hrec]
    · simp [h0, h1, h3, r.ix, r.fa, r.c0, r.c5]
    · have hfv := r.fv
      have loop : ∀ (rest : List Fld) (k : Nat) (a : Int), (atL L n).fields.drop k = rest → (∀ f ∈ rest, f ∈ (atL L n).fields) → ∀ q', iterN (rest.length + 1 + q') (s24.l0 (evCall Try.prog (C μ) (d + 1) 1) 1) [v.up 1, vi n, vi a, vi k] ([] :: H) = some (.exit 0, [vi (maxA L rest a)], [] :: H) := by
        intro rest
        induction rest with
        | nil =>
          intro k a hk _ q'
          rw [show ([] : List Fld).length + 1 + q' = q' + 1 by simp; omega]
          refine iterN_exit ?_
          unfold s24.l0
          have : (atL L n).fields.length ≤ k := by simpa using hk
          have : ¬ (k : Int) < (atL L n).fields.length := by omega
          simp [r.ix, r.fa, r.c4, hfv.len1, this, maxA]
        | cons f rest ihr =>
          intro k a hk hmem q'
          have hk' : k < (atL L n).fields.length := by
            rcases Nat.lt_or_ge k (atL L n).fields.length with h | h
            · exact h
            · rw [List.drop_of_length_le h] at hk; cases hk
          have hf : (atL L n).fields[k]? = some f := by
            rw [List.drop_eq_getElem_cons hk'] at hk
            rw [List.getElem?_eq_getElem hk', (List.cons.inj hk).1]
          obtain ⟨p', q2, r'⟩ := hfv.read hf
          have hgf := h3 f (hmem f (by simp))
          have hrec : evCall Try.prog (C μ) (d + 1) 1 24 [v.up 1, vi f.type] ([] :: H) = some (vi (alignL L f.type), [] :: H) :=
            ih _ (Nat.lt_of_lt_of_le hgf.dep hD) (d + 1) 1 ([] :: H) (v.up 1) _ (hv.push []) (Nat.le_refl _) (by have := hgf.dep; omega)
          rw [List.length_cons, show rest.length + 1 + 1 + q' = (rest.length + 1 + q') + 1 by omega]
          rw [iterN_go (vals' := [v.up 1, vi n, vi (if a < alignL L f.type then alignL L f.type else a), vi (k + 1 : Nat)]) (H' := [] :: H)]
          · exact ihr (k + 1) _ (by rw [← List.drop_drop, hk]; rfl) (fun g hg => hmem g (by simp [hg])) q'
          · unfold s24.l0
            have hlt : (k : Int) < (atL L n).fields.length := by omega
            have hmax : ∀ a b : Int, amax (vi a) (vi b) = some (vi (if a < b then b else a)) := fun a b => rfl
            simp [r.ix, r.fa, r.c4, hfv.len1, hlt, r'.ix, r'.fa, r'.c1, hrec, hmax]
            exact wrap_ok ((k : Int) + 1) (by omega) (by omega)
      have := loop (atL L n).fields 0 1 rfl (fun _ h => h) (LB - ((atL L n).fields.length + 1))
      rw [show (atL L n).fields.length + 1 + (LB - ((atL L n).fields.length + 1)) = LB by unfold LB; omega] at this
      simp only [Int.natCast_zero] at this
      simp [h0, h1, h4, r.ix, r.fa, r.c0, r.c5, lp, bnd_eq, this, gv]
end Go.Ev.Try

/- The reference: sizes. -/
namespace Go.Ev.Try
open Go Go.Ev Go.Proofs
variable {μ : Nat}

theorem sizer_ok {L : List Known} {dep : Nat → Nat} (hw : WF L dep) : ∀ (D d lim : Nat) (H : Heap) (v : AV) (n : Int), RV H v L → dep n.toNat ≤ D → D + 4 ≤ d → evCall Try.prog (C μ) d lim 23 [v, vi n] H = some (vi (sizeL L n), H) := by
  intro D
  induction D using Nat.strongRecOn with
  | _ D ih =>
  intro d lim H v n hv hD hd
  obtain ⟨d, rfl⟩ : ∃ e, d = e + 4 := ⟨d - 4, by omega⟩
  rw [evCall_pureEq (fi := fi23) rfl rfl (b23 _ _ _ _ _ _)]
  unfold s23
  have his : ∀ A : Arena, evCall Try.prog (C μ) (d + 3) 1 19 [v.up 1, vi n] (A :: H) = some (vb (hasL L n), A :: H) := fun A => is_ok (hv.push A)
  simp [his]
  unfold sizeL
  cases hn : hasL L n with
  | false => simp
  | true =>
    obtain ⟨p, q, u, r⟩ := hv.read hn
    have hg := hw.at hn
    have hsz : sizeL L n = (atL L n).size := by rw [sizeL, if_pos hn]
    have hal : alignL L n = (atL L n).align := by rw [alignL, if_pos hn]
    simp [r.ix, r.fa, r.c0]
    rcases hg with ⟨h1, h2, h3⟩ | ⟨h0, h1, h2, h3⟩ | ⟨h0, h1, h2, h3⟩ | ⟨h0, h1, h2, h3⟩ | ⟨h0, h1, h2, h3, h4, h5⟩ | ⟨h0, h1, h2, h3⟩ | ⟨h0, h1, h2, h3, h4, h5⟩
    · simp [h1, h2]
    · simp [h1, h2, r.ix, r.fa, r.c0, r.c5, h0]
    · simp [h1, h2, r.ix, r.fa, r.c0, r.c5, h0]
    · simp [h1, h2, r.ix, r.fa, r.c0, r.c5, h0]
    · have hrec : evCall Try.prog (C μ) (d + 3) 1 23 [v.up 1, vi (atL L n).elem] ([] :: H) = some (vi (sizeL L (atL L n).elem), [] :: H) := by
        by_cases hel : dep (atL L n).elem.toNat < D
        · exact ih _ hel (d + 3) 1 ([] :: H) (v.up 1) _ (hv.push []) (Nat.le_refl _) (by omega)
        · omega
      simp [h1, r.ix, r.fa, r.c0, r.c1, r.c2, r.c5, h0, hrec, ← h3]
      exact wrap_ok _ (by omega) (by omega)
    · simp [h0, h1, h2, r.ix, r.fa, r.c0, r.c5]
    · have hfv := r.fv
      have loop : ∀ (rest : List Fld) (k : Nat) (e : Int) (A : Arena), (atL L n).fields.drop k = rest → (∀ f ∈ rest, f ∈ (atL L n).fields) → 0 ≤ e → e + rest.length * 33000 ≤ 100000000000 → ∀ q', ∃ A', iterN (rest.length + 1 + q') (s23.l0 (evCall Try.prog (C μ) (d + 3) 1) 1) [v.up 1, vi n, vi e, vi k] (A :: H) = some (.exit 0, [v.up 1, vi n, vi (endF L rest e)], A' :: H) := by
        intro rest
        induction rest with
        | nil =>
          intro k e A hk _ h0 hb q'
          rw [show ([] : List Fld).length + 1 + q' = q' + 1 by simp; omega]
          refine ⟨A, iterN_exit ?_⟩
          unfold s23.l0
          have : (atL L n).fields.length ≤ k := by simpa using hk
          have : ¬ (k : Int) < (atL L n).fields.length := by omega
          simp [r.ix, r.fa, r.c4, hfv.len1, this, endF]
        | cons f rest ihr =>
          intro k e A hk hmem h0 hb q'
          have hk' : k < (atL L n).fields.length := by
            rcases Nat.lt_or_ge k (atL L n).fields.length with h | h
            · exact h
            · rw [List.drop_of_length_le h] at hk; cases hk
          have hf : (atL L n).fields[k]? = some f := by
            rw [List.drop_eq_getElem_cons hk'] at hk
            rw [List.getElem?_eq_getElem hk', (List.cons.inj hk).1]
          obtain ⟨p', q2, r'⟩ := hfv.read hf
          have hgf := h3 f (hmem f (by simp))
          have hdep := hgf.dep
          have hal' := hgf.align
          have hsz' := hgf.size
          have hup := upZ_ok e (alignL L f.type) h0 hal'.1
          rw [List.length_cons] at hb
          have hA : ∀ A : Arena, evCall Try.prog (C μ) (d + 3) 1 24 [v.up 1, vi f.type] (A :: H) = some (vi (alignL L f.type), A :: H) := fun A =>
            alignr_ok hw _ (d + 3) 1 (A :: H) (v.up 1) _ (hv.push A) (Nat.le_refl _) (by omega)
          have hS : ∀ A : Arena, evCall Try.prog (C μ) (d + 3) 1 23 [v.up 1, vi f.type] (A :: H) = some (vi (sizeL L f.type), A :: H) := fun A =>
            ih _ (Nat.lt_of_lt_of_le hdep hD) (d + 3) 1 (A :: H) (v.up 1) _ (hv.push A) (Nat.le_refl _) (by omega)
          have hN : ∀ A : Arena, evCall Try.prog (C μ) (d + 3) 1 37 [vi e, vi (alignL L f.type)] (A :: H) = some (vi (upZ e (alignL L f.type)), A :: H) := fun A => next_ok h0 (by omega) hal'.1 (by omega)
          rw [List.length_cons, show rest.length + 1 + 1 + q' = (rest.length + 1 + q') + 1 by omega]
          rw [iterN_go (vals' := [v.up 1, vi n, vi (upZ e (alignL L f.type) + sizeL L f.type), vi (k + 1 : Nat)]) (H' := (A ++ [some (fcells f)]) :: H)]
          · exact ihr (k + 1) _ _ (by rw [← List.drop_drop, hk]; rfl) (fun g hg => hmem g (by simp [hg])) (by omega) (by omega) q'
          · unfold s23.l0
            have hlt : (k : Int) < (atL L n).fields.length := by omega
            have hst := stA_new (A := A) (H := H) (c := [.d (.str ⟨#[]⟩), .d (.int .i64 0), .d (.int .i64 0)]) (n := 3) (show 0 < 1 by omega) (fcells_leaf f) rfl rfl
            have e1 : (fcells f)[1]? = some (vi f.type) := rfl
            simp [r.ix, r.fa, r.c4, hfv.len1, hlt, r'.ix, r'.all, hst, e1, hA, hS, hN]
            rw [wrap_ok _ (by omega) (by omega), wrap_ok ((k : Int) + 1) (by omega) (by omega)]
            simp
      have hb := endF_le h3 (show (0 : Int) ≤ 0 by omega)
      have hma := maxA_le h3 (show (0 : Int) < 1 ∧ (1 : Int) ≤ 4 by omega)
      obtain ⟨A', hl⟩ := loop (atL L n).fields 0 0 [] rfl (fun _ h => h) (Int.le_refl _) (by omega) (LB - ((atL L n).fields.length + 1))
      rw [show (atL L n).fields.length + 1 + (LB - ((atL L n).fields.length + 1)) = LB by unfold LB; omega] at hl
      simp only [Int.natCast_zero] at hl
      have hA : evCall Try.prog (C μ) (d + 3) 1 24 [v.up 1, vi n] (A' :: H) = some (vi (maxA L (atL L n).fields 1), A' :: H) := by
        rw [alignr_ok hw _ (d + 3) 1 (A' :: H) (v.up 1) _ (hv.push A') (Nat.le_refl _) (by omega), hal, h4]
      have hN : evCall Try.prog (C μ) (d + 3) 1 37 [vi (endF L (atL L n).fields 0), vi (maxA L (atL L n).fields 1)] (A' :: H) = some (vi (atL L n).size, A' :: H) := by
        rw [next_ok hb.1 (by omega) hma.1 (by omega), h5, h4]
      simp [h0, h1, r.ix, r.fa, r.c0, r.c5, lp, bnd_eq, hl, gv, hA, hN]
end Go.Ev.Try

/- The reference: names are looked up, types are made. -/
namespace Go.Ev.Try
open Go Go.Ev Go.Proofs
variable {μ : Nat}

theorem rowsRV (H : Heap) (L : List Known) : RV H (.d (rows L)) L := .inl rfl
theorem hasL_nat {L : List Known} {k : Nat} (h : k < L.length) : hasL L k = true := by simp [hasL, h]
theorem atL_nat (L : List Known) (k : Nat) : atL L k = kAt L k := rfl
theorem findr_ok {d lim : Nat} {H : Heap} {L : List Known} (hL : L.length < 1000000) {name : ByteArray} : evCall Try.prog (C μ) (d + 1) lim 17 [.d (rows L), vs name] H = some (vi (namedL L name), H) := by
  rw [evCall_pureEq (fi := fi17) rfl rfl (b17 _ _ _ _ _ _)]
  unfold s17
  have loop : ∀ (m k : Nat), L.length < k + m → k ≤ L.length → ∀ r, r = (if firstFrom (fun k => isNamed name (kAt L k)) L.length m k < 0 then ((.exit 0, [], [] :: H) : Res) else (.ret, [vi (firstFrom (fun k => isNamed name (kAt L k)) L.length m k)], [] :: H)) → ∀ q,
      iterN (m + q) (s17.l0 (evCall Try.prog (C μ) d 1) 1) [.d (rows L), vs name, vi k] ([] :: H) = some r := by
    intro m
    induction m with
    | zero => intro k h1 h2; omega
    | succ m ih =>
      intro k h1 h2 r hr q
      rw [show m + 1 + q = (m + q) + 1 by omega]
      have hlen : lnS (.d (rows L)) = some (vi L.length) := (rowsRV H L).len
      rcases Nat.lt_or_ge k L.length with hk | hk
      · obtain ⟨p, qq, u, rr⟩ := (rowsRV H L).read (hasL_nat hk)
        have hix : ixS 6 (.d (rows L)) (vi k) = some p := rr.ix
        have hlt : (k : Int) < L.length := by omega
        rw [atL_nat] at rr
        cases hp : isNamed name (kAt L k) with
        | true =>
          have : firstFrom (fun k => isNamed name (kAt L k)) L.length (m + 1) k = k := by simp [firstFrom, hk, hp]
          rw [this, if_neg (by omega)] at hr
          rw [hr]
          refine iterN_ret ?_
          unfold s17.l0
          simp [isNamed] at hp
          simp [hlen, hlt, hix, rr.fa, rr.c0, rr.c3, hp]
        | false =>
          have : firstFrom (fun k => isNamed name (kAt L k)) L.length (m + 1) k = firstFrom (fun k => isNamed name (kAt L k)) L.length m (k + 1) := by simp [firstFrom, hk, hp]
          rw [this] at hr
          refine Eq.trans (iterN_go (vals' := [.d (rows L), vs name, vi (k + 1 : Nat)]) (H' := [] :: H) ?_) (ih (k + 1) (by omega) (by omega) r hr q)
          unfold s17.l0
          simp [isNamed] at hp
          by_cases h5 : (kAt L k).kind = 5
          · simp [hlen, hlt, hix, rr.fa, rr.c0, rr.c3, h5, hp h5]
            exact wrap_ok ((k : Int) + 1) (by omega) (by omega)
          · simp [hlen, hlt, hix, rr.fa, rr.c0, rr.c3, h5]
            exact wrap_ok ((k : Int) + 1) (by omega) (by omega)
      · have : firstFrom (fun k => isNamed name (kAt L k)) L.length (m + 1) k = -1 := by simp [firstFrom, Nat.not_lt.2 hk]
        rw [this, if_pos (by omega)] at hr
        rw [hr]
        refine iterN_exit ?_
        unfold s17.l0
        simp [hlen, Nat.not_lt.2 hk]
  have h := loop (L.length + 1) 0 (by omega) (by omega) _ rfl (LB - (L.length + 1))
  rw [show L.length + 1 + (LB - (L.length + 1)) = LB by unfold LB; omega] at h
  simp only [Int.natCast_zero] at h
  simp [lp, bnd_eq, h]
  by_cases hlt : firstFrom (fun k => isNamed name (kAt L k)) L.length (L.length + 1) 0 < 0
  · rw [if_pos hlt]
    have : namedL L name = -1 := first_neg _ _ _ _ hlt
    simp [this]
  · rw [if_neg hlt]
    simp [gv, namedL, firstL]

def madeA (m : Int × Int × List Known) : AV := .agg [vi m.1, .d (rows m.2.2), vi m.2.1]
def zMade : List AV := [.d (.int .i64 0), .d (.seq true 0 []), .d (.int .i64 0)]
/-- What is put into the answer's cells. -/
theorem rD_map (L : List Known) : (L.flatMap rD).map AV.d = L.flatMap fun k => rcells k (.d (fsO k.fields)) := by
  induction L with
  | nil => rfl
  | cons f fs ih => simp only [List.flatMap_cons, List.map_append, ih]; rfl
theorem rows_ix {L : List Known} {k : Nat} (hk : k < L.length) : ixS 6 (.d (rows L)) (vi k) = some (.dptr (L.flatMap rD) (k * 6)) := by simp [rows, inB_nat hk]
theorem rows_cut {L : List Known} {k : Nat} {f : Known} (hf : L[k]? = some f) : cut (L.flatMap rD) (k * 6) 6 = some (rD f) := by
  have hk := (List.getElem?_eq_some_iff.1 hf).1
  rw [cut_eq (by rw [rD_len]; omega), rD_drop hf]
theorem rD_leaf (f : Known) : ((rD f).map AV.d).all AV.leaf = true := all_leaf_d _
theorem take_rD {L : List Known} {k : Nat} {f : Known} (hf : L[k]? = some f) : ((L.take k).flatMap rD).map AV.d ++ (rD f).map AV.d = ((L.take (k + 1)).flatMap rD).map AV.d := by
  rw [List.take_add_one, hf]
  simp
/-- Types are copied, one by one. -/
theorem copy_loop {call : ACall} {H : Heap} {L : List Known} (hL : L.length ≤ 1000000) (p0 p1 : AV) (k0 : Nat) : ∀ (m k : Nat) (A : Arena) (v : AV), L.length = k + m → OutAt k0 A v (((L.take k).flatMap rD).map .d) k 6 → k0 ≤ A.length → ∀ q,
    ∃ A' v', iterN (m + 1 + q) (s41.l1 call 1) [.d (rows L), p0, p1, v, vi k] (A :: H) = some (.exit 2, [.d (rows L), p0, p1, v'], A' :: H) ∧ OutAt k0 A' v' ((L.flatMap rD).map .d) L.length 6 ∧ k0 ≤ A'.length ∧ ∀ j, j < k0 → A'[j]? = A[j]? := by
  intro m
  induction m with
  | zero =>
    intro k A v hk ho h0 q
    rw [show 0 + 1 + q = q + 1 by omega]
    refine ⟨A, v, iterN_exit ?_, ?_, h0, fun _ _ => rfl⟩
    · unfold s41.l1
      have hlen : lnS (.d (rows L)) = some (vi L.length) := (rowsRV H L).len
      simp [hlen, show ¬ ((k : Int) < L.length) by omega]
    · rw [List.take_of_length_le (by omega)] at ho
      rw [hk]
      exact ho
  | succ m ih =>
    intro k A v hk ho h0 q
    have hk' : k < L.length := by omega
    obtain ⟨f, hf⟩ : ∃ f, L[k]? = some f := ⟨_, List.getElem?_eq_getElem hk'⟩
    obtain ⟨v', A', h1, h2, h3, h4⟩ := ho.append (H := H) (bytes := 72) (lim := 1) h0 (by omega) (rD_leaf f) rfl (by omega) (by omega)
    rw [take_rD hf] at h2
    rw [show m + 1 + 1 + q = (m + 1 + q) + 1 by omega]
    obtain ⟨A'', v'', e1, e2, e3, e4⟩ := ih (k + 1) A' v' (by omega) h2 (by omega) q
    refine ⟨A'', v'', ?_, e2, e3, fun j hj => by rw [e4 j hj, h4 j hj]⟩
    rw [iterN_go (vals' := [.d (rows L), p0, p1, v', vi (k + 1 : Nat)]) (H' := A' :: H)]
    · exact e1
    · unfold s41.l1
      have hlen : lnS (.d (rows L)) = some (vi L.length) := (rowsRV H L).len
      have hlt : (k : Int) < L.length := by omega
      have hb := bldS_one (s := 6) (z := [.d (.int .i64 0), .d (.int .i64 0), .d (.int .i64 0), .d (.str ⟨#[]⟩), .d (.seq true 0 []), .d (.bool false)]) (A := A) (H := H) rfl rfl (rD_leaf f)
      simp only [List.getD_cons_zero, List.getD_cons_succ, hlen, pu_some, abin_lss, hlt, decide_true, asB_b, cn_true, rows_ix hk', ldA_dptr, rows_cut hf, Option.map_some, hb, bi_some, h1, abin_add]
      rw [wrap_ok ((k : Int) + 1) (by omega) (by omega)]
      rfl
theorem putr_ok {d lim : Nat} {H : Heap} {L : List Known} (hL : L.length ≤ 400) {x : Known} : evCall Try.prog (C μ) (d + 1) lim 41 [.d (rows L), .agg (rcells x (.d (fsO x.fields)))] H = some (madeA (putL L x), H) := by
  rw [evCall_pureEq (fi := fi41) rfl rfl (b41 _ _ _ _ _ _)]
  unfold s41
  have hlen : lnS (.d (rows L)) = some (vi L.length) := (rowsRV H L).len
  have hxl : (rcells x (.d (fsO x.fields))).all AV.leaf = true := by simp [rcells]
  generalize hxc : rcells x (.d (fsO x.fields)) = xc at *
  have hx0 : xc[0]? = some (vi x.kind) := by rw [← hxc]; rfl
  have hx1 : xc[1]? = some (vi x.elem) := by rw [← hxc]; rfl
  have hx2 : xc[2]? = some (vi x.len) := by rw [← hxc]; rfl
  have hup : xc.map (AV.up 1) = xc := by rw [← hxc]; simp [rcells]
  have hst : ∀ (a b : AV) (B : Arena), a.leaf = true → b.leaf = true → ∀ c : AV, c.leaf = true → stA 3 1 ((some xc :: some zMade :: B) :: H) (.ptr 0 1 0) (.agg [a, b, c]) = some (.undef, (some xc :: some [a, b, c] :: B) :: H) := fun a b B ha hb c hc => by
    rw [stA_at (n := 3) zMade (by omega) (by simp [ha, hb, hc]) rfl rfl rfl]
    rfl
  have loop : ∀ (m k : Nat), L.length < k + m → k ≤ L.length → ∀ r, r = (if firstFrom (fun k => isLike x (kAt L k)) L.length m k < 0 then ((.exit 0, [.d (rows L), .ptr 0 0 0, .ptr 0 1 0], [some xc, some zMade] :: H) : Res) else
        (.ret, [.ptr 0 1 0], [some xc, some [vi (firstFrom (fun k => isLike x (kAt L k)) L.length m k), .d (rows L), vi 0]] :: H)) → ∀ q,
      iterN (m + q) (s41.l0 (evCall Try.prog (C μ) d 1) 1) [.d (rows L), .ptr 0 0 0, .ptr 0 1 0, vi k] ([some xc, some zMade] :: H) = some r := by
    intro m
    induction m with
    | zero => intro k h1 h2; omega
    | succ m ih =>
      intro k h1 h2 r hr q
      rw [show m + 1 + q = (m + q) + 1 by omega]
      rcases Nat.lt_or_ge k L.length with hk | hk
      · obtain ⟨p, qq, u, rr⟩ := (rowsRV H L).read (hasL_nat hk)
        have hix : ixS 6 (.d (rows L)) (vi k) = some p := rr.ix
        have hlt : (k : Int) < L.length := by omega
        rw [atL_nat] at rr
        have hb : ∀ n : Int, bld [(0, 1), (1, 1), (2, 1)] [.d (.int .i64 0), .d (.seq true 0 []), .d (.int .i64 0)] [(0, vi n), (1, .d (rows L))] = some (.agg [vi n, .d (rows L), vi 0]) := fun n => rfl
        have hst' := hst (vi k) (.d (rows L)) [] rfl rfl (vi 0) rfl
        cases hp : isLike x (kAt L k) with
        | true =>
          have : firstFrom (fun k => isLike x (kAt L k)) L.length (m + 1) k = k := by simp [firstFrom, hk, hp]
          rw [this, if_neg (by omega)] at hr
          rw [hr]
          refine iterN_ret ?_
          unfold s41.l0
          simp [isLike] at hp
          simp [hlen, hlt, hix, rr.fa, rr.c0, rr.c1, rr.c2, hp, hx0, hx1, hx2, hb, hst']
        | false =>
          have : firstFrom (fun k => isLike x (kAt L k)) L.length (m + 1) k = firstFrom (fun k => isLike x (kAt L k)) L.length m (k + 1) := by simp [firstFrom, hk, hp]
          rw [this] at hr
          refine Eq.trans (iterN_go (vals' := [.d (rows L), .ptr 0 0 0, .ptr 0 1 0, vi (k + 1 : Nat)]) (H' := [some xc, some zMade] :: H) ?_) (ih (k + 1) (by omega) (by omega) r hr q)
          unfold s41.l0
          simp [isLike] at hp
          have hw : IntKind.i64.wrap ((k : Int) + 1) = (k : Int) + 1 := wrap_ok ((k : Int) + 1) (by omega) (by omega)
          by_cases h0 : (kAt L k).kind = x.kind
          · by_cases h1 : (kAt L k).elem = x.elem
            · by_cases h2 : (kAt L k).len = x.len
              · simp [hlen, hlt, hix, rr.fa, rr.c0, rr.c1, rr.c2, hx0, hx1, hx2, h0, h1, h2, hp h0 h1 h2, hw]
              · simp [hlen, hlt, hix, rr.fa, rr.c0, rr.c1, rr.c2, hx0, hx1, hx2, h0, h1, h2, hw]
            · simp [hlen, hlt, hix, rr.fa, rr.c0, rr.c1, rr.c2, hx0, hx1, hx2, h0, h1, hw]
          · simp [hlen, hlt, hix, rr.fa, rr.c0, rr.c1, rr.c2, hx0, hx1, hx2, h0, hw]
      · have : firstFrom (fun k => isLike x (kAt L k)) L.length (m + 1) k = -1 := by simp [firstFrom, Nat.not_lt.2 hk]
        rw [this, if_pos (by omega)] at hr
        rw [hr]
        refine iterN_exit ?_
        unfold s41.l0
        simp [hlen, Nat.not_lt.2 hk]
  have h := loop (L.length + 1) 0 (by omega) (by omega) _ rfl (LB - (L.length + 1))
  rw [show L.length + 1 + (LB - (L.length + 1)) = LB by unfold LB; omega] at h
  simp only [Int.natCast_zero] at h
  simp only [AV.upL, AV.up, upL_eq, hup, bx_agg hxl]
  simp only [zMade] at h hst
  simp [lp, bnd_eq, h]
  unfold putL
  rw [show firstL (isLike x) L = firstFrom (fun k => isLike x (kAt L k)) L.length (L.length + 1) 0 from rfl]
  by_cases hlt : firstFrom (fun k => isLike x (kAt L k)) L.length (L.length + 1) 0 < 0
  · rw [if_pos hlt, if_neg (by omega)]
    simp [hlen]
    by_cases h4 : 400 ≤ L.length
    · have h4' : (400 : Int) ≤ L.length := by omega
      have hb : bld [(0, 1), (1, 1), (2, 1)] [.d (.int .i64 0), .d (.seq true 0 []), .d (.int .i64 0)] [(1, .d (rows L)), (2, .d (.int .i64 8))] = some (.agg [vi 0, .d (rows L), vi 8]) := rfl
      simp [h4, h4', gv, hlen, hb, hst, rs, rsL, one, cut_eq, madeA]
    · have h4' : ¬ (400 : Int) ≤ L.length := by omega
      simp [h4, h4', gv, hlen]
      obtain ⟨A', v', e1, e2, e3, e4⟩ := copy_loop (call := evCall Try.prog (C μ) d 1) (H := H) (L := L) (by omega) (.ptr 0 0 0) (.ptr 0 1 0) 2 L.length 0 [some xc, some zMade] (.d (.seq true 0 [])) (by omega) (.nil _) (by simp) (LB - (L.length + 1))
      rw [show L.length + 1 + (LB - (L.length + 1)) = LB by unfold LB; omega] at e1
      simp only [Int.natCast_zero, zMade] at e1
      have g0 : A'[0]? = some (some xc) := by rw [e4 0 (by omega)]; rfl
      have g1 : A'[1]? = some (some zMade) := by rw [e4 1 (by omega)]; rfl
      have hx6 : xc.length = 6 := by rw [← hxc]; rfl
      simp [e1, g0, cut_all hx6.symm]
      rw [bldS_one (s := 6) rfl hx6 hxl]
      obtain ⟨v2, A2, f1, f2, f3, f4⟩ := e2.append (H := H) (bytes := 72) (lim := 1) e3 (by omega) hxl hx6 (by omega) (by omega)
      have hxD : (L.flatMap rD).map AV.d ++ xc = ((L ++ [x]).flatMap rD).map AV.d := by
        rw [← hxc]
        simp [rD, rcells]
      rw [hxD] at f2
      have g2 : A2[1]? = some (some zMade) := by rw [f4 1 (by omega), g1]
      obtain ⟨b2, rfl, hb2, hA2, hl2⟩ := f2.sl (by omega)
      simp [f1]
      have hb : bld [(0, 1), (1, 1), (2, 1)] [.d (.int .i64 0), .d (.seq true 0 []), .d (.int .i64 0)] [(0, vi L.length), (1, .sl 0 b2 0 (L.length + 1) 6)] = some (.agg [vi L.length, .sl 0 b2 0 (L.length + 1) 6, vi 0]) := rfl
      simp [hlen, hb]
      rw [stA_at (n := 3) zMade (by omega) (by simp) rfl rfl (by rw [g2]; rfl)]
      have hlt2 : 1 < List.length A2 := (List.getElem?_eq_some_iff.1 g2).1
      have hlv : ∀ A : Arena, A[b2]? = A2[b2]? → AV.leave A (.sl 0 b2 0 (L.length + 1) 6) = some (.d (rows (L ++ [x]))) := fun A hA => by
        rw [leave_row (c := (L ++ [x]).flatMap rD) (by rw [hA, hA2]; rfl) (by simpa using hl2)]
        simp [rows]
      simp [rs, rsL, one, List.getElem?_set_self hlt2, cut_eq, madeA]
      rw [hlv _ (by rw [List.getElem?_set_ne (by omega)])]
      simp
  · rw [if_neg hlt, if_pos (by omega)]
    simp [gv, rs, rsL, one, cut_eq, madeA]
end Go.Ev.Try

/- The reference: pointers, arrays and open structs are made. -/
namespace Go.Ev.Try
open Go Go.Ev Go.Proofs
variable {μ : Nat}

/-- The answer's cells, laid and told. -/
theorem bldM (n : Int) (x : D) (e : Int) : bld [(0, 1), (1, 1), (2, 1)] [.d (.int .i64 0), .d (.seq true 0 []), .d (.int .i64 0)] [(1, .d x), (2, vi e)] = some (.agg [vi 0, .d x, vi e]) := rfl
theorem stM {H : Heap} {a : Int} {x : D} {e : Int} : stA 3 1 (([some [.d (.int .i64 0), .d (.seq true 0 []), .d (.int .i64 0)]]) :: H) (.ptr 0 0 0) (.agg [vi a, .d x, vi e]) = some (.undef, [some [vi a, .d x, vi e]] :: H) := rfl
theorem ptrr_ok {d lim : Nat} {H : Heap} {L : List Known} (hL : L.length ≤ 400) {n : Int} : evCall Try.prog (C μ) (d + 2) lim 29 [.d (rows L), vi n] H = some (madeA (ptrL L n), H) := by
  rw [evCall_pureEq (fi := fi29) rfl rfl (b29 _ _ _ _ _ _)]
  unfold s29 ptrL
  have his : ∀ A : Arena, evCall Try.prog (C μ) (d + 1) 1 19 [.d (rows L), vi n] (A :: H) = some (vb (hasL L n), A :: H) := fun A => is_ok (rowsRV (A :: H) L)
  have hput := fun H => putr_ok (μ := μ) (d := d) (lim := 1) (H := H) hL (x := kn 3 n 0 4 4)
  simp only [kn, rcells, fsO, fsD, List.isEmpty_nil, List.length_nil, List.flatMap_nil] at hput
  simp [his]
  cases hn : hasL L n with
  | false => simp [bldM 0, stM, rs, rsL, one, cut_eq, madeA]
  | true =>
    simp [bld, afill, acells, setMany, hput, madeA, stM, rs, rsL, one, cut_eq]
    simp [kn]
theorem arrayr_ok {L : List Known} {dep : Nat → Nat} (hw : WF L dep) {D d lim : Nat} {H : Heap} (hL : L.length ≤ 400) {n long : Int} (hs : 0 ≤ sizeL L n ∧ sizeL L n ≤ 32768) (hD : hasL L n = true → dep n.toNat ≤ D) (hd : D + 5 ≤ d) :
    evCall Try.prog (C μ) d lim 30 [.d (rows L), vi n, vi long] H = some (madeA (arrayL L n long), H) := by
  obtain ⟨d, rfl⟩ : ∃ e, d = e + 2 := ⟨d - 2, by omega⟩
  rw [evCall_pureEq (fi := fi30) rfl rfl (b30 _ _ _ _ _ _ _)]
  unfold s30 arrayL
  have his : ∀ A : Arena, evCall Try.prog (C μ) (d + 1) 1 19 [.d (rows L), vi n] (A :: H) = some (vb (hasL L n), A :: H) := fun A => is_ok (rowsRV (A :: H) L)
  have hput := fun H => putr_ok (μ := μ) (d := d) (lim := 1) (H := H) hL (x := kn 4 n long (IntKind.i64.wrap (long * sizeL L n)) (alignL L n))
  simp only [kn, rcells, fsO, fsD, List.isEmpty_nil, List.length_nil, List.flatMap_nil] at hput
  simp [his]
  cases hn : hasL L n with
  | false => simp [bldM 0, stM, rs, rsL, one, cut_eq, madeA]
  | true =>
    have hsz : ∀ A : Arena, evCall Try.prog (C μ) (d + 1) 1 23 [.d (rows L), vi n] (A :: H) = some (vi (sizeL L n), A :: H) := fun A => sizer_ok hw D (d + 1) 1 (A :: H) _ n (rowsRV _ _) (hD hn) (by omega)
    simp [hsz]
    by_cases h0 : sizeL L n = 0
    · simp [h0, bldM 0, stM, rs, rsL, one, cut_eq, madeA]
    · simp [h0]
      by_cases h1 : long < 1
      · simp [h1, bldM 0, stM, rs, rsL, one, cut_eq, madeA]
      · have hdiv : (32768 : Int).tdiv (sizeL L n) < long ↔ 32768 < long * sizeL L n := by
          rw [Int.tdiv_eq_ediv_of_nonneg (by omega)]
          exact Int.ediv_lt_iff_lt_mul (by omega)
        simp only [hdiv]
        by_cases h2 : (32768 : Int) < long
        · have h3 : 32768 < long * sizeL L n := by
            have : long * 1 ≤ long * sizeL L n := Int.mul_le_mul_of_nonneg_left (by omega) (by omega)
            omega
          simp [h1, h2, h3, bldM 0, stM, rs, rsL, one, cut_eq, madeA]
        · have hm : 0 ≤ long * sizeL L n := Int.mul_nonneg (by omega) (by omega)
          have hm2 : long * sizeL L n ≤ 32768 * 32768 := Int.mul_le_mul (by omega) hs.2 hs.1 (by omega)
          by_cases h3 : 32768 < long * sizeL L n
          · simp [h1, h2, h3, bldM 0, stM, rs, rsL, one, cut_eq, madeA, wrap_ok (long * sizeL L n) (by omega) (by omega)]
          · rw [wrap_ok (long * sizeL L n) (by omega) (by omega)] at hput ⊢
            simp [h1, h2, h3, wrap_ok (long * sizeL L n) (by omega) (by omega)]
            simp [bld, afill, acells, setMany, hput, madeA, stM, rs, rsL, one, cut_eq]
            simp [kn]
theorem openr_ok {d lim : Nat} {H : Heap} {L : List Known} (hL : L.length ≤ 400) {name : ByteArray} : evCall Try.prog (C μ) (d + 2) lim 31 [.d (rows L), vs name] H = some (madeA (openL L name), H) := by
  rw [evCall_pureEq (fi := fi31) rfl rfl (b31 _ _ _ _ _ _)]
  unfold s31 openL
  have hput := fun H => putr_ok (μ := μ) (d := d) (lim := 1) (H := H) hL (x := opn name)
  simp only [opn, rcells, fsO, fsD, List.isEmpty_nil, List.length_nil, List.flatMap_nil] at hput
  have hfind := fun H => findr_ok (μ := μ) (d := d) (lim := 1) (H := H) (L := L) (by omega) (name := name)
  by_cases h0 : name = ⟨#[]⟩
  · simp [h0, bldM 0, stM, rs, rsL, one, cut_eq, madeA]
  · simp [h0, hfind]
    by_cases h1 : 0 ≤ namedL L name
    · simp [h1, bldM 0, stM, rs, rsL, one, cut_eq, madeA]
    · simp [h1, bld, afill, acells, setMany, hput, madeA, stM, rs, rsL, one, cut_eq]
      simp [opn]
end Go.Ev.Try

/- The reference: what hinders fields. -/
namespace Go.Ev.Try
open Go Go.Ev Go.Proofs
variable {μ : Nat}

theorem any_range {fs : List Fld} (p : Fld → Bool) : (List.range fs.length).any (fun k => p (fAt fs k)) = fs.any p := by
  rw [Bool.eq_iff_iff, List.any_eq_true, List.any_eq_true]
  constructor
  · rintro ⟨k, hk, h⟩
    have hk' : k < fs.length := by simpa using hk
    exact ⟨fs[k], by simp, by simpa [fAt, hk'] using h⟩
  · rintro ⟨f, hf, h⟩
    obtain ⟨k, hk, rfl⟩ := List.mem_iff_getElem.1 hf
    exact ⟨k, by simpa using hk, by simpa [fAt, hk] using h⟩
theorem fAt_some {fs : List Fld} {k : Nat} (hk : k < fs.length) : fs[k]? = some (fAt fs k) := by simp [fAt, hk]
theorem wrap_succ {k : Nat} (h : k < 1000000000) : IntKind.i64.wrap ((k : Int) + 1) = ((k + 1 : Nat) : Int) := by rw [wrap_ok ((k : Int) + 1) (by omega) (by omega)]; simp
theorem mayr_ok {L : List Known} {dep : Nat → Nat} (hw : WF L dep) {D d lim : Nat} {H : Heap} {v : AV} {fs : List Fld} (hv : FV H v fs) (hlen : fs.length < 1000000) (hD : ∀ n : Int, hasL L n = true → dep n.toNat ≤ D) (hd : D + 5 ≤ d) :
    evCall Try.prog (C μ) d lim 42 [.d (rows L), v] H = some (vi (mayL L fs), H) := by
  obtain ⟨d, rfl⟩ : ∃ e, d = e + 2 := ⟨d - 2, by omega⟩
  rw [evCall_pureEq (fi := fi42) rfl rfl (b42 _ _ _ _ _ _)]
  unfold s42
  have hln := hv.len1
  have his : ∀ n : Int, evCall Try.prog (C μ) (d + 1) 1 19 [.d (rows L), vi n] ([] :: H) = some (vb (hasL L n), [] :: H) := fun n => is_ok (rowsRV _ L)
  have hsz : ∀ n : Int, hasL L n = true → evCall Try.prog (C μ) (d + 1) 1 23 [.d (rows L), vi n] ([] :: H) = some (vi (sizeL L n), [] :: H) := fun n hn => sizer_ok hw D (d + 1) 1 ([] :: H) _ n (rowsRV _ _) (hD n hn) (by omega)
  have hl0 := iter_any (F := s42.l0 (evCall Try.prog (C μ) (d + 1) 1) 1) (H := [] :: H) (n := fs.length) (fun k => [.d (rows L), v.up 1, vi k]) (fun k => decide ((fAt fs k).name = ⟨#[]⟩)) (rv := (.ret, [vi 1], [] :: H)) (ex := (.exit 0, [.d (rows L), v.up 1], [] :: H)) (by omega)
    (fun k hk hp => by
      obtain ⟨p', q, r⟩ := hv.read (fAt_some hk)
      unfold s42.l0
      simp at hp
      simp [hln, hk, r.ix, r.fa, r.c0, hp, wrap_succ (show k < 1000000000 by omega)])
    (fun k hk hp => by
      obtain ⟨p', q, r⟩ := hv.read (fAt_some hk)
      unfold s42.l0
      simp at hp
      simp [hln, hk, r.ix, r.fa, r.c0, hp]) (by simp) (by unfold s42.l0; simp [hln]) (by simp)
  have hl1 := iter_any (F := s42.l1 (evCall Try.prog (C μ) (d + 1) 1) 1) (H := [] :: H) (n := fs.length) (fun k => [.d (rows L), v.up 1, vi k]) (fun k => !hasL L (fAt fs k).type) (rv := (.ret, [vi 4], [] :: H)) (ex := (.exit 2, [.d (rows L), v.up 1], [] :: H)) (by omega)
    (fun k hk hp => by
      obtain ⟨p', q, r⟩ := hv.read (fAt_some hk)
      unfold s42.l1
      simp at hp
      simp [hln, hk, r.ix, r.fa, r.c1, his, hp, wrap_succ (show k < 1000000000 by omega)])
    (fun k hk hp => by
      obtain ⟨p', q, r⟩ := hv.read (fAt_some hk)
      unfold s42.l1
      simp at hp
      simp [hln, hk, r.ix, r.fa, r.c1, his, hp]) (by simp) (by unfold s42.l1; simp [hln]) (by simp)
  rw [any_range (fun f => decide (f.name = ⟨#[]⟩))] at hl0
  rw [any_range (fun f => !hasL L f.type)] at hl1
  unfold mayL
  generalize hb1 : (fs.any fun f => decide (f.name = ⟨#[]⟩)) = b1 at *
  generalize hb2 : (fs.any fun f => !hasL L f.type) = b2 at *
  generalize hb3 : (fs.any fun f => decide (sizeL L f.type = 0)) = b3 at *
  by_cases h0 : fs = []
  · subst h0
    simp at hln
    simp [hln]
  · have h0' : ¬ fs.length = 0 := fun e => h0 (List.eq_nil_of_length_eq_zero e)
    simp only [Int.natCast_zero] at hl0 hl1
    simp [hln, h0, lp, bnd_eq, hl0]
    cases b1 with
    | true => simp [gv]
    | false =>
      simp [gv, hl1]
      cases b2 with
      | true => simp [gv]
      | false =>
        simp at hb2
        have hl2 := iter_any (F := s42.l2 (evCall Try.prog (C μ) (d + 1) 1) 1) (H := [] :: H) (n := fs.length) (fun k => [.d (rows L), v.up 1, vi k]) (fun k => decide (sizeL L (fAt fs k).type = 0)) (rv := (.ret, [vi 5], [] :: H)) (ex := (.exit 4, [v.up 1], [] :: H)) (by omega)
          (fun k hk hp => by
            obtain ⟨p', q, r⟩ := hv.read (fAt_some hk)
            unfold s42.l2
            simp at hp
            simp [hln, hk, r.ix, r.fa, r.c1, hsz _ (hb2 _ (List.mem_of_getElem? (fAt_some hk))), hp, wrap_succ (show k < 1000000000 by omega)])
          (fun k hk hp => by
            obtain ⟨p', q, r⟩ := hv.read (fAt_some hk)
            unfold s42.l2
            simp at hp
            simp [hln, hk, r.ix, r.fa, r.c1, hsz _ (hb2 _ (List.mem_of_getElem? (fAt_some hk))), hp]) (by simp) (by unfold s42.l2; simp [hln]) (by simp)
        rw [any_range (fun f => decide (sizeL L f.type = 0)), hb3] at hl2
        simp only [Int.natCast_zero] at hl2
        simp [gv, hl2]
        cases b3 with
        | true => simp [gv]
        | false =>
          have hl3 : ∀ i, i < fs.length → iterN LB (s42.l3 (evCall Try.prog (C μ) (d + 1) 1) 1) [v.up 1, vi i, vi 0] ([] :: H) = some (if dupAt fs i then (.ret, [vi 6], [] :: H) else (.exit 8, [v.up 1, vi i], [] :: H)) := fun i hi => by
            have := iter_any (F := s42.l3 (evCall Try.prog (C μ) (d + 1) 1) 1) (H := [] :: H) (n := i) (fun k => [v.up 1, vi i, vi k]) (fun k => decide ((fAt fs k).name = (fAt fs i).name)) (rv := (.ret, [vi 6], [] :: H)) (ex := (.exit 8, [v.up 1, vi i], [] :: H)) (by omega)
              (fun k hk hp => by
                obtain ⟨p', q, r⟩ := hv.read (fAt_some (show k < fs.length by omega))
                obtain ⟨p2, q2, r2⟩ := hv.read (fAt_some hi)
                unfold s42.l3
                simp at hp
                simp [hk, r.ix, r.fa, r.c0, r2.ix, r2.fa, r2.c0, hp, wrap_succ (show k < 1000000000 by omega)])
              (fun k hk hp => by
                obtain ⟨p', q, r⟩ := hv.read (fAt_some (show k < fs.length by omega))
                obtain ⟨p2, q2, r2⟩ := hv.read (fAt_some hi)
                unfold s42.l3
                simp at hp
                simp [hk, r.ix, r.fa, r.c0, r2.ix, r2.fa, r2.c0, hp]) (by simp) (by unfold s42.l3; simp) (by simp)
            have e : (List.range i).any (fun k => decide ((fAt fs k).name = (fAt fs i).name)) = dupAt fs i := by
              unfold dupAt
              rw [← any_range (fs := fs.take i)]
              rw [List.length_take, Nat.min_eq_left (by omega)]
              rw [Bool.eq_iff_iff]
              simp only [List.any_eq_true, List.mem_range]
              constructor <;> rintro ⟨k, hk, h⟩ <;> refine ⟨k, hk, ?_⟩ <;> simpa [fAt, hk, show k < fs.length by omega] using h
            rw [e] at this
            exact this
          have hl4 := iter_any (F := s42.l4 (evCall Try.prog (C μ) (d + 1) 1) 1) (H := [] :: H) (n := fs.length) (fun k => [v.up 1, vi k]) (fun k => dupAt fs k) (rv := (.ret, [vi 6], [] :: H)) (ex := (.exit 6, [], [] :: H)) (by omega)
            (fun k hk hp => by
              have := hl3 k hk
              rw [hp] at this
              unfold s42.l4
              simp at this
              simp [hln, hk, lp, bnd_eq, this, gv, wrap_succ (show k < 1000000000 by omega)])
            (fun k hk hp => by
              have := hl3 k hk
              rw [hp] at this
              unfold s42.l4
              simp at this
              simp [hln, hk, lp, bnd_eq, this, gv]) (by simp) (by unfold s42.l4; simp [hln]) (by simp)
          rw [show (List.range fs.length).any (fun k => dupAt fs k) = dupL fs from rfl] at hl4
          simp only [Int.natCast_zero] at hl4
          simp [gv, hl4]
          cases dupL fs with
          | true => simp [gv]
          | false => simp [gv]
end Go.Ev.Try

/- What is so of a table stays so. -/
namespace Go.Ev.Try
open Go Go.Ev Go.Proofs

theorem maxA_congr {L L' : List Known} : ∀ {fs : List Fld} {a : Int}, (∀ f ∈ fs, alignL L' f.type = alignL L f.type) → maxA L' fs a = maxA L fs a
  | [], a, _ => rfl
  | f :: fs, a, h => by
    simp only [maxA, h f (by simp)]
    exact maxA_congr (fun g hg => h g (by simp [hg]))
theorem endF_congr {L L' : List Known} : ∀ {fs : List Fld} {e : Int}, (∀ f ∈ fs, alignL L' f.type = alignL L f.type ∧ sizeL L' f.type = sizeL L f.type) → endF L' fs e = endF L fs e
  | [], e, _ => rfl
  | f :: fs, e, h => by
    simp only [endF, (h f (by simp)).1, (h f (by simp)).2]
    exact endF_congr (fun g hg => h g (by simp [hg]))
theorem Good.mono {L L' : List Known} {dep dep' : Nat → Nat} {d : Nat} {k : Known} (hm : ∀ m, 0 < sizeL L m → sizeL L' m = sizeL L m ∧ alignL L' m = alignL L m ∧ dep' m.toNat = dep m.toNat) (h : Good L dep d k) : Good L' dep' d k := by
  rcases h with h | h | h | h | ⟨h0, h1, h2, h3, h4, h5⟩ | h | ⟨h0, h1, h2, h3, h4, h5⟩
  · exact .inl h
  · exact .inr (.inl h)
  · exact .inr (.inr (.inl h))
  · exact .inr (.inr (.inr (.inl h)))
  · obtain ⟨e1, e2, e3⟩ := hm _ h2.2
    exact .inr (.inr (.inr (.inr (.inl ⟨h0, h1, ⟨by rw [e3]; exact h2.1, by rw [e1]; exact h2.2⟩, by rw [e1]; exact h3, by rw [e2]; exact h4, h5⟩))))
  · exact .inr (.inr (.inr (.inr (.inr (.inl h)))))
  · refine .inr (.inr (.inr (.inr (.inr (.inr ⟨h0, h1, h2, fun f hf => ?_, ?_, ?_⟩)))))
    · have g := h3 f hf
      obtain ⟨e1, e2, e3⟩ := hm _ g.size.1
      exact ⟨by rw [e3]; exact g.dep, by rw [e1]; exact g.size, by rw [e2]; exact g.align⟩
    · rw [h4, maxA_congr fun f hf => (hm _ (h3 f hf).size.1).2.1]
    · rw [h5, endF_congr fun f hf => ⟨(hm _ (h3 f hf).size.1).2.1, (hm _ (h3 f hf).size.1).1⟩]
def depSet (dep : Nat → Nat) (i d : Nat) : Nat → Nat := fun n => if n = i then d else dep n
theorem depSet_self (dep : Nat → Nat) (i d : Nat) : depSet dep i d i = d := by simp [depSet]
theorem depSet_ne (dep : Nat → Nat) {i d n : Nat} (h : n ≠ i) : depSet dep i d n = dep n := by simp [depSet, h]
theorem has_pos {L : List Known} {m : Int} (h : 0 < sizeL L m) : hasL L m = true := by
  unfold sizeL at h
  split at h
  · assumption
  · omega
theorem has_app {L : List Known} {m : Int} (h : hasL L m = true) (x : Known) : hasL (L ++ [x]) m = true ∧ atL (L ++ [x]) m = atL L m := by
  obtain ⟨h0, h1, h2, h3⟩ := hasL_lt h
  refine ⟨by simp [hasL]; omega, ?_⟩
  unfold atL
  rw [List.getD_eq_getElem?_getD, List.getElem?_append_left h2, List.getD_eq_getElem?_getD]
theorem WF.push {L : List Known} {dep : Nat → Nat} (h : WF L dep) {d : Nat} {x : Known} (hx : Good L dep d x) : WF (L ++ [x]) (depSet dep L.length d) := by
  have hm : ∀ m, 0 < sizeL L m → sizeL (L ++ [x]) m = sizeL L m ∧ alignL (L ++ [x]) m = alignL L m ∧ depSet dep L.length d m.toNat = dep m.toNat := fun m hm => by
    have hh := has_pos hm
    have ha := has_app hh x
    have := hasL_lt hh
    exact ⟨by simp [sizeL, hh, ha], by simp [alignL, hh, ha], depSet_ne dep (by omega)⟩
  intro n k hk
  rw [List.getElem?_append] at hk
  split at hk
  · rename_i hn
    rw [depSet_ne dep (by omega)]
    exact (h n k hk).mono hm
  · rename_i hn
    have : n = L.length := by
      have := (List.getElem?_eq_some_iff.1 hk).1
      simp at this
      omega
    subst this
    simp at hk
    subst hk
    rw [depSet_self]
    exact hx.mono hm
theorem has_fill {L : List Known} {n : Int} {own : List Fld} {s a : Int} {m : Int} : hasL (fillL L n own s a) m = hasL L m := by simp [hasL, fillL]
theorem at_fill_ne {L : List Known} {n : Int} {own : List Fld} {s a : Int} {m : Int} (h : m.toNat ≠ n.toNat) : atL (fillL L n own s a) m = atL L m := by
  unfold atL fillL
  rw [List.getD_eq_getElem?_getD, List.getElem?_set_ne (Ne.symm h), List.getD_eq_getElem?_getD]
theorem at_fill {L : List Known} {n : Int} {own : List Fld} {s a : Int} (hn : hasL L n = true) : atL (fillL L n own s a) n = { atL L n with fields := own, size := s, align := a, opn := false } := by
  have := hasL_lt hn
  unfold atL fillL
  rw [List.getD_eq_getElem?_getD, List.getElem?_set_self this.2.2.1]
  rfl
theorem size_fill_ne {L : List Known} {n : Int} {own : List Fld} {s a : Int} {m : Int} (h : m.toNat ≠ n.toNat) : sizeL (fillL L n own s a) m = sizeL L m ∧ alignL (fillL L n own s a) m = alignL L m := by
  unfold sizeL alignL
  rw [has_fill, at_fill_ne h]
  exact ⟨rfl, rfl⟩
theorem WF.fill {L : List Known} {dep : Nat → Nat} (h : WF L dep) {n : Int} (hn : hasL L n = true) (h0 : sizeL L n = 0) {d : Nat} {own : List Fld} {s a : Int}
    (hx : Good L dep d { atL L n with fields := own, size := s, align := a, opn := false }) : WF (fillL L n own s a) (depSet dep n.toNat d) := by
  have hlt := hasL_lt hn
  have hm : ∀ m, 0 < sizeL L m → sizeL (fillL L n own s a) m = sizeL L m ∧ alignL (fillL L n own s a) m = alignL L m ∧ depSet dep n.toNat d m.toNat = dep m.toNat := fun m hm => by
    have hh := hasL_lt (has_pos hm)
    have hne : m.toNat ≠ n.toNat := fun e => by
      have : m = n := by omega
      rw [this, h0] at hm
      omega
    exact ⟨(size_fill_ne hne).1, (size_fill_ne hne).2, depSet_ne dep hne⟩
  intro m k hk
  simp only [fillL, List.getElem?_set] at hk
  split at hk
  · rename_i e
    subst e
    rw [if_pos hlt.2.2.1] at hk
    simp at hk
    subst hk
    rw [depSet_self]
    exact hx.mono hm
  · rename_i e
    rw [depSet_ne dep (fun h => e h.symm)]
    exact (h m k hk).mono hm

/-- Fields as they are laid, whatever comes of it. -/
def layR (L : List Known) : List Fld → Int → List Fld
  | [], _ => []
  | f :: fs, e => ⟨f.name, f.type, upZ e (alignL L f.type)⟩ :: layR L fs (upZ e (alignL L f.type) + sizeL L f.type)
theorem layR_len (L : List Known) : ∀ (fs : List Fld) (e : Int), (layR L fs e).length = fs.length
  | [], _ => rfl
  | f :: fs, e => by simp [layR, layR_len]
/-- Fields of good types. -/
def Fine (L : List Known) (fs : List Fld) : Prop := ∀ f ∈ fs, hasL L f.type = true ∧ 0 < sizeL L f.type ∧ sizeL L f.type ≤ 32768 ∧ 0 < alignL L f.type ∧ alignL L f.type ≤ 4
theorem endF_ge {L : List Known} : ∀ {fs : List Fld} {e : Int}, Fine L fs → 0 ≤ e → e ≤ endF L fs e ∧ endF L fs e ≤ e + fs.length * 33000
  | [], e, _, he => by simp [endF]
  | f :: fs, e, h, he => by
    have h1 := h f (by simp)
    have h3 := upZ_ok e (alignL L f.type) he h1.2.2.2.1
    have h4 := endF_ge (fs := fs) (e := upZ e (alignL L f.type) + sizeL L f.type) (fun g hg => h g (by simp [hg])) (by omega)
    simp only [endF, List.length_cons]
    omega
theorem layL_eq {L : List Known} : ∀ {fs : List Fld} {e a : Int}, Fine L fs → 0 ≤ e → e ≤ 32768 → layL L fs e a = if endF L fs e ≤ 32768 then some (layR L fs e, endF L fs e, maxA L fs a) else none
  | [], e, a, _, he, h1 => by simp [layL, layR, endF, maxA, h1]
  | f :: fs, e, a, h, he, h1 => by
    have h2 := h f (by simp)
    have h3 := upZ_ok e (alignL L f.type) he h2.2.2.2.1
    have h4 := endF_ge (fs := fs) (e := upZ e (alignL L f.type) + sizeL L f.type) (fun g hg => h g (by simp [hg])) (by omega)
    have hEq : endF L (f :: fs) e = endF L fs (upZ e (alignL L f.type) + sizeL L f.type) := rfl
    rw [hEq]
    simp only [layL, layR, maxA]
    by_cases hf : upZ e (alignL L f.type) + sizeL L f.type ≤ 32768
    · rw [if_pos hf, layL_eq (fs := fs) (fun g hg => h g (by simp [hg])) (by omega) hf]
      by_cases hE : endF L fs (upZ e (alignL L f.type) + sizeL L f.type) ≤ 32768 <;> simp [hE]
    · rw [if_neg hf, if_neg (show ¬ endF L fs (upZ e (alignL L f.type) + sizeL L f.type) ≤ 32768 by omega)]
theorem layR_type {L : List Known} : ∀ {fs : List Fld} {e : Int}, Fine L fs → Fine L (layR L fs e)
  | [], _, _ => fun f hf => by simp [layR] at hf
  | f :: fs, e, h => fun g hg => by
    simp only [layR, List.mem_cons] at hg
    rcases hg with rfl | hg
    · exact h f (by simp)
    · exact layR_type (fun x hx => h x (by simp [hx])) g hg
theorem layR_max {L : List Known} : ∀ {fs : List Fld} {e a : Int}, maxA L (layR L fs e) a = maxA L fs a
  | [], _, _ => rfl
  | f :: fs, e, a => by simp only [layR, maxA, layR_max]
theorem layR_end {L : List Known} : ∀ {fs : List Fld} {e : Int} (e' : Int), endF L (layR L fs e') e = endF L fs e
  | [], _, _ => rfl
  | f :: fs, e, a => by simp only [layR, endF, layR_end]
end Go.Ev.Try

/- The reference: a struct is given its fields: the parts. -/
namespace Go.Ev.Try
open Go Go.Ev Go.Proofs
variable {μ : Nat}

theorem endF_snoc {L : List Known} : ∀ {fs : List Fld} {k : Nat} {f : Fld} {e : Int}, fs[k]? = some f → endF L (fs.take (k + 1)) e = upZ (endF L (fs.take k) e) (alignL L f.type) + sizeL L f.type
  | [], k, f, e, h => by simp at h
  | g :: fs, 0, f, e, h => by
    simp at h
    subst h
    simp [endF]
  | g :: fs, k + 1, f, e, h => by
    simp only [List.take_succ_cons, endF]
    exact endF_snoc (by simpa using h)
theorem layR_get {L : List Known} : ∀ {fs : List Fld} {k : Nat} {f : Fld} {e : Int}, fs[k]? = some f → (layR L fs e)[k]? = some ⟨f.name, f.type, upZ (endF L (fs.take k) e) (alignL L f.type)⟩
  | [], k, f, e, h => by simp at h
  | g :: fs, 0, f, e, h => by
    simp at h
    subst h
    simp [layR, endF]
  | g :: fs, k + 1, f, e, h => by
    simp only [List.take_succ_cons, endF, layR, List.getElem?_cons_succ]
    exact layR_get (by simpa using h)
theorem flat_snoc {α β : Type} {l : List α} {k : Nat} {x : α} (h : l[k]? = some x) (g : α → List β) : (l.take (k + 1)).flatMap g = (l.take k).flatMap g ++ g x := by
  rw [List.take_add_one, h]
  simp
theorem sealList_append {A : Arena} {r : List AV → Option (List D)} : ∀ {xs ys : List AV} {a b : List D}, sealList A r xs = some a → sealList A r ys = some b → sealList A r (xs ++ ys) = some (a ++ b)
  | [], ys, a, b, h, k => by simp [sealList] at h; subst h; simpa using k
  | x :: xs, ys, a, b, h, k => by
    simp only [sealList, Option.bind_eq_some_iff, Option.map_eq_some_iff] at h
    obtain ⟨z, hz, zs, hzs, rfl⟩ := h
    simp [sealList, hz, sealList_append hzs k]
/-- A value that tells fields, in the arena at hand. -/
def FA (A : Arena) (u : AV) (fs : List Fld) : Prop := u = .d (fsO fs) ∨ ∃ x, u = .sl 0 x 0 fs.length 3 ∧ fs ≠ [] ∧ A[x]? = some (some (fs.flatMap fcells))
theorem FA.fv {A : Arena} {u : AV} {fs : List Fld} (h : FA A u fs) (H : Heap) : FV (A :: H) (u.up 0) fs := by
  rw [up_zero]
  rcases h with h | ⟨x, h, _, h2⟩
  · exact .inl h
  · exact .inr ⟨0, x, h, by simp [h2]⟩
theorem FA.sealed {A : Arena} {u : AV} {fs : List Fld} (h : FA A u fs) (q : Nat) : sealOne A (seals A q) u = some (fsO fs) := by
  rcases h with rfl | ⟨x, rfl, h1, h2⟩
  · rfl
  · simp only [sealOne, h2, Option.join_some]
    rw [if_pos (by rw [fc_len]; omega), List.drop_zero, List.take_of_length_le (by rw [fc_len]; omega), ← fsD_map, seals_d]
    simp [fsO, fsD, h1]
theorem seal_rows {A : Arena} (q : Nat) : ∀ {L : List Known} {vs : List AV}, vs.length = L.length → (∀ (k : Nat) (f : Known) (u : AV), L[k]? = some f → vs[k]? = some u → FA A u f.fields) → sealList A (seals A q) ((L.zip vs).flatMap fun x => rcells x.1 x.2) = some (L.flatMap rD)
  | [], vs, _, _ => by simp [sealList]
  | f :: L, [], h, _ => by simp at h
  | f :: L, u :: vs, h, hk => by
    rw [List.zip_cons_cons, List.flatMap_cons, List.flatMap_cons]
    refine sealList_append ?_ (seal_rows q (by simpa using h) (fun k g w hg hw => hk (k + 1) g w (by simpa using hg) (by simpa using hw)))
    have := (hk 0 f u rfl rfl).sealed q
    simp only [rcells, sealList, this, rD]
    rfl
theorem leave_rows {A : Arena} {L : List Known} {vs : List AV} {b : Nat} (hl : vs.length = L.length) (hb : A[b]? = some (some ((L.zip vs).flatMap fun x => rcells x.1 x.2))) (hk : ∀ (k : Nat) (f : Known) (u : AV), L[k]? = some f → vs[k]? = some u → FA A u f.fields) :
    AV.leave A (.sl 0 b 0 L.length 6) = some (.d (rows L)) := by
  simp only [AV.leave, sealOne, hb, Option.join_some]
  rw [if_pos (by rw [rc_len hl]; omega), List.drop_zero, List.take_of_length_le (by rw [rc_len hl]; omega)]
  have : 0 < List.length A := by have := (List.getElem?_eq_some_iff.1 hb).1; omega
  obtain ⟨q, hq⟩ : ∃ q, List.length A = q + 1 := ⟨List.length A - 1, by omega⟩
  rw [hq]
  rw [show seals A (q + 1) = sealList A (seals A q) from rfl, seal_rows q hl hk]
  simp [rows]

/-- Fields are laid. -/
theorem layr_loop {L : List Known} {dep : Nat → Nat} (hw : WF L dep) {D d : Nat} {H : Heap} {v : AV} {fs : List Fld} (hv : FV H v fs) (hlen : fs.length < 1000000) (hf : Fine L fs) (hD : ∀ n : Int, hasL L n = true → dep n.toNat ≤ D) (hd : D + 4 ≤ d) (a1 : AV) (n : Int) :
    Gives (iterN LB (s32.l0 (evCall Try.prog (C μ) d 1) 1) [.d (rows L), a1, v.up 1, .ptr 0 0 0, vi n, .d (.seq true 0 []), vi 0, vi 0] ([some zMade] :: H)) fun r =>
      ∃ A own, r = (.exit 0, [.d (rows L), a1, .ptr 0 0 0, vi n, own], A :: H) ∧ OutAt 1 A own ((layR L fs 0).flatMap fcells) fs.length 3 ∧ 1 ≤ List.length A ∧ A[0]? = some (some zMade) := by
  refine iter_gives (Inv := fun k s Hh => ∃ A own, Hh = A :: H ∧ s = [.d (rows L), a1, v.up 1, .ptr 0 0 0, vi n, own, vi (endF L (fs.take k) 0), vi k] ∧ OutAt 1 A own (((layR L fs 0).take k).flatMap fcells) k 3 ∧ 1 ≤ List.length A ∧ A[0]? = some (some zMade)) fs.length (big_lt (by omega)) (fun k hk s Hh h => ?_) ⟨_, _, rfl, rfl, .nil _, by simp, rfl⟩
  obtain ⟨A, own, rfl, rfl, ho, h1, h2⟩ := h
  have hln := hv.len1
  rcases Nat.lt_or_ge k fs.length with hk' | hk'
  · left
    obtain ⟨p, q, r⟩ := hv.read (fAt_some hk')
    have hfk := fAt_some hk'
    generalize fAt fs k = f at *
    have hfine := hf f (List.mem_of_getElem? hfk)
    have hfb : Fine L (fs.take k) := fun g hg => hf g (List.mem_of_mem_take hg)
    have hE := endF_ge hfb (show (0 : Int) ≤ 0 by omega)
    have hE2 : (fs.take k).length ≤ 1000000 := by simp; omega
    have hup := upZ_ok (endF L (fs.take k) 0) (alignL L f.type) hE.1 hfine.2.2.2.1
    have hdf := hD _ hfine.1
    have hA : ∀ A : Arena, evCall Try.prog (C μ) d 1 24 [.d (rows L), vi f.type] (A :: H) = some (vi (alignL L f.type), A :: H) := fun A => alignr_ok hw D d 1 (A :: H) _ _ (rowsRV _ _) hdf (by omega)
    have hS : ∀ A : Arena, evCall Try.prog (C μ) d 1 23 [.d (rows L), vi f.type] (A :: H) = some (vi (sizeL L f.type), A :: H) := fun A => sizer_ok hw D d 1 (A :: H) _ _ (rowsRV _ _) hdf (by omega)
    obtain ⟨d', rfl⟩ : ∃ e, d = e + 1 := ⟨d - 1, by omega⟩
    have hN : ∀ A : Arena, evCall Try.prog (C μ) (d' + 1) 1 37 [vi (endF L (fs.take k) 0), vi (alignL L f.type)] (A :: H) = some (vi (upZ (endF L (fs.take k) 0) (alignL L f.type)), A :: H) := fun A => next_ok hE.1 (by omega) hfine.2.2.2.1 (by omega)
    obtain ⟨own', A', e1, e2, e3, e4⟩ := ho.append (H := H) (bytes := 32) (lim := 1) h1 (by omega) (fcells_leaf ⟨f.name, f.type, upZ (endF L (fs.take k) 0) (alignL L f.type)⟩) rfl (by omega) (by omega)
    rw [← flat_snoc (layR_get hfk)] at e2
    have hb : ∀ x : Int, bld [(0, 1), (1, 1), (2, 1)] [.d (.str ⟨#[]⟩), .d (.int .i64 0), .d (.int .i64 0)] [(0, vs f.name), (1, vi f.type), (2, vi x)] = some (.agg (fcells ⟨f.name, f.type, x⟩)) := fun x => rfl
    have hb1 := bldS_one (s := 3) (z := [.d (.str ⟨#[]⟩), .d (.int .i64 0), .d (.int .i64 0)]) (A := A) (H := H) rfl rfl (fcells_leaf ⟨f.name, f.type, upZ (endF L (fs.take k) 0) (alignL L f.type)⟩)
    refine ⟨[.d (rows L), a1, v.up 1, .ptr 0 0 0, vi n, own', vi (endF L (fs.take (k + 1)) 0), vi (k + 1 : Nat)], A' :: H, hk', ?_, A', own', rfl, rfl, e2, by omega, by rw [e4 0 (by omega), h2]⟩
    unfold s32.l0
    rw [endF_snoc hfk]
    simp [hln, hk', r.ix, r.fa, r.c0, r.c1, hA, hS, hN, hb, hb1, e1, wrap_succ (show k < 1000000000 by omega)]
    exact wrap_ok _ (by omega) (by omega)
  · right
    have : k = fs.length := by omega
    subst this
    refine ⟨_, ?_, ?_, A, own, rfl, ?_, h1, h2⟩
    · unfold s32.l0
      simp [hln]
    · simp
    · rw [List.take_of_length_le (by rw [layR_len]; omega)] at ho
      exact ho
end Go.Ev.Try

/- The reference: a struct is given its fields. -/
namespace Go.Ev.Try
open Go Go.Ev Go.Proofs
variable {μ : Nat}

def newK (name : ByteArray) (own : List Fld) : Known := ⟨5, 0, 0, name, own, 0, 0, false⟩
def valsF (L : List Known) (n : Nat) (own : AV) : List AV := (L.map fun f => AV.d (fsO f.fields)).set n own
def rowsF (L : List Known) (n : Nat) (k : Known) (own : AV) : List (Known × AV) := (L.set n k).zip (valsF L n own)
def rc2 (x : Known × AV) : List AV := rcells x.1 x.2
theorem rowsF_ne {L : List Known} {n k : Nat} {f x : Known} {own : AV} (h : L[k]? = some f) (hn : k ≠ n) : (rowsF L n x own)[k]? = some (f, .d (fsO f.fields)) := by
  unfold rowsF valsF
  rw [List.getElem?_zip_eq_some.2]
  exact ⟨by rw [List.getElem?_set_ne (Ne.symm hn), h], by rw [List.getElem?_set_ne (Ne.symm hn), List.getElem?_map, h]; rfl⟩
theorem rowsF_eq {L : List Known} {n : Nat} {f x : Known} {own : AV} (h : L[n]? = some f) : (rowsF L n x own)[n]? = some (x, own) := by
  have hn := (List.getElem?_eq_some_iff.1 h).1
  unfold rowsF valsF
  rw [List.getElem?_zip_eq_some.2]
  exact ⟨by rw [List.getElem?_set_self hn], by rw [List.getElem?_set_self (by simpa using hn)]⟩
theorem fillr_loop {call : ACall} {L : List Known} {H : Heap} {name : ByteArray} {n : Nat} (hL : L.length ≤ 1000000) (hn : n < L.length) (own : AV) (ho : own.leaf = true) (A0 : Arena) (ofs : List Fld) :
    Gives (iterN LB (s32.l1 call 1) [.d (rows L), vs name, .ptr 0 0 0, vi n, own, .d (.seq true 0 []), vi 0] (A0 :: H)) fun r =>
      ∃ A out, r = (.exit 2, [.d (rows L), .ptr 0 0 0, vi n, out], A :: H) ∧ OutAt A0.length A out ((rowsF L n (newK name ofs) own).flatMap rc2) L.length 6 ∧ A0.length ≤ A.length ∧ ∀ j, j < A0.length → A[j]? = A0[j]? := by
  refine iter_gives (Inv := fun k s Hh => ∃ A out, Hh = A :: H ∧ s = [.d (rows L), vs name, .ptr 0 0 0, vi n, own, out, vi k] ∧ OutAt A0.length A out (((rowsF L n (newK name ofs) own).take k).flatMap rc2) k 6 ∧ A0.length ≤ A.length ∧ ∀ j, j < A0.length → A[j]? = A0[j]?) L.length (big_lt (by omega)) (fun k hk s Hh h => ?_) ⟨_, _, rfl, rfl, .nil _, Nat.le_refl _, fun _ _ => rfl⟩
  obtain ⟨A, out, rfl, rfl, hout, h1, h2⟩ := h
  have hlen : lnS (.d (rows L)) = some (vi L.length) := (rowsRV H L).len
  rcases Nat.lt_or_ge k L.length with hk' | hk'
  · left
    have hlt : (k : Int) < L.length := by omega
    obtain ⟨f, hf⟩ : ∃ f, L[k]? = some f := ⟨_, List.getElem?_eq_getElem hk'⟩
    have hst := stA_new (A := A) (H := H) (c := [.d (.int .i64 0), .d (.int .i64 0), .d (.int .i64 0), .d (.str ⟨#[]⟩), .d (.seq true 0 []), .d (.bool false)]) (n := 6) (show 0 < 1 by omega) (rD_leaf f) rfl rfl
    by_cases hkn : k = n
    · subst hkn
      have hleaf : (rc2 (newK name ofs, own)).all AV.leaf = true := by simp [rc2, rcells, ho]
      have hst2 := stA_new (A := A) (H := H) (c := (rD f).map .d) (n := 6) (show 0 < 1 by omega) hleaf rfl rfl
      obtain ⟨out', A', e1, e2, e3, e4⟩ := (hout.more [some (rc2 (newK name ofs, own))]).append (H := H) (bytes := 72) (lim := 1) (by simp; omega) (by omega) hleaf rfl (by omega) (by omega)
      rw [← flat_snoc (rowsF_eq hf)] at e2
      have hb1 := bldS_one (s := 6) (z := [.d (.int .i64 0), .d (.int .i64 0), .d (.int .i64 0), .d (.str ⟨#[]⟩), .d (.seq true 0 []), .d (.bool false)]) (A := A ++ [some (rc2 (newK name ofs, own))]) (H := H) rfl rfl hleaf
      refine ⟨[.d (rows L), vs name, .ptr 0 0 0, vi k, own, out', vi (k + 1 : Nat)], A' :: H, hk', ?_, A', out', rfl, rfl, e2, by simp at e3; omega, fun j hj => by rw [e4 j hj, List.getElem?_append_left (by omega), h2 j hj]⟩
      have hb : bld [(0, 1), (1, 1), (2, 1), (3, 1), (4, 1), (5, 1)] [.d (.int .i64 0), .d (.int .i64 0), .d (.int .i64 0), .d (.str ⟨#[]⟩), .d (.seq true 0 []), .d (.bool false)] [(0, .d (.int .i64 5)), (3, vs name), (4, own)] = some (.agg (rc2 (newK name ofs, own))) := by
        simp [bld, afill, setMany, acells_leaf ho, rc2, rcells, newK]
      unfold s32.l1
      simp only [List.getD_cons_zero, List.getD_cons_succ, hlen, pu_some, abin_lss, hlt, decide_true, asB_b, cn_true, rows_ix hk', ldA_dptr, rows_cut hf, Option.map_some, bi_some, al_eq, hst]
      simp only [abin_eql, pu_some, asB_b, decide_true, cn_true, hb, hst2, bi_some, jn_some, dsp_normal, gv, List.getD_cons_zero, List.getD_cons_succ]
      have g : getB ((A ++ [some (rc2 (newK name ofs, own))]) :: H) 0 (List.length A) = some (rc2 (newK name ofs, own)) := by simp
      simp only [ldA_ptr, g, Option.bind_some, cut_all (show 6 = (rc2 (newK name ofs, own)).length from rfl), Option.map_some, map_up_zero, pu_some, hb1, bi_some, e1, abin_add, wrap_succ (show k < 1000000000 by omega)]
    · obtain ⟨out', A', e1, e2, e3, e4⟩ := (hout.more [some ((rD f).map .d)]).append (H := H) (bytes := 72) (lim := 1) (by simp; omega) (by omega) (rD_leaf f) rfl (by omega) (by omega)
      have hrc : (rD f).map AV.d = rc2 (f, .d (fsO f.fields)) := rfl
      rw [hrc, ← flat_snoc (rowsF_ne hf hkn)] at e2
      have hb1 := bldS_one (s := 6) (z := [.d (.int .i64 0), .d (.int .i64 0), .d (.int .i64 0), .d (.str ⟨#[]⟩), .d (.seq true 0 []), .d (.bool false)]) (A := A ++ [some ((rD f).map .d)]) (H := H) rfl rfl (rD_leaf f)
      refine ⟨[.d (rows L), vs name, .ptr 0 0 0, vi n, own, out', vi (k + 1 : Nat)], A' :: H, hk', ?_, A', out', rfl, rfl, e2, by simp at e3; omega, fun j hj => by rw [e4 j hj, List.getElem?_append_left (by omega), h2 j hj]⟩
      have hne : ¬ (k : Int) = n := by omega
      unfold s32.l1
      simp only [List.getD_cons_zero, List.getD_cons_succ, hlen, pu_some, abin_lss, hlt, decide_true, asB_b, cn_true, rows_ix hk', ldA_dptr, rows_cut hf, Option.map_some, bi_some, al_eq, hst]
      simp only [abin_eql, pu_some, asB_b, hne, decide_false, cn_false, jn_some, dsp_normal, gv, List.getD_cons_zero, List.getD_cons_succ]
      have g : getB ((A ++ [some ((rD f).map AV.d)]) :: H) 0 (List.length A) = some ((rD f).map .d) := by simp
      simp only [ldA_ptr, g, Option.bind_some, cut_all (show 6 = ((rD f).map AV.d).length from rfl), Option.map_some, map_up_zero, pu_some, hb1, bi_some, e1, abin_add, wrap_succ (show k < 1000000000 by omega)]
  · right
    have : k = L.length := by omega
    subst this
    refine ⟨_, ?_, ?_, A, out, rfl, ?_, h1, h2⟩
    · unfold s32.l1
      simp [hlen]
    · simp
    · rw [List.take_of_length_le (by simp [rowsF, valsF])] at hout
      exact hout

theorem rowsF_same {L : List Known} {n : Nat} {x y : Known} {own : AV} (h : rc2 (x, own) = rc2 (y, own)) : (rowsF L n x own).flatMap rc2 = (rowsF L n y own).flatMap rc2 := by
  have key : ∀ (L : List Known) (vs : List AV) (n : Nat), ((L.set n x).zip (vs.set n own)).flatMap rc2 = ((L.set n y).zip (vs.set n own)).flatMap rc2 := by
    intro L
    induction L with
    | nil => intro vs n; simp
    | cons a L ih =>
      intro vs n
      cases vs with
      | nil => simp
      | cons b vs =>
        cases n with
        | zero => simp [h]
        | succ n => simp [ih vs n]
  exact key L _ n
/-- Types lie in the arena at hand. -/
theorem rv_here {A : Arena} {H : Heap} {L : List Known} {vs : List AV} {b : Nat} (hl : vs.length = L.length) (hb : A[b]? = some (some ((L.zip vs).flatMap fun x => rcells x.1 x.2))) (hk : ∀ (k : Nat) (f : Known) (u : AV), L[k]? = some f → vs[k]? = some u → FA A u f.fields) :
    RV (A :: H) (.sl 0 b 0 L.length 6) L := .inr ⟨0, b, vs, rfl, hl, by simp [hb], fun k f u hf hu => (hk k f u hf hu).fv H⟩
theorem structr_ok {L : List Known} {dep : Nat → Nat} (hw : WF L dep) {D d lim : Nat} {H : Heap} {v : AV} {name : ByteArray} {fs : List Fld} (hv : FV H v fs) (hL : L.length ≤ 400) (hlen : fs.length < 1000000)
    (hbnd : ∀ n : Int, sizeL L n ≤ 32768) (hs : Sane L) (hz : ∀ k ∈ L, k.kind = 5 → k.elem = 0 ∧ k.len = 0) (hD : ∀ n : Int, hasL L n = true → dep n.toNat ≤ D) (hd : D + 7 ≤ d) :
    evCall Try.prog (C μ) d lim 32 [.d (rows L), vs name, v] H = some (madeA (structL L name fs), H) := by
  obtain ⟨d, rfl⟩ : ∃ e, d = e + 2 := ⟨d - 2, by omega⟩
  rw [evCall_pureEq (fi := fi32) rfl rfl (b32 _ _ _ _ _ _ _)]
  unfold s32 structL
  have hfind := fun H => findr_ok (μ := μ) (d := d) (lim := 1) (H := H) (L := L) (by omega) (name := name)
  have hmay := fun A : Arena => mayr_ok hw (D := D) (μ := μ) (d := d + 1) (lim := 1) (H := A :: H) (v := v.up 1) (hv.push A) hlen hD (by omega)
  simp [hfind]
  by_cases hn : namedL L name < 0
  · simp [hn, bldM 0, stM, rs, rsL, one, cut_eq, madeA]
  · have hn' : 0 ≤ namedL L name := by omega
    obtain ⟨hhas, hisn⟩ := firstL_spec (p := isNamed name) hn'
    change hasL L (namedL L name) = true at hhas
    change isNamed name (atL L (namedL L name)) = true at hisn
    generalize namedL L name = n at *
    have hlt := hasL_lt hhas
    obtain ⟨p, q, u, r⟩ := (rowsRV H L).read hhas
    have hix : ixS 6 (.d (rows L)) (vi n) = some p := r.ix
    simp [hn, hix, r.fa, r.c5]
    cases hop : (atL L n).opn with
    | false => simp [bldM 0, stM, rs, rsL, one, cut_eq, madeA]
    | true =>
      simp [hmay]
      by_cases hm0 : mayL L fs = 0
      · obtain ⟨hne, hfs⟩ := may_zero hm0
        have hfine : Fine L fs := fun f hf => by
          have h1 := hfs f hf
          have h2 := hs.size f.type
          have h3 := hs.align f.type
          have h4 := hs.both f.type h1.2.2
          exact ⟨h1.2.1, by omega, by omega, by omega, by omega⟩
        have hE := endF_ge hfine (show (0 : Int) ≤ 0 by omega)
        have hMx : 0 < maxA L fs 1 ∧ maxA L fs 1 ≤ 4 := maxA_le (dep := dep) (d := D + 1) (fun f hf => ⟨by have := hD _ (hfine f hf).1; omega, ⟨(hfine f hf).2.1, (hfine f hf).2.2.1⟩, (hfine f hf).2.2.2⟩) (by omega)
        have hU := upZ_ok (endF L fs 0) (maxA L fs 1) hE.1 hMx.1
        simp [isNamed] at hisn
        have hopn : sizeL L n = 0 := by
          rcases hw.at hhas with h | h | h | h | h | h | h
          · omega
          · rw [hop] at h; simp at h
          · rw [hop] at h; simp at h
          · rw [hop] at h; simp at h
          · rw [hop] at h; simp at h
          · rw [sizeL, if_pos hhas]; exact h.2.2.1
          · rw [hop] at h; simp at h
        have hzn := hz _ (List.mem_of_getElem? hlt.2.2.2) hisn.1
        have hgood : Good L dep (D + 1) { atL L n with fields := layR L fs 0, size := upZ (endF L fs 0) (maxA L fs 1), align := maxA L fs 1, opn := false } := by
          refine .inr (.inr (.inr (.inr (.inr (.inr ⟨hisn.1, rfl, by rw [layR_len]; exact hlen, fun f hf => ?_, ?_, ?_⟩)))))
          · have := layR_type hfine f hf
            exact ⟨by have := hD _ this.1; omega, ⟨this.2.1, this.2.2.1⟩, this.2.2.2⟩
          · exact layR_max.symm
          · rw [layR_end]
        have hw' := hw.fill hhas hopn hgood
        simp [hm0, lp, bnd_eq]
        obtain ⟨r0, hr0, A, own, rfl, ho, hA1, hA0⟩ := layr_loop hw hv hlen hfine hD (μ := μ) (d := d + 1) (by omega) (vs name) n
        simp only [zMade] at hr0
        rw [hr0]
        have hfl : fs.length ≠ 0 := fun e => hne (List.eq_nil_of_length_eq_zero e)
        obtain ⟨b1, rfl, hb1, hA1b, hl1⟩ := ho.sl hfl
        simp only [Option.bind_some, dsp_exit, gv, List.getD_cons_zero, List.getD_cons_succ]
        have hnn : vi n = vi (n.toNat : Int) := by rw [Int.toNat_of_nonneg hlt.1]
        obtain ⟨r1, hr1, A2, out, rfl, hout, hA2l, hA2⟩ := fillr_loop (call := evCall Try.prog (C μ) (d + 1) 1) (H := H) (name := name) (n := n.toNat) (L := L) (by omega) hlt.2.2.1 (.sl 0 b1 0 fs.length 3) rfl A (layR L fs 0)
        rw [← hnn] at hr1
        rw [hr1]
        obtain ⟨b2, rfl, hb2, hA2b, hl2⟩ := hout.sl (by omega)
        simp [gv]
        generalize hsz' : upZ (endF L fs 0) (maxA L fs 1) = sz at *
        generalize hal' : maxA L fs 1 = al at *
        have hlr : (layR L fs 0).length = fs.length := layR_len _ _ _
        have hA2b1 : A2[b1]? = some (some ((layR L fs 0).flatMap fcells)) := by rw [hA2 _ (List.getElem?_eq_some_iff.1 hA1b).1, hA1b]
        have hLl : (fillL L n (layR L fs 0) sz al).length = L.length := by simp [fillL]
        have hb' : A2[b2]? = some (some (((fillL L n (layR L fs 0) sz al).zip (valsF L n.toNat (.sl 0 b1 0 fs.length 3))).flatMap fun x => rcells x.1 x.2)) := by
          rw [hA2b]
          congr 2
          exact rowsF_same (by simp [rc2, rcells, newK, hisn, hzn])
        have hk' : ∀ A3 : Arena, A3[b1]? = A2[b1]? → ∀ (k : Nat) (f : Known) (u : AV), (fillL L n (layR L fs 0) sz al)[k]? = some f → (valsF L n.toNat (.sl 0 b1 0 fs.length 3))[k]? = some u → FA A3 u f.fields := fun A3 hA3 k f u hf hu => by
          simp only [fillL, valsF, List.getElem?_set, List.length_map] at hf hu
          by_cases hkn : n.toNat = k
          · rw [if_pos hkn, if_pos hlt.2.2.1] at hf
            rw [if_pos hkn, if_pos hlt.2.2.1] at hu
            simp at hf hu
            subst hf hu
            exact .inr ⟨b1, by rw [hlr], fun e => hfl (by rw [← hlr]; exact congrArg List.length e), by rw [hA3, hA2b1]⟩
          · rw [if_neg hkn] at hf hu
            rw [List.getElem?_map, hf] at hu
            simp at hu
            exact .inl hu.symm
        have hrv := rv_here (H := H) (L := fillL L n (layR L fs 0) sz al) (by simp [valsF, fillL]) hb' (hk' A2 rfl)
        rw [hLl] at hrv
        have hcall : evCall Try.prog (C μ) (d + 1) 1 23 [.sl 0 b2 0 L.length 6, vi n] (A2 :: H) = some (vi sz, A2 :: H) := by
          rw [sizer_ok hw' (D + 1) (d + 1) 1 (A2 :: H) _ n hrv (by rw [depSet_self]; omega) (by omega)]
          rw [sizeL, has_fill, if_pos hhas, at_fill hhas]
        have hA20 : A2[0]? = some (some zMade) := by rw [hA2 0 (by omega), hA0]
        have hlt0 : 0 < List.length A2 := by omega
        have hb0 : bld [(0, 1), (1, 1), (2, 1)] [.d (.int .i64 0), .d (.seq true 0 []), .d (.int .i64 0)] [(0, vi n), (1, .sl 0 b2 0 L.length 6)] = some (.agg [vi n, .sl 0 b2 0 L.length 6, vi 0]) := rfl
        have hst0 : ∀ a b c : AV, a.leaf = true → b.leaf = true → c.leaf = true → stA 3 1 (A2 :: H) (.ptr 0 0 0) (.agg [a, b, c]) = some (.undef, A2.set 0 (some [a, b, c]) :: H) := fun a b c ha hb hc => stA_at (n := 3) zMade (by omega) (by simp [ha, hb, hc]) rfl rfl (by rw [hA20]; rfl)
        simp only [hcall, bi_some, abin_gtr, pu_some, asB_b]
        rw [layL_eq hfine (Int.le_refl _) (by omega), hal']
        by_cases hbig : 32768 < sz
        · have hres : endL L n (if endF L fs 0 ≤ 32768 then some (layR L fs 0, endF L fs 0, al) else none) = (0, 2, L) := by
            split
            · simp [hsz', hbig]
            · simp
          rw [hres]
          simp [hbig, bldM 0, hst0, rs, rsL, one, cut_eq, madeA, List.getElem?_set_self hlt0]
        · have hle : endF L fs 0 ≤ 32768 := by omega
          rw [if_pos hle]
          simp only [endL_some, hsz', hbig, if_false]
          have hlv := leave_rows (A := A2.set 0 (some [vi n, .sl 0 b2 0 L.length 6, vi 0])) (L := fillL L n (layR L fs 0) sz al) (vs := valsF L n.toNat (.sl 0 b1 0 fs.length 3)) (b := b2) (by simp [valsF, fillL]) (by rw [List.getElem?_set_ne (by omega), hb']) (hk' _ (by rw [List.getElem?_set_ne (by omega)]))
          rw [hLl] at hlv
          simp [hb0, hst0, rs, rsL, one, cut_eq, madeA, List.getElem?_set_self hlt0, hlv]
      · simp [hm0, hmay, bldM 0, stM, rs, rsL, one, cut_eq, madeA]
end Go.Ev.Try

/- A table is sound, and stays so whatever is made. -/
namespace Go.Ev.Try
open Go Go.Ev Go.Proofs

structure Inv (L : List Known) (dep : Nat → Nat) (D : Nat) : Prop where
  wf : WF L dep
  bnd : ∀ n, sizeL L n ≤ 32768
  dep : ∀ n : Int, hasL L n = true → dep n.toNat ≤ D
  len : L.length ≤ 400
  zero : ∀ k ∈ L, k.kind = 5 → k.elem = 0 ∧ k.len = 0
  flds : ∀ k ∈ L, k.fields.length < 1000000
  laid : ∀ k ∈ L, layR L k.fields 0 = k.fields ∧ ∀ f ∈ k.fields, 0 < sizeL L f.type
  al : ∀ n, alignL L n = 0 ∨ alignL L n = 1 ∨ alignL L n = 4
  closed : ∀ k ∈ L, k.fields ≠ [] → k.kind = 5 ∧ k.opn = false
  uniq : ∀ k ∈ L, (k.fields.map Fld.name).Nodup
theorem Inv.more {L : List Known} {dep : Nat → Nat} {D : Nat} (h : Inv L dep D) {D' : Nat} (hd : D ≤ D') : Inv L dep D' := { h with dep := fun n hn => Nat.le_trans (h.dep n hn) hd }
theorem Good.size0 {L : List Known} {dep : Nat → Nat} {d : Nat} {k : Known} (h : Good L dep d k) : 0 ≤ k.size ∧ (k.size ≠ 0 → k.align ≠ 0 ∨ k.kind = 4) := by
  rcases h with h | h | h | h | ⟨h0, h1, h2, h3, h4, h5⟩ | h | ⟨h0, h1, h2, h3, h4, h5⟩
  · omega
  · omega
  · omega
  · omega
  · omega
  · omega
  · have hE := endF_le h3 (show (0 : Int) ≤ 0 by omega)
    have hM := maxA_le h3 (show (0 : Int) < 1 ∧ (1 : Int) ≤ 4 by omega)
    rw [← h4] at hM
    have hU := upZ_ok (endF L k.fields 0) k.align hE.1 hM.1
    omega
theorem Inv.sane {L : List Known} {dep : Nat → Nat} {D : Nat} (h : Inv L dep D) : Sane L := by
  have hb : ∀ (q : Nat) (n : Int), dep n.toNat < q → sizeL L n ≠ 0 → alignL L n ≠ 0 := by
    intro q
    induction q with
    | zero => intro n hn; omega
    | succ q ih =>
      intro n hn hz
      cases hh : hasL L n with
      | false => simp [sizeL, hh] at hz
      | true =>
        have hg := h.wf.at hh
        have e1 : sizeL L n = (atL L n).size := by rw [sizeL, if_pos hh]
        have e2 : alignL L n = (atL L n).align := by rw [alignL, if_pos hh]
        rw [e1] at hz
        rw [e2]
        rcases hg.size0.2 hz with h1 | h1
        · exact h1
        · rcases hg with h | h | h | h | ⟨h0, h1, h2, h3, h4, h5⟩ | h | ⟨h0, h1, h2, h3, h4, h5⟩
          · omega
          · omega
          · omega
          · omega
          · rw [h4]
            exact ih _ (by omega) (by omega)
          · omega
          · omega
  refine ⟨fun n => ⟨?_, h.bnd n⟩, h.al, fun n hz => hb (dep n.toNat + 1) n (by omega) hz⟩
  unfold sizeL
  split
  · rename_i hh
    exact (h.wf.at hh).size0.1
  · omega
theorem layR_congr {L L' : List Known} : ∀ {fs : List Fld} {e : Int}, (∀ f ∈ fs, alignL L' f.type = alignL L f.type ∧ sizeL L' f.type = sizeL L f.type) → layR L' fs e = layR L fs e
  | [], e, _ => rfl
  | f :: fs, e, h => by
    simp only [layR, (h f (by simp)).1, (h f (by simp)).2]
    rw [layR_congr (fun g hg => h g (by simp [hg]))]
theorem layR_twice {L : List Known} : ∀ {fs : List Fld} {e : Int}, layR L (layR L fs e) e = layR L fs e
  | [], e => rfl
  | f :: fs, e => by simp only [layR, layR_twice]
theorem push_pos {L : List Known} (x : Known) (m : Int) (hm : 0 < sizeL L m) : alignL (L ++ [x]) m = alignL L m ∧ sizeL (L ++ [x]) m = sizeL L m := by
  have hh := has_pos hm
  have ha := has_app hh x
  exact ⟨by simp [alignL, hh, ha], by simp [sizeL, hh, ha]⟩
theorem push_at (L : List Known) (x : Known) (m : Int) : (sizeL (L ++ [x]) m = sizeL L m ∧ alignL (L ++ [x]) m = alignL L m ∧ (hasL (L ++ [x]) m = true → hasL L m = true)) ∨ (m = L.length ∧ sizeL (L ++ [x]) m = x.size ∧ alignL (L ++ [x]) m = x.align) := by
  by_cases hm : m = L.length
  · right
    subst hm
    have : hasL (L ++ [x]) L.length = true := by simp [hasL]; omega
    have h2 : atL (L ++ [x]) (L.length : Int) = x := by simp [atL, List.getD_eq_getElem?_getD]
    exact ⟨rfl, by rw [sizeL, if_pos this, h2], by rw [alignL, if_pos this, h2]⟩
  · left
    cases hh : hasL L m with
    | true =>
      have ha := has_app hh x
      exact ⟨by simp [sizeL, hh, ha], by simp [alignL, hh, ha], fun _ => rfl⟩
    | false =>
      have : hasL (L ++ [x]) m = false := by
        simp [hasL] at hh ⊢
        intro h0
        have := hh h0
        omega
      exact ⟨by simp [sizeL, hh, this], by simp [alignL, hh, this], fun h => by rw [this] at h; cases h⟩
theorem inv_put {L : List Known} {dep : Nat → Nat} {D : Nat} (h : Inv L dep D) {x : Known} (hx : Good L dep (D + 1) x) (hb : x.size ≤ 32768) (ha : x.align = 0 ∨ x.align = 1 ∨ x.align = 4) (hf : x.fields = []) (hz : x.kind = 5 → x.elem = 0 ∧ x.len = 0) :
    ∃ dep', Inv (putL L x).2.2 dep' (D + 1) := by
  unfold putL
  split
  · exact ⟨dep, h.more (by omega)⟩
  · split
    · exact ⟨dep, h.more (by omega)⟩
    · rename_i h4
      refine ⟨_, h.wf.push hx, fun n => ?_, fun n hn => ?_, by simp; omega, fun k hk => ?_, fun k hk => ?_, fun k hk => ?_, fun n => ?_, fun k hk => ?_, fun k hk => ?_⟩
      · rcases push_at L x n with ⟨e, _⟩ | ⟨_, e, _⟩
        · rw [e]; exact h.bnd n
        · rw [e]; exact hb
      · rcases push_at L x n with ⟨_, _, e⟩ | ⟨e, _⟩
        · have h1 := hasL_lt (e hn)
          rw [depSet_ne _ (by omega)]
          exact Nat.le_succ_of_le (h.dep n (e hn))
        · subst e
          simp [depSet]
      · rcases List.mem_append.1 hk with hk | hk
        · exact h.zero k hk
        · simp at hk; subst hk; exact hz
      · rcases List.mem_append.1 hk with hk | hk
        · exact h.flds k hk
        · simp at hk; subst hk; simp [hf]
      · rcases List.mem_append.1 hk with hk | hk
        · have h1 := h.laid k hk
          exact ⟨by rw [layR_congr fun f hf => push_pos x _ (h1.2 f hf)]; exact h1.1, fun f hf => by rw [(push_pos x _ (h1.2 f hf)).2]; exact h1.2 f hf⟩
        · simp at hk; subst hk; simp [hf, layR]
      · rcases push_at L x n with ⟨_, e, _⟩ | ⟨_, _, e⟩
        · rw [e]; exact h.al n
        · rw [e]; exact ha
      · rcases List.mem_append.1 hk with hk | hk
        · exact h.closed k hk
        · simp at hk; subst hk; intro h; exact absurd hf h
      · rcases List.mem_append.1 hk with hk | hk
        · exact h.uniq k hk
        · simp at hk; subst hk; simp [hf]
theorem inv_ptr {L : List Known} {dep : Nat → Nat} {D : Nat} (h : Inv L dep D) (n : Int) : ∃ dep', Inv (ptrL L n).2.2 dep' (D + 1) := by
  unfold ptrL
  split
  · exact inv_put h (.inr (.inr (.inr (.inl ⟨rfl, rfl, rfl, rfl⟩)))) (by simp [kn]) (by simp [kn]) rfl (by simp [kn])
  · exact ⟨dep, h.more (by omega)⟩
theorem inv_open {L : List Known} {dep : Nat → Nat} {D : Nat} (h : Inv L dep D) (name : ByteArray) : ∃ dep', Inv (openL L name).2.2 dep' (D + 1) := by
  unfold openL
  split
  · exact ⟨dep, h.more (by omega)⟩
  · split
    · exact ⟨dep, h.more (by omega)⟩
    · exact inv_put h (.inr (.inr (.inr (.inr (.inr (.inl ⟨rfl, rfl, rfl, rfl⟩)))))) (by simp [opn]) (by simp [opn]) rfl (by simp [opn])
theorem inv_array {L : List Known} {dep : Nat → Nat} {D : Nat} (h : Inv L dep D) (n long : Int) : ∃ dep', Inv (arrayL L n long).2.2 dep' (D + 1) := by
  unfold arrayL
  have hs := h.sane
  have hsz := hs.size n
  split
  · rename_i hh
    split
    · exact ⟨dep, h.more (by omega)⟩
    · rename_i h0
      split
      · exact ⟨dep, h.more (by omega)⟩
      · rename_i h1
        split
        · exact ⟨dep, h.more (by omega)⟩
        · rename_i h2
          have hdiv : (32768 : Int).tdiv (sizeL L n) < long ↔ 32768 < long * sizeL L n := by
            rw [Int.tdiv_eq_ediv_of_nonneg (by omega)]
            exact Int.ediv_lt_iff_lt_mul (by omega)
          rw [hdiv] at h2
          have hm : 0 ≤ long * sizeL L n := Int.mul_nonneg (by omega) (by omega)
          rw [wrap_ok (long * sizeL L n) (by omega) (by omega)]
          refine inv_put h (.inr (.inr (.inr (.inr (.inl ⟨rfl, rfl, ⟨Nat.lt_succ_of_le (h.dep n hh), show 0 < sizeL L n by omega⟩, rfl, rfl, hm, ?_⟩))))) ?_ (h.al n) rfl (by simp [kn])
          · show long * sizeL L n ≤ 32768; omega
          · show long * sizeL L n ≤ 32768; omega
  · exact ⟨dep, h.more (by omega)⟩
theorem maxA_al {L : List Known} (h : ∀ n, alignL L n = 0 ∨ alignL L n = 1 ∨ alignL L n = 4) : ∀ {fs : List Fld} {a : Int}, a = 1 ∨ a = 4 → maxA L fs a = 1 ∨ maxA L fs a = 4
  | [], a, ha => ha
  | f :: fs, a, ha => by
    simp only [maxA]
    have := h f.type
    refine maxA_al h ?_
    split <;> omega
theorem layR_names {L : List Known} : ∀ {fs : List Fld} {e : Int}, (layR L fs e).map Fld.name = fs.map Fld.name
  | [], _ => rfl
  | f :: fs, e => by simp only [layR, List.map_cons, layR_names]
theorem may_uniq {L : List Known} {fs : List Fld} (h : mayL L fs = 0) : (fs.map Fld.name).Nodup := by
  have hd : dupL fs = false := by
    unfold mayL at h
    split at h
    · cases h
    · split at h
      · cases h
      · split at h
        · cases h
        · cases hd : dupL fs with
          | false => rfl
          | true => rw [hd] at h; simp at h
  simp only [dupL, List.any_eq_false, List.mem_range, dupAt, decide_eq_true_eq] at hd
  unfold List.Nodup
  rw [List.pairwise_iff_getElem]
  intro i j hi hj hij e
  simp only [List.length_map] at hi hj
  refine hd j hj ?_
  rw [List.any_eq_true]
  refine ⟨fs[i], ?_, ?_⟩
  · exact List.mem_iff_getElem.2 ⟨i, by simp; omega, by simp⟩
  · simp only [List.getElem_map] at e
    simp [fAt, hj, e]
theorem inv_struct {L : List Known} {dep : Nat → Nat} {D : Nat} (h : Inv L dep D) (name : ByteArray) {fs : List Fld} (hlen : fs.length < 1000000) : ∃ dep', Inv (structL L name fs).2.2 dep' (D + 1) := by
  unfold structL
  have hs := h.sane
  split
  · exact ⟨dep, h.more (by omega)⟩
  · rename_i h0
    split
    · exact ⟨dep, h.more (by omega)⟩
    · rename_i h1
      have h1' : mayL L fs = 0 := by simpa using h1
      obtain ⟨hne, hfs⟩ := may_zero h1'
      have hfine : Fine L fs := fun f hf => by
        have h1 := hfs f hf
        have h2 := hs.size f.type
        have h3 := hs.align f.type
        have h4 := hs.both f.type h1.2.2
        exact ⟨h1.2.1, by omega, by omega, by omega, by omega⟩
      rw [layL_eq hfine (Int.le_refl _) (by omega)]
      split
      · rename_i hE
        rw [endL_some]
        split
        · exact ⟨dep, h.more (by omega)⟩
        · rename_i hbig
          simp only at hbig
          have hnn : ¬ (namedL L name < 0) := fun e => h0 (.inl e)
          have hop : (atL L (namedL L name)).opn = true := by
            cases ho : (atL L (namedL L name)).opn with
            | true => rfl
            | false => exact absurd (.inr ho) h0
          obtain ⟨hhas, hisn⟩ := firstL_spec (p := isNamed name) (show 0 ≤ firstL (isNamed name) L by unfold namedL at hnn; omega)
          change hasL L (namedL L name) = true at hhas
          change isNamed name (atL L (namedL L name)) = true at hisn
          generalize namedL L name = n at *
          have hlt := hasL_lt hhas
          simp [isNamed] at hisn
          have hopn : sizeL L n = 0 := by
            rcases h.wf.at hhas with h | h | h | h | h | h | h
            · omega
            · rw [hop] at h; simp at h
            · rw [hop] at h; simp at h
            · rw [hop] at h; simp at h
            · rw [hop] at h; simp at h
            · rw [sizeL, if_pos hhas]; exact h.2.2.1
            · rw [hop] at h; simp at h
          have hgood : Good L dep (D + 1) { atL L n with fields := layR L fs 0, size := upZ (endF L fs 0) (maxA L fs 1), align := maxA L fs 1, opn := false } := by
            refine .inr (.inr (.inr (.inr (.inr (.inr ⟨hisn.1, rfl, by rw [layR_len]; exact hlen, fun f hf => ?_, ?_, ?_⟩)))))
            · have := layR_type hfine f hf
              exact ⟨by have := h.dep _ this.1; omega, ⟨this.2.1, this.2.2.1⟩, this.2.2.2⟩
            · exact layR_max.symm
            · rw [layR_end]
          have hzn := h.zero _ (List.mem_of_getElem? hlt.2.2.2) hisn.1
          have hpos : ∀ m, 0 < sizeL L m → alignL (fillL L n (layR L fs 0) (upZ (endF L fs 0) (maxA L fs 1)) (maxA L fs 1)) m = alignL L m ∧ sizeL (fillL L n (layR L fs 0) (upZ (endF L fs 0) (maxA L fs 1)) (maxA L fs 1)) m = sizeL L m := fun m hm => by
            have hh := hasL_lt (has_pos hm)
            have hne : m.toNat ≠ n.toNat := fun e => by
              have : m = n := by omega
              rw [this, hopn] at hm
              omega
            exact ⟨(size_fill_ne hne).2, (size_fill_ne hne).1⟩
          have hat : ∀ m, (sizeL (fillL L n (layR L fs 0) (upZ (endF L fs 0) (maxA L fs 1)) (maxA L fs 1)) m = sizeL L m ∧ alignL (fillL L n (layR L fs 0) (upZ (endF L fs 0) (maxA L fs 1)) (maxA L fs 1)) m = alignL L m) ∨ (sizeL (fillL L n (layR L fs 0) (upZ (endF L fs 0) (maxA L fs 1)) (maxA L fs 1)) m = upZ (endF L fs 0) (maxA L fs 1) ∧ alignL (fillL L n (layR L fs 0) (upZ (endF L fs 0) (maxA L fs 1)) (maxA L fs 1)) m = maxA L fs 1) := fun m => by
            by_cases hm : m = n
            · subst hm
              right
              exact ⟨by rw [sizeL, has_fill, if_pos hhas, at_fill hhas], by rw [alignL, has_fill, if_pos hhas, at_fill hhas]⟩
            · left
              by_cases hmn : m.toNat = n.toNat
              · have : hasL L m = false := by
                  cases hh : hasL L m with
                  | false => rfl
                  | true => have := hasL_lt hh; omega
                exact ⟨by simp [sizeL, has_fill, this], by simp [alignL, has_fill, this]⟩
              · exact size_fill_ne hmn
          have hmem : ∀ k ∈ fillL L n (layR L fs 0) (upZ (endF L fs 0) (maxA L fs 1)) (maxA L fs 1), k ∈ L ∨ k = { atL L n with fields := layR L fs 0, size := upZ (endF L fs 0) (maxA L fs 1), align := maxA L fs 1, opn := false } := fun k hk => List.mem_or_eq_of_mem_set hk
          refine ⟨_, h.wf.fill hhas hopn hgood, fun m => ?_, fun m hm => ?_, by simp [fillL]; exact h.len, fun k hk => ?_, fun k hk => ?_, fun k hk => ?_, fun m => ?_, fun k hk => ?_, fun k hk => ?_⟩
          · rcases hat m with e | e
            · simp only; rw [e.1]; exact h.bnd m
            · simp only; rw [e.1]; omega
          · simp only [has_fill] at hm
            by_cases hmn : m.toNat = n.toNat
            · rw [hmn, depSet_self]; omega
            · rw [depSet_ne _ hmn]; exact Nat.le_succ_of_le (h.dep m hm)
          · rcases hmem k hk with hk | rfl
            · exact h.zero k hk
            · intro _; exact hzn
          · rcases hmem k hk with hk | rfl
            · exact h.flds k hk
            · simp [layR_len]; exact hlen
          · rcases hmem k hk with hk | rfl
            · have h1 := h.laid k hk
              exact ⟨by rw [layR_congr fun f hf => hpos _ (h1.2 f hf)]; exact h1.1, fun f hf => by simp only; rw [(hpos _ (h1.2 f hf)).2]; exact h1.2 f hf⟩
            · have hlf := layR_type (e := 0) hfine
              refine ⟨?_, fun f hf => ?_⟩
              · simp only
                rw [layR_congr (L := L) fun f hf => hpos _ (hlf f hf).2.1, layR_twice]
              · simp only
                rw [(hpos _ (hlf f hf).2.1).2]
                exact (hlf f hf).2.1
          · rcases hat m with e | e
            · simp only; rw [e.2]; exact h.al m
            · simp only; rw [e.2]
              exact .inr (maxA_al h.al (.inl rfl))
          · rcases hmem k hk with hk | rfl
            · exact h.closed k hk
            · intro _; exact ⟨hisn.1, rfl⟩
          · rcases hmem k hk with hk | rfl
            · exact h.uniq k hk
            · simp only
              rw [layR_names]
              exact may_uniq h1'
      · exact ⟨dep, h.more (by omega)⟩
end Go.Ev.Try
