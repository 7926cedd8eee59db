import Derived.Test.YtfamldpmpjdlpaaK3
set_option linter.unusedSimpArgs false
set_option linter.unusedVariables false
/- The laws' loops over what is done; KindOnce. -/
namespace Go.Ev.Try
open Go Go.Ev Go.Proofs Go.RowKit

def actsD (nl : Bool) (l : List Act) : D := .seq nl l.length (l.flatMap aD)
theorem actsSV (H : Heap) (nl : Bool) (l : List Act) : SV H (.d (actsD nl l)) 5 (l.map aD) := ⟨fun r hr => by obtain ⟨a, _, rfl⟩ := List.mem_map.1 hr; rfl, .inl ⟨nl, by simp [actsD, List.flatMap]⟩⟩
def tabL (l : List Act) : List Known := l.foldl (fun L a => (doneL L a).2.2) L0
theorem tab_snoc {l : List Act} {k : Nat} {a : Act} (h : l[k]? = some a) : tabL (l.take (k + 1)) = (doneL (tabL (l.take k)) a).2.2 := by
  unfold tabL
  rw [List.take_add_one, h]
  simp
theorem few_ok' {l : List Act} (hf : fewL l = true) (hn : ∀ a ∈ l, actNl a) : l.length ≤ 30 ∧ ∀ a ∈ l, ActOk a := by
  simp only [fewL, Bool.and_eq_true, decide_eq_true_eq, Bool.not_eq_true', List.any_eq_false] at hf
  refine ⟨hf.1, fun a ha => ⟨hn a ha, ?_⟩⟩
  have := hf.2 a ha
  simp [badA] at this
  omega
theorem inv_tab {l : List Act} (ha : ∀ a ∈ l, ActOk a) : ∀ k, k ≤ l.length → ∃ dep, Inv (tabL (l.take k)) dep k := by
  intro k
  induction k with
  | zero => intro _; exact ⟨_, inv0⟩
  | succ k ih =>
    intro hk
    obtain ⟨dep, h⟩ := ih (by omega)
    have hg : l[k]? = some l[k] := List.getElem?_eq_getElem (by omega)
    rw [tab_snoc hg]
    exact inv_done h (ha _ (List.getElem_mem _))
theorem act_read {H : Heap} {nl : Bool} {l : List Act} {k : Nat} {a : Act} (h : l[k]? = some a) : ∃ p, ixS 5 (.d (actsD nl l)) (vi k) = some p ∧ ∀ A, ldA 5 (A :: H) p = some (.agg (acs a)) := by
  have hk := (List.getElem?_eq_some_iff.1 h).1
  obtain ⟨p, q, r⟩ := (actsSV H nl l).read (aAt_some hk)
  have : aAt l k = a := by simp [aAt, h]
  rw [this] at r
  refine ⟨p, by simpa using r.ix, fun A => ?_⟩
  rw [r.all, aD_map]
/-- What is done, one after another, the reference always at its beginning: the laws' rounds all alike. -/
theorem acts_loop {F : List AV → Heap → Option Res} {H : Heap} {nl : Bool} {l : List Act} (hl : l.length ≤ 30) (ha : ∀ a ∈ l, ActOk a) (S : Nat → List AV) (X : List AV)
    (hgo : ∀ (k : Nat) (a : Act) (A A' : Arena) (v : AV), l[k]? = some a → evCall Try.prog (C 2) 99 1 11 [.agg (acs a), .ptr 0 1 0, .d (rows L0)] (A :: H) = some (v, A' :: H) → F (S k) (A :: H) = some (.normal, S (k + 1), A' :: H))
    (hex : ∀ A : Arena, F (S l.length) (A :: H) = some (.exit 0, X, A :: H)) {A0 : Arena} {b0 : Nat} (h0 : Tab A0 1 b0 L0) :
    Gives (iterN LB F (S 0) (A0 :: H)) fun r => ∃ A b, r = (.exit 0, X, A :: H) ∧ Tab A 1 b (tabL l) := by
  refine iter_gives (Inv := fun k s Hh => ∃ A b, Hh = A :: H ∧ s = S k ∧ Tab A 1 b (tabL (l.take k))) l.length (big_lt (by omega)) (fun k hk s Hh h => ?_) ⟨A0, b0, rfl, rfl, h0⟩
  obtain ⟨A, b, rfl, rfl, hT⟩ := h
  rcases Nat.lt_or_ge k l.length with hk' | hk'
  · left
    have hg : l[k]? = some l[k] := List.getElem?_eq_getElem hk'
    obtain ⟨dep, hI⟩ := inv_tab ha k hk
    obtain ⟨⟨v, H'⟩, e1, _, A', b', e3, hT', _, _⟩ := done_ok (lim := 1) (d := 99) (H := H) hT (by omega) hI (inv0.more (Nat.zero_le k)) (ha _ (List.getElem_mem hk')) (by omega)
    dsimp only at e3
    subst e3
    exact ⟨_, _, hk', hgo k _ A A' v hg e1, A', b', rfl, rfl, by rw [tab_snoc hg]; exact hT'⟩
  · right
    have : k = l.length := by omega
    subst this
    rw [List.take_of_length_le (Nat.le_refl _)] at hT
    exact ⟨_, hex A, by simp, A, b, rfl, hT⟩

/-! ### Made again -/
theorem like_self {x : Known} (h : x.kind ≠ 5) : isLike x x = true := by simp [isLike, h]
theorem first_ext (p q : Nat → Bool) (n n' : Nat) (hn : n ≤ n') (hpq : ∀ i, i < n → p i = q i) : ∀ m k, n < k + m → k ≤ n → 0 ≤ firstFrom p n m k → ∀ m', n' < k + m' → firstFrom q n' m' k = firstFrom p n m k := by
  intro m
  induction m with
  | zero => intro k h1 h2; omega
  | succ m ih =>
    intro k h1 h2 h3 m' h4
    unfold firstFrom at h3
    split at h3
    · rename_i hk
      obtain ⟨m', rfl⟩ : ∃ e, m' = e + 1 := ⟨m' - 1, by omega⟩
      unfold firstFrom
      rw [if_pos hk, if_pos (by omega), hpq k hk]
      split
      · rfl
      · rename_i hq
        rw [hpq k hk] at h3
        rw [if_neg hq] at h3
        exact ih (k + 1) (by omega) (by omega) h3 m' (by omega)
    · omega
theorem first_new (p q : Nat → Bool) (n n' : Nat) (hn : n < n') (hpq : ∀ i, i < n → p i = q i) (hq : q n = true) : ∀ m k, n < k + m → k ≤ n → firstFrom p n m k < 0 → ∀ m', n' < k + m' → firstFrom q n' m' k = n := by
  intro m
  induction m with
  | zero => intro k h1 h2; omega
  | succ m ih =>
    intro k h1 h2 h3 m' h4
    obtain ⟨m', rfl⟩ : ∃ e, m' = e + 1 := ⟨m' - 1, by omega⟩
    unfold firstFrom at h3
    split at h3
    · rename_i hk
      unfold firstFrom
      rw [if_pos (by omega)]
      split at h3
      · omega
      · rename_i hp
        rw [if_neg (by rw [← hpq k hk]; exact hp)]
        exact ih (k + 1) (by omega) (by omega) h3 m' (by omega)
    · have : k = n := by omega
      subst this
      unfold firstFrom
      rw [if_pos hn, if_pos hq]
theorem kAt_app {L s : List Known} {i : Nat} (h : i < L.length) : kAt (L ++ s) i = kAt L i := by
  simp only [kAt, List.getD_eq_getElem?_getD]
  rw [List.getElem?_append_left h]
/-- What was put is found again. -/
theorem put_again {L : List Known} {x : Known} (hk : x.kind ≠ 5) (s : List Known) (hs : 400 ≤ L.length → s = []) : putL ((putL L x).2.2 ++ s) x = ((putL L x).1, (putL L x).2.1, (putL L x).2.2 ++ s) := by
  by_cases hf : 0 ≤ firstL (isLike x) L
  · have e : putL L x = (firstL (isLike x) L, 0, L) := by simp [putL, hf]
    rw [e]
    simp only
    have : firstL (isLike x) (L ++ s) = firstL (isLike x) L := first_ext _ _ _ _ (by simp) (fun i hi => by rw [kAt_app hi]) _ _ (by omega) (by omega) hf _ (by omega)
    simp [putL, this, hf]
  · by_cases h4 : 400 ≤ L.length
    · have e : putL L x = (0, 8, L) := by simp [putL, hf, h4]
      rw [e]
      simp only
      rw [hs h4, List.append_nil, e]
    · have e : putL L x = ((L.length : Int), 0, L ++ [x]) := by simp [putL, hf, h4]
      rw [e]
      simp only
      have hkn : kAt (L ++ x :: s) L.length = x := by simp [kAt, List.getD_eq_getElem?_getD]
      have hneg : firstFrom (fun k => isLike x (kAt L k)) L.length (L.length + 1) 0 < 0 := by unfold firstL at hf; omega
      have : firstL (isLike x) (L ++ x :: s) = L.length := first_new (fun k => isLike x (kAt L k)) (fun k => isLike x (kAt (L ++ x :: s) k)) L.length (L ++ x :: s).length (by simp) (fun i hi => by rw [kAt_app hi]) (by rw [hkn]; exact like_self hk) _ 0 (by omega) (by omega) hneg _ (by omega)
      simp [putL, this]
theorem put_pre (L : List Known) (x : Known) : ∃ s, (putL L x).2.2 = L ++ s ∧ (400 ≤ L.length → s = []) := by
  unfold putL
  split
  · exact ⟨[], by simp, fun _ => rfl⟩
  · split
    · exact ⟨[], by simp, fun _ => rfl⟩
    · exact ⟨[x], rfl, fun h => by omega⟩
theorem ptr_pre (L : List Known) (n : Int) : ∃ s, (ptrL L n).2.2 = L ++ s ∧ (400 ≤ L.length → s = []) := by
  unfold ptrL
  split
  · exact put_pre _ _
  · exact ⟨[], by simp, fun _ => rfl⟩
theorem array_pre (L : List Known) (n m : Int) : ∃ s, (arrayL L n m).2.2 = L ++ s ∧ (400 ≤ L.length → s = []) := by
  unfold arrayL
  split
  · split
    · exact ⟨[], by simp, fun _ => rfl⟩
    · split
      · exact ⟨[], by simp, fun _ => rfl⟩
      · split
        · exact ⟨[], by simp, fun _ => rfl⟩
        · exact put_pre _ _
  · exact ⟨[], by simp, fun _ => rfl⟩
theorem has_pre {L s : List Known} {n : Int} (h : hasL L n = true) : hasL (L ++ s) n = true ∧ atL (L ++ s) n = atL L n := by
  have := hasL_lt h
  refine ⟨by simp [hasL]; omega, ?_⟩
  unfold atL
  rw [List.getD_eq_getElem?_getD, List.getElem?_append_left this.2.2.1, List.getD_eq_getElem?_getD]
theorem ptr_again (L : List Known) (n : Int) (s : List Known) (hs : 400 ≤ L.length → s = []) (hn : hasL L n = false → s = []) : ptrL ((ptrL L n).2.2 ++ s) n = ((ptrL L n).1, (ptrL L n).2.1, (ptrL L n).2.2 ++ s) := by
  cases hh : hasL L n with
  | true =>
    have e : ptrL L n = putL L (kn 3 n 0 4 4) := by simp [ptrL, hh]
    obtain ⟨u, hu, _⟩ := ptr_pre L n
    have e2 : hasL ((ptrL L n).2.2 ++ s) n = true := by rw [hu, List.append_assoc]; exact (has_pre hh).1
    unfold ptrL at e2 ⊢
    rw [if_pos e2]
    simp only [hh, if_true]
    exact put_again (by simp [kn]) s hs
  | false => rw [hn hh]; simp [ptrL, hh]
theorem array_put {M : List Known} {n m z al : Int} (h : hasL M n = true) (hz : sizeL M n = z) (ha : alignL M n = al) (h0 : ¬ z = 0) (h1 : ¬ m < 1) (h2 : ¬ (32768 : Int).tdiv z < m) : arrayL M n m = putL M (kn 4 n m (IntKind.i64.wrap (m * z)) al) := by
  unfold arrayL
  rw [if_pos h, hz, ha, if_neg h0, if_neg h1, if_neg h2]
theorem array_again (L : List Known) (n m : Int) (s : List Known) (hs : 400 ≤ L.length → s = []) (hn : hasL L n = false → s = []) : arrayL ((arrayL L n m).2.2 ++ s) n m = ((arrayL L n m).1, (arrayL L n m).2.1, (arrayL L n m).2.2 ++ s) := by
  cases hh : hasL L n with
  | true =>
    obtain ⟨u, hu, _⟩ := array_pre L n m
    have e2 := has_pre (s := u ++ s) hh
    rw [← List.append_assoc, ← hu] at e2
    have es : sizeL ((arrayL L n m).2.2 ++ s) n = sizeL L n := by simp [sizeL, hh, e2]
    have ea : alignL ((arrayL L n m).2.2 ++ s) n = alignL L n := by simp [alignL, hh, e2]
    by_cases h0 : sizeL L n = 0
    · have e : arrayL L n m = (0, 5, L) := by simp [arrayL, hh, h0]
      rw [e] at e2 es ⊢
      simp [arrayL, e2, es, h0]
    · by_cases h1 : m < 1
      · have e : arrayL L n m = (0, 1, L) := by simp [arrayL, hh, h0, h1]
        rw [e] at e2 es ⊢
        simp [arrayL, e2, es, h0, h1]
      · by_cases h2 : (32768 : Int).tdiv (sizeL L n) < m
        · have e : arrayL L n m = (0, 2, L) := by simp [arrayL, hh, h0, h1, h2]
          rw [e] at e2 es ⊢
          simp [arrayL, e2, es, h0, h1, h2]
        · have e : arrayL L n m = putL L (kn 4 n m (IntKind.i64.wrap (m * sizeL L n)) (alignL L n)) := by simp [arrayL, hh, h0, h1, h2]
          have e3 : arrayL ((arrayL L n m).2.2 ++ s) n m = putL ((arrayL L n m).2.2 ++ s) (kn 4 n m (IntKind.i64.wrap (m * sizeL L n)) (alignL L n)) := array_put e2.1 es ea h0 h1 h2
          rw [e3, e]
          exact put_again (by simp [kn]) s hs
  | false => rw [hn hh]; simp [arrayL, hh]
end Go.Ev.Try

/- KindOnce: the same type, made again, has the same number. -/
namespace Go.Ev.Try
open Go Go.Ev Go.Proofs Go.RowKit

theorem eq27 (a b : Int) : abin Try.prog .eql 27 (vi a) (vi b) = some (vb (decide (a = b))) := abin_eql _ _ _ _ _
theorem nil_of_app {α : Type} {l s : List α} (h : l = l ++ s) : s = [] := by
  have := congrArg List.length h
  simp at this
  exact this
theorem kindOnce {H : Heap} {nl : Bool} {l : List Act} (hn : ∀ a ∈ l, actNl a) {n long : Int} : evCall Try.prog (C 2) 100 1 3 [.d (actsD nl l), vi n, vi long] H = some (vb true, H) := by
  rw [evCall_pureEq (fi := fi3) rfl rfl (b3 _ _ _ _ _ _)]
  unfold s3
  have hfew := few_ok (μ := 2) (d := 98) (lim := 1) (H := [] :: H) (actsSV _ nl l)
  have haw := fun H => awake_ok (μ := 2) (H := H)
  simp -implicitDefEqProofs [hfew]
  cases hf : fewL l with
  | false => simp -implicitDefEqProofs [haw]
  | true =>
    obtain ⟨hl, ha⟩ := few_ok' hf hn
    obtain ⟨B, hnew, hT0⟩ := new_ok (μ := 2) (d := 98) (lim := 1) (A := []) (H := H)
    simp only [List.nil_append, List.length_nil, Nat.zero_add] at hnew hT0
    simp -implicitDefEqProofs [hnew, lp, bnd_eq]
    have hbeg := fun H => begin_ok (μ := 2) (d := 98) (lim := 1) (H := H)
    obtain ⟨r, hr, A, b, rfl, hT⟩ := acts_loop (F := s3.l0 (evCall Try.prog (C 2) 99 1) 1) (H := H) (nl := nl) hl ha (fun k => [.d (actsD nl l), vi n, vi long, .ptr 0 1 0, vi k]) [vi n, vi long, .ptr 0 1 0]
      (fun k a A A' v hg e => by
        obtain ⟨p, h1, h2⟩ := act_read (H := H) (nl := nl) hg
        have hk := (List.getElem?_eq_some_iff.1 hg).1
        have hln : lnS (.d (actsD nl l)) = some (vi l.length) := rfl
        unfold s3.l0
        simp -implicitDefEqProofs [hln, hk, h1, h2, hbeg, e, wrap_succ (show k < 1000000000 by omega)])
      (fun A => by
        have hln : lnS (.d (actsD nl l)) = some (vi l.length) := rfl
        unfold s3.l0
        simp -implicitDefEqProofs [hln]) hT0
    simp only [Int.natCast_zero] at hr
    rw [hr]
    obtain ⟨dep, hI⟩ := inv_tab ha l.length (Nat.le_refl _)
    rw [List.take_of_length_le (Nat.le_refl _)] at hI
    generalize tabL l = L at *
    obtain ⟨d1, hI1⟩ := inv_ptr hI n
    obtain ⟨d2, hI2⟩ := inv_array hI1 n long
    obtain ⟨⟨v1, H1⟩, e1, w1, A1, b1, x1, hT1, _, _⟩ := ptr_ok (μ := 2) (d := 95) (lim := 1) (H := H) hT (by omega) hI.len (n := n)
    dsimp only at w1 x1
    subst w1 x1
    obtain ⟨⟨v2, H2⟩, e2, w2, A2, b2, x2, hT2, _, _⟩ := array_ok (μ := 2) (d := 95) (lim := 1) (H := H) hT1 (by omega) hI1.len (n := n) (long := long) (hI1.sane.size _).1
    dsimp only at w2 x2
    subst w2 x2
    have hc2 := count_ok (μ := 2) (d := 98) (lim := 1) (hT2.at_ H)
    obtain ⟨⟨v3, H3⟩, e3, w3, A3, b3, x3, hT3, _, _⟩ := ptr_ok (μ := 2) (d := 95) (lim := 1) (H := H) hT2 (by omega) hI2.len (n := n)
    dsimp only at w3 x3
    subst w3 x3
    obtain ⟨s, hs, hs4⟩ := array_pre (ptrL L n).2.2 n long
    obtain ⟨u, hu, _⟩ := ptr_pre L n
    have hp : ptrL (arrayL (ptrL L n).2.2 n long).2.2 n = ((ptrL L n).1, (ptrL L n).2.1, (arrayL (ptrL L n).2.2 n long).2.2) := by
      rw [hs]
      refine ptr_again L n s (fun h4 => hs4 (by rw [hu]; simp; omega)) (fun hh => ?_)
      have e : (ptrL L n).2.2 = L := by simp [ptrL, hh]
      have e' : (arrayL (ptrL L n).2.2 n long).2.2 = L := by rw [e]; simp [arrayL, hh]
      rw [e', e] at hs
      exact nil_of_app hs
    have hq : arrayL (arrayL (ptrL L n).2.2 n long).2.2 n long = ((arrayL (ptrL L n).2.2 n long).1, (arrayL (ptrL L n).2.2 n long).2.1, (arrayL (ptrL L n).2.2 n long).2.2) := by
      have := array_again (ptrL L n).2.2 n long [] (fun _ => rfl) (fun _ => rfl)
      simpa using this
    rw [hp] at e3 hT3
    obtain ⟨⟨v4, H4⟩, e4, w4, A4, b4, x4, hT4, _, _⟩ := array_ok (μ := 2) (d := 95) (lim := 1) (H := H) hT3 (by omega) hI2.len (n := n) (long := long) (hI2.sane.size _).1
    dsimp only at w4 x4
    subst w4 x4
    rw [hq] at e4 hT4
    have hc4 := count_ok (μ := 2) (d := 98) (lim := 1) (hT4.at_ H)
    simp -implicitDefEqProofs [gv, e1, e2, e3, e4, hc2, hc4, haw, eq27]
theorem walkKindOnce {d0 d1 d2 : D} {W : World} {v0 v1 v2 : Value} (h0 : DOk Try.prog 8 22 [d0]) (h1 : DOk Try.prog 8 3 [d1]) (h2 : DOk Try.prog 8 3 [d2]) (hv : VRs (IW W) G0 [.d d0, .d d1, .d d2] [v0, v1, v2]) :
    Calls Try.prog 3 #[v0, v1, v2] W (fun x W' => x = .returned (.bool true) ∧ Below W.heap.size W W') := by
  obtain ⟨nl, l, rfl, hn⟩ := dok22 h0
  obtain ⟨n, h1, _⟩ := dok3 h1
  obtain ⟨m, h2, _⟩ := dok3 h2
  obtain rfl : d1 = .int .i64 n := by simpa using h1
  obtain rfl : d2 = .int .i64 m := by simpa using h2
  exact calls_true (fits 2) follows (kindOnce hn) hv
end Go.Ev.Try
