import Derived.Test.YtfamldpmpjdlpaaK3
set_option linter.unusedSimpArgs false
set_option linter.unusedVariables false
/- The laws' loops over what is done; KindOnce. -/
namespace Go.Ev.Try
open Go Go.Ev Go.Proofs Go.RowKit

def actsD (nl : Bool) (l : List Act) : D := .seq nl l.length (l.flatMap aD)
theorem actsSV (H : Heap) (nl : Bool) (l : List Act) : SV H (.d (actsD nl l)) 5 (l.map aD) := ⟨fun r hr => by obtain ⟨a, _, rfl⟩ := List.mem_map.1 hr; rfl, .inl ⟨nl, by simp [actsD, List.flatMap]⟩⟩
def tabL (l : List Act) : List Known := l.foldl (fun L a => (doneL L a).2.2) L0
theorem tab_snoc {l : List Act} {k : Nat} {a : Act} (h : l[k]? = some a) : tabL (l.take (k + 1)) = (doneL (tabL (l.take k)) a).2.2 := by
  unfold tabL
  rw [List.take_add_one, h]
  simp
theorem few_ok' {l : List Act} (hf : fewL l = true) (hn : ∀ a ∈ l, actNl a) : l.length ≤ 30 ∧ ∀ a ∈ l, ActOk a := by
  simp only [fewL, Bool.and_eq_true, decide_eq_true_eq, Bool.not_eq_true', List.any_eq_false] at hf
  refine ⟨hf.1, fun a ha => ⟨hn a ha, ?_⟩⟩
  have := hf.2 a ha
  simp [badA] at this
  omega
theorem inv_tab {l : List Act} (ha : ∀ a ∈ l, ActOk a) : ∀ k, k ≤ l.length → ∃ dep, Inv (tabL (l.take k)) dep k := by
  intro k
  induction k with
  | zero => intro _; exact ⟨_, inv0⟩
  | succ k ih =>
    intro hk
    obtain ⟨dep, h⟩ := ih (by omega)
    have hg : l[k]? = some l[k] := List.getElem?_eq_getElem (by omega)
    rw [tab_snoc hg]
    exact inv_done h (ha _ (List.getElem_mem _))
theorem act_read {H : Heap} {nl : Bool} {l : List Act} {k : Nat} {a : Act} (h : l[k]? = some a) : ∃ p, ixS 5 (.d (actsD nl l)) (vi k) = some p ∧ ∀ A, ldA 5 (A :: H) p = some (.agg (acs a)) := by
  have hk := (List.getElem?_eq_some_iff.1 h).1
  obtain ⟨p, q, r⟩ := (actsSV H nl l).read (aAt_some hk)
  have : aAt l k = a := by simp [aAt, h]
  rw [this] at r
  refine ⟨p, by simpa using r.ix, fun A => ?_⟩
  rw [r.all, aD_map]
/-- What is done, one after another, the reference always at its beginning: the laws' rounds all alike. -/
theorem acts_loop {F : List AV → Heap → Option Res} {H : Heap} {nl : Bool} {l : List Act} (hl : l.length ≤ 30) (ha : ∀ a ∈ l, ActOk a) (S : Nat → List AV) (X : List AV)
    (hgo : ∀ (k : Nat) (a : Act) (A A' : Arena) (v : AV), l[k]? = some a → evCall Try.prog (C 2) 99 1 11 [.agg (acs a), .ptr 0 1 0, .d (rows L0)] (A :: H) = some (v, A' :: H) → F (S k) (A :: H) = some (.normal, S (k + 1), A' :: H))
    (hex : ∀ A : Arena, F (S l.length) (A :: H) = some (.exit 0, X, A :: H)) {A0 : Arena} {b0 : Nat} (h0 : Tab A0 1 b0 L0) :
    Gives (iterN LB F (S 0) (A0 :: H)) fun r => ∃ A b, r = (.exit 0, X, A :: H) ∧ Tab A 1 b (tabL l) := by
  refine iter_gives (Inv := fun k s Hh => ∃ A b, Hh = A :: H ∧ s = S k ∧ Tab A 1 b (tabL (l.take k))) l.length (big_lt (by omega)) (fun k hk s Hh h => ?_) ⟨A0, b0, rfl, rfl, h0⟩
  obtain ⟨A, b, rfl, rfl, hT⟩ := h
  rcases Nat.lt_or_ge k l.length with hk' | hk'
  · left
    have hg : l[k]? = some l[k] := List.getElem?_eq_getElem hk'
    obtain ⟨dep, hI⟩ := inv_tab ha k hk
    obtain ⟨⟨v, H'⟩, e1, _, A', b', e3, hT', _, _⟩ := done_ok (lim := 1) (d := 99) (H := H) hT (by omega) hI (inv0.more (Nat.zero_le k)) (ha _ (List.getElem_mem hk')) (by omega)
    dsimp only at e3
    subst e3
    exact ⟨_, _, hk', hgo k _ A A' v hg e1, A', b', rfl, rfl, by rw [tab_snoc hg]; exact hT'⟩
  · right
    have : k = l.length := by omega
    subst this
    rw [List.take_of_length_le (Nat.le_refl _)] at hT
    exact ⟨_, hex A, by simp, A, b, rfl, hT⟩

/-! ### Made again -/
theorem like_self {x : Known} (h : x.kind ≠ 5) : isLike x x = true := by simp [isLike, h]
theorem first_ext (p q : Nat → Bool) (n n' : Nat) (hn : n ≤ n') (hpq : ∀ i, i < n → p i = q i) : ∀ m k, n < k + m → k ≤ n → 0 ≤ firstFrom p n m k → ∀ m', n' < k + m' → firstFrom q n' m' k = firstFrom p n m k := by
  intro m
  induction m with
  | zero => intro k h1 h2; omega
  | succ m ih =>
    intro k h1 h2 h3 m' h4
    unfold firstFrom at h3
    split at h3
    · rename_i hk
      obtain ⟨m', rfl⟩ : ∃ e, m' = e + 1 := ⟨m' - 1, by omega⟩
      unfold firstFrom
      rw [if_pos hk, if_pos (by omega), hpq k hk]
      split
      · rfl
      · rename_i hq
        rw [hpq k hk] at h3
        rw [if_neg hq] at h3
        exact ih (k + 1) (by omega) (by omega) h3 m' (by omega)
    · omega
theorem first_new (p q : Nat → Bool) (n n' : Nat) (hn : n < n') (hpq : ∀ i, i < n → p i = q i) (hq : q n = true) : ∀ m k, n < k + m → k ≤ n → firstFrom p n m k < 0 → ∀ m', n' < k + m' → firstFrom q n' m' k = n := by
  intro m
  induction m with
  | zero => intro k h1 h2; omega
  | succ m ih =>
    intro k h1 h2 h3 m' h4
    obtain ⟨m', rfl⟩ : ∃ e, m' = e + 1 := ⟨m' - 1, by omega⟩
    unfold firstFrom at h3
    split at h3
    · rename_i hk
      unfold firstFrom
      rw [if_pos (by omega)]
      split at h3
      · omega
      · rename_i hp
        rw [if_neg (by rw [← hpq k hk]; exact hp)]
        exact ih (k + 1) (by omega) (by omega) h3 m' (by omega)
    · have : k = n := by omega
      subst this
      unfold firstFrom
      rw [if_pos hn, if_pos hq]
theorem kAt_app {L s : List Known} {i : Nat} (h : i < L.length) : kAt (L ++ s) i = kAt L i := by
  simp only [kAt, List.getD_eq_getElem?_getD]
  rw [List.getElem?_append_left h]
/-- What was put is found again. -/
theorem put_again {L : List Known} {x : Known} (hk : x.kind ≠ 5) (s : List Known) (hs : 400 ≤ L.length → s = []) : putL ((putL L x).2.2 ++ s) x = ((putL L x).1, (putL L x).2.1, (putL L x).2.2 ++ s) := by
  by_cases hf : 0 ≤ firstL (isLike x) L
  · have e : putL L x = (firstL (isLike x) L, 0, L) := by simp [putL, hf]
    rw [e]
    simp only
    have : firstL (isLike x) (L ++ s) = firstL (isLike x) L := first_ext _ _ _ _ (by simp) (fun i hi => by rw [kAt_app hi]) _ _ (by omega) (by omega) hf _ (by omega)
    simp [putL, this, hf]
  · by_cases h4 : 400 ≤ L.length
    · have e : putL L x = (0, 8, L) := by simp [putL, hf, h4]
      rw [e]
      simp only
      rw [hs h4, List.append_nil, e]
    · have e : putL L x = ((L.length : Int), 0, L ++ [x]) := by simp [putL, hf, h4]
      rw [e]
      simp only
      have hkn : kAt (L ++ x :: s) L.length = x := by simp [kAt, List.getD_eq_getElem?_getD]
      have hneg : firstFrom (fun k => isLike x (kAt L k)) L.length (L.length + 1) 0 < 0 := by unfold firstL at hf; omega
      have : firstL (isLike x) (L ++ x :: s) = L.length := first_new (fun k => isLike x (kAt L k)) (fun k => isLike x (kAt (L ++ x :: s) k)) L.length (L ++ x :: s).length (by simp) (fun i hi => by rw [kAt_app hi]) (by rw [hkn]; exact like_self hk) _ 0 (by omega) (by omega) hneg _ (by omega)
      simp [putL, this]
theorem put_pre (L : List Known) (x : Known) : ∃ s, (putL L x).2.2 = L ++ s ∧ (400 ≤ L.length → s = []) := by
  unfold putL
  split
  · exact ⟨[], by simp, fun _ => rfl⟩
  · split
    · exact ⟨[], by simp, fun _ => rfl⟩
    · exact ⟨[x], rfl, fun h => by omega⟩
theorem ptr_pre (L : List Known) (n : Int) : ∃ s, (ptrL L n).2.2 = L ++ s ∧ (400 ≤ L.length → s = []) := by
  unfold ptrL
  split
  · exact put_pre _ _
  · exact ⟨[], by simp, fun _ => rfl⟩
theorem array_pre (L : List Known) (n m : Int) : ∃ s, (arrayL L n m).2.2 = L ++ s ∧ (400 ≤ L.length → s = []) := by
  unfold arrayL
  split
  · split
    · exact ⟨[], by simp, fun _ => rfl⟩
    · split
      · exact ⟨[], by simp, fun _ => rfl⟩
      · split
        · exact ⟨[], by simp, fun _ => rfl⟩
        · exact put_pre _ _
  · exact ⟨[], by simp, fun _ => rfl⟩
theorem has_pre {L s : List Known} {n : Int} (h : hasL L n = true) : hasL (L ++ s) n = true ∧ atL (L ++ s) n = atL L n := by
  have := hasL_lt h
  refine ⟨by simp [hasL]; omega, ?_⟩
  unfold atL
  rw [List.getD_eq_getElem?_getD, List.getElem?_append_left this.2.2.1, List.getD_eq_getElem?_getD]
theorem ptr_again (L : List Known) (n : Int) (s : List Known) (hs : 400 ≤ L.length → s = []) (hn : hasL L n = false → s = []) : ptrL ((ptrL L n).2.2 ++ s) n = ((ptrL L n).1, (ptrL L n).2.1, (ptrL L n).2.2 ++ s) := by
  cases hh : hasL L n with
  | true =>
    have e : ptrL L n = putL L (kn 3 n 0 4 4) := by simp [ptrL, hh]
    obtain ⟨u, hu, _⟩ := ptr_pre L n
    have e2 : hasL ((ptrL L n).2.2 ++ s) n = true := by rw [hu, List.append_assoc]; exact (has_pre hh).1
    unfold ptrL at e2 ⊢
    rw [if_pos e2]
    simp only [hh, if_true]
    exact put_again (by simp [kn]) s hs
  | false => rw [hn hh]; simp [ptrL, hh]
theorem array_put {M : List Known} {n m z al : Int} (h : hasL M n = true) (hz : sizeL M n = z) (ha : alignL M n = al) (h0 : ¬ z = 0) (h1 : ¬ m < 1) (h2 : ¬ (32768 : Int).tdiv z < m) : arrayL M n m = putL M (kn 4 n m (IntKind.i64.wrap (m * z)) al) := by
  unfold arrayL
  rw [if_pos h, hz, ha, if_neg h0, if_neg h1, if_neg h2]
theorem array_again (L : List Known) (n m : Int) (s : List Known) (hs : 400 ≤ L.length → s = []) (hn : hasL L n = false → s = []) : arrayL ((arrayL L n m).2.2 ++ s) n m = ((arrayL L n m).1, (arrayL L n m).2.1, (arrayL L n m).2.2 ++ s) := by
  cases hh : hasL L n with
  | true =>
    obtain ⟨u, hu, _⟩ := array_pre L n m
    have e2 := has_pre (s := u ++ s) hh
    rw [← List.append_assoc, ← hu] at e2
    have es : sizeL ((arrayL L n m).2.2 ++ s) n = sizeL L n := by simp [sizeL, hh, e2]
    have ea : alignL ((arrayL L n m).2.2 ++ s) n = alignL L n := by simp [alignL, hh, e2]
    by_cases h0 : sizeL L n = 0
    · have e : arrayL L n m = (0, 5, L) := by simp [arrayL, hh, h0]
      rw [e] at e2 es ⊢
      simp [arrayL, e2, es, h0]
    · by_cases h1 : m < 1
      · have e : arrayL L n m = (0, 1, L) := by simp [arrayL, hh, h0, h1]
        rw [e] at e2 es ⊢
        simp [arrayL, e2, es, h0, h1]
      · by_cases h2 : (32768 : Int).tdiv (sizeL L n) < m
        · have e : arrayL L n m = (0, 2, L) := by simp [arrayL, hh, h0, h1, h2]
          rw [e] at e2 es ⊢
          simp [arrayL, e2, es, h0, h1, h2]
        · have e : arrayL L n m = putL L (kn 4 n m (IntKind.i64.wrap (m * sizeL L n)) (alignL L n)) := by simp [arrayL, hh, h0, h1, h2]
          have e3 : arrayL ((arrayL L n m).2.2 ++ s) n m = putL ((arrayL L n m).2.2 ++ s) (kn 4 n m (IntKind.i64.wrap (m * sizeL L n)) (alignL L n)) := array_put e2.1 es ea h0 h1 h2
          rw [e3, e]
          exact put_again (by simp [kn]) s hs
  | false => rw [hn hh]; simp [arrayL, hh]
end Go.Ev.Try

/- KindOnce: the same type, made again, has the same number. -/
namespace Go.Ev.Try
open Go Go.Ev Go.Proofs Go.RowKit

theorem eq27 (a b : Int) : abin Try.prog .eql 27 (vi a) (vi b) = some (vb (decide (a = b))) := abin_eql _ _ _ _ _
theorem nil_of_app {α : Type} {l s : List α} (h : l = l ++ s) : s = [] := by
  have := congrArg List.length h
  simp at this
  exact this
theorem kindOnce {H : Heap} {nl : Bool} {l : List Act} (hn : ∀ a ∈ l, actNl a) {n long : Int} : evCall Try.prog (C 2) 100 1 3 [.d (actsD nl l), vi n, vi long] H = some (vb true, H) := by
  rw [evCall_pureEq (fi := fi3) rfl rfl (b3 _ _ _ _ _ _)]
  unfold s3
  have hfew := few_ok (μ := 2) (d := 98) (lim := 1) (H := [] :: H) (actsSV _ nl l)
  have haw := fun H => awake_ok (μ := 2) (H := H)
  simp -implicitDefEqProofs [hfew]
  cases hf : fewL l with
  | false => simp -implicitDefEqProofs [haw]
  | true =>
    obtain ⟨hl, ha⟩ := few_ok' hf hn
    obtain ⟨B, hnew, hT0⟩ := new_ok (μ := 2) (d := 98) (lim := 1) (A := []) (H := H)
    simp only [List.nil_append, List.length_nil, Nat.zero_add] at hnew hT0
    simp -implicitDefEqProofs [hnew, lp, bnd_eq]
    have hbeg := fun H => begin_ok (μ := 2) (d := 98) (lim := 1) (H := H)
    obtain ⟨r, hr, A, b, rfl, hT⟩ := acts_loop (F := s3.l0 (evCall Try.prog (C 2) 99 1) 1) (H := H) (nl := nl) hl ha (fun k => [.d (actsD nl l), vi n, vi long, .ptr 0 1 0, vi k]) [vi n, vi long, .ptr 0 1 0]
      (fun k a A A' v hg e => by
        obtain ⟨p, h1, h2⟩ := act_read (H := H) (nl := nl) hg
        have hk := (List.getElem?_eq_some_iff.1 hg).1
        have hln : lnS (.d (actsD nl l)) = some (vi l.length) := rfl
        unfold s3.l0
        simp -implicitDefEqProofs [hln, hk, h1, h2, hbeg, e, wrap_succ (show k < 1000000000 by omega)])
      (fun A => by
        have hln : lnS (.d (actsD nl l)) = some (vi l.length) := rfl
        unfold s3.l0
        simp -implicitDefEqProofs [hln]) hT0
    simp only [Int.natCast_zero] at hr
    rw [hr]
    obtain ⟨dep, hI⟩ := inv_tab ha l.length (Nat.le_refl _)
    rw [List.take_of_length_le (Nat.le_refl _)] at hI
    generalize tabL l = L at *
    obtain ⟨d1, hI1⟩ := inv_ptr hI n
    obtain ⟨d2, hI2⟩ := inv_array hI1 n long
    obtain ⟨⟨v1, H1⟩, e1, w1, A1, b1, x1, hT1, _, _⟩ := ptr_ok (μ := 2) (d := 95) (lim := 1) (H := H) hT (by omega) hI.len (n := n)
    dsimp only at w1 x1
    subst w1 x1
    obtain ⟨⟨v2, H2⟩, e2, w2, A2, b2, x2, hT2, _, _⟩ := array_ok (μ := 2) (d := 95) (lim := 1) (H := H) hT1 (by omega) hI1.len (n := n) (long := long) (hI1.sane.size _).1
    dsimp only at w2 x2
    subst w2 x2
    have hc2 := count_ok (μ := 2) (d := 98) (lim := 1) (hT2.at_ H)
    obtain ⟨⟨v3, H3⟩, e3, w3, A3, b3, x3, hT3, _, _⟩ := ptr_ok (μ := 2) (d := 95) (lim := 1) (H := H) hT2 (by omega) hI2.len (n := n)
    dsimp only at w3 x3
    subst w3 x3
    obtain ⟨s, hs, hs4⟩ := array_pre (ptrL L n).2.2 n long
    obtain ⟨u, hu, _⟩ := ptr_pre L n
    have hp : ptrL (arrayL (ptrL L n).2.2 n long).2.2 n = ((ptrL L n).1, (ptrL L n).2.1, (arrayL (ptrL L n).2.2 n long).2.2) := by
      rw [hs]
      refine ptr_again L n s (fun h4 => hs4 (by rw [hu]; simp; omega)) (fun hh => ?_)
      have e : (ptrL L n).2.2 = L := by simp [ptrL, hh]
      have e' : (arrayL (ptrL L n).2.2 n long).2.2 = L := by rw [e]; simp [arrayL, hh]
      rw [e', e] at hs
      exact nil_of_app hs
    have hq : arrayL (arrayL (ptrL L n).2.2 n long).2.2 n long = ((arrayL (ptrL L n).2.2 n long).1, (arrayL (ptrL L n).2.2 n long).2.1, (arrayL (ptrL L n).2.2 n long).2.2) := by
      have := array_again (ptrL L n).2.2 n long [] (fun _ => rfl) (fun _ => rfl)
      simpa using this
    rw [hp] at e3 hT3
    obtain ⟨⟨v4, H4⟩, e4, w4, A4, b4, x4, hT4, _, _⟩ := array_ok (μ := 2) (d := 95) (lim := 1) (H := H) hT3 (by omega) hI2.len (n := n) (long := long) (hI2.sane.size _).1
    dsimp only at w4 x4
    subst w4 x4
    rw [hq] at e4 hT4
    have hc4 := count_ok (μ := 2) (d := 98) (lim := 1) (hT4.at_ H)
    simp -implicitDefEqProofs [gv, e1, e2, e3, e4, hc2, hc4, haw, eq27]
theorem walkKindOnce {d0 d1 d2 : D} {W : World} {v0 v1 v2 : Value} (h0 : DOk Try.prog 8 22 [d0]) (h1 : DOk Try.prog 8 3 [d1]) (h2 : DOk Try.prog 8 3 [d2]) (hv : VRs (IW W) G0 [.d d0, .d d1, .d d2] [v0, v1, v2]) :
    Calls Try.prog 3 #[v0, v1, v2] W (fun x W' => x = .returned (.bool true) ∧ Below W.heap.size W W') := by
  obtain ⟨nl, l, rfl, hn⟩ := dok22 h0
  obtain ⟨n, h1, _⟩ := dok3 h1
  obtain ⟨m, h2, _⟩ := dok3 h2
  obtain rfl : d1 = .int .i64 n := by simpa using h1
  obtain rfl : d2 = .int .i64 m := by simpa using h2
  exact calls_true (fits 2) follows (kindOnce hn) hv
end Go.Ev.Try

/- KindLies: sizes, alignments and how fields lie. -/
namespace Go.Ev.Try
open Go Go.Ev Go.Proofs Go.RowKit

/-- Alignments divide sizes. -/
theorem inv_dvd {L : List Known} {dep : Nat → Nat} {D : Nat} (h : Inv L dep D) : ∀ n, alignL L n ∣ sizeL L n := by
  have hb : ∀ (q : Nat) (n : Int), dep n.toNat < q → alignL L n ∣ sizeL L n := by
    intro q
    induction q with
    | zero => intro n hn; omega
    | succ q ih =>
      intro n hn
      unfold alignL sizeL
      cases hh : hasL L n with
      | false => simp
      | true =>
        simp only [if_true]
        rcases h.wf.at hh with ⟨_, h1, h2⟩ | ⟨_, _, h1, h2⟩ | ⟨_, _, h1, h2⟩ | ⟨_, _, h1, h2⟩ | ⟨h0, h1, h2, h3, h4, h5⟩ | ⟨_, _, h1, h2⟩ | ⟨h0, h1, h2, h3, h4, h5⟩
        · rw [h1, h2]; decide
        · rw [h1, h2]; decide
        · rw [h1, h2]; decide
        · rw [h1, h2]; decide
        · rw [h3, h4]
          exact Int.dvd_trans (ih _ (by omega)) (Int.dvd_mul_left _ _)
        · rw [h1, h2]; decide
        · have hE := endF_le h3 (show (0 : Int) ≤ 0 by omega)
          have hM := maxA_le h3 (show (0 : Int) < 1 ∧ (1 : Int) ≤ 4 by omega)
          rw [← h4] at hM
          rw [h5]
          exact (upZ_ok _ _ hE.1 hM.1).2.2
  exact fun n => hb _ n (Nat.lt_succ_self _)
theorem maxA_ge {L : List Known} : ∀ {fs : List Fld} {a : Int}, a ≤ maxA L fs a ∧ ∀ f ∈ fs, alignL L f.type ≤ maxA L fs a
  | [], a => ⟨Int.le_refl _, fun f hf => by simp at hf⟩
  | f :: fs, a => by
    have h := maxA_ge (L := L) (fs := fs) (a := if a < alignL L f.type then alignL L f.type else a)
    simp only [maxA]
    refine ⟨by have := h.1; split at this <;> omega, fun g hg => ?_⟩
    rcases List.mem_cons.1 hg with rfl | hg
    · have := h.1
      split at this <;> omega
    · exact h.2 g hg
theorem endF_append {L : List Known} : ∀ {fs gs : List Fld} {e : Int}, endF L (fs ++ gs) e = endF L gs (endF L fs e)
  | [], gs, e => rfl
  | f :: fs, gs, e => by simp only [List.cons_append, endF, endF_append]
/-- What is so of one field. -/
theorem inv_field {L : List Known} {dep : Nat → Nat} {D : Nat} (h : Inv L dep D) {n : Int} (hn : hasL L n = true) {k : Nat} {f : Fld} (hf : (atL L n).fields[k]? = some f) :
    f.at_ = upZ (endF L ((atL L n).fields.take k) 0) (alignL L f.type) ∧ 0 ≤ endF L ((atL L n).fields.take k) 0 ∧ endF L ((atL L n).fields.take k) 0 ≤ 32768 ∧ 0 < alignL L f.type ∧ alignL L f.type ∣ alignL L n ∧ f.at_ + sizeL L f.type ≤ sizeL L n ∧ 0 ≤ sizeL L f.type := by
  have hm := List.mem_of_getElem? (hasL_lt hn).2.2.2
  have hlaid := h.laid _ hm
  have hne : (atL L n).fields ≠ [] := fun e => by rw [e] at hf; simp at hf
  have hcl := h.closed _ hm hne
  have hg : f.at_ = upZ (endF L ((atL L n).fields.take k) 0) (alignL L f.type) := by
    have := layR_get (L := L) (e := 0) hf
    rw [hlaid.1, hf] at this
    simp only [Option.some.injEq] at this
    have e := congrArg Fld.at_ this
    exact e
  rcases h.wf.at hn with ⟨h0, _, _⟩ | ⟨_, h0, _, _⟩ | ⟨_, h0, _, _⟩ | ⟨_, h0, _, _⟩ | ⟨_, h0, _⟩ | ⟨_, h0, _, _⟩ | ⟨h0, h1, h2, h3, h4, h5⟩
  · omega
  · omega
  · omega
  · omega
  · omega
  · rw [hcl.2] at h0; cases h0
  · have hsz : sizeL L n = (atL L n).size := by rw [sizeL, if_pos hn]
    have hal : alignL L n = (atL L n).align := by rw [alignL, if_pos hn]
    have hgf := h3 f (List.mem_of_getElem? hf)
    have hE0 := endF_le (fs := (atL L n).fields.take k) (e := 0) (fun g hg => h3 g (List.mem_of_mem_take hg)) (Int.le_refl _)
    have hsn := endF_snoc (L := L) (e := 0) hf
    have hk := (List.getElem?_eq_some_iff.1 hf).1
    have hE1 : endF L ((atL L n).fields.take (k + 1)) 0 ≤ endF L (atL L n).fields 0 := by
      have e : endF L (atL L n).fields 0 = endF L ((atL L n).fields.drop (k + 1)) (endF L ((atL L n).fields.take (k + 1)) 0) := by
        rw [← endF_append, List.take_append_drop]
      rw [e]
      exact (endF_le (fun g hg => h3 g (List.mem_of_mem_drop hg)) (by have := (upZ_ok _ _ hE0.1 hgf.align.1).1; have := hgf.size; omega)).1
    have hEt := endF_le h3 (show (0 : Int) ≤ 0 by omega)
    have hM := maxA_le h3 (show (0 : Int) < 1 ∧ (1 : Int) ≤ 4 by omega)
    rw [← h4] at hM
    have hU := upZ_ok (endF L (atL L n).fields 0) (atL L n).align hEt.1 hM.1
    have hb := h.bnd n
    have hup := upZ_ok (endF L ((atL L n).fields.take k) 0) (alignL L f.type) hE0.1 hgf.align.1
    have hsf := hgf.size
    have hdv : alignL L f.type ∣ alignL L n := by
      have h1 := h.al f.type
      have h2 := h.al n
      have h3' := (maxA_ge (L := L) (fs := (atL L n).fields) (a := 1)).2 f (List.mem_of_getElem? hf)
      rw [← h4, ← hal] at h3'
      have h6 := hgf.align.1
      rcases h1 with e | e | e
      · omega
      · rw [e]; exact Int.one_dvd _
      · rw [e] at h3'
        rcases h2 with e2 | e2 | e2
        · omega
        · omega
        · rw [e, e2]; exact Int.dvd_refl _
    exact ⟨hg, hE0.1, by omega, hgf.align.1, hdv, by omega, by omega⟩

theorem rem_ok (a b : Int) (h : b ≠ 0) : abin Try.prog .rem 3 (vi a) (vi b) = some (vi (a.tmod b)) := abin_rem _ _ _ _ _ h
/-- One type's fields: the round. -/
theorem lies_fields {d : Nat} {H : Heap} {L : List Known} {dep : Nat → Nat} {D : Nat} (hI : Inv L dep D) {n : Int} (hn : hasL L n = true) {b : Nat} {A0 : Arena} (hT : Tab A0 1 b L) {rb : Nat} (hrb : A0[rb]? = some (some [vi (atL L n).kind, vi (atL L n).elem, vi (atL L n).len, vs (atL L n).name, .d (fsO (atL L n).fields)])) :
    Gives (iterN LB (s5.l1 (evCall Try.prog (C 2) (d + 2) 1) 1) [.ptr 0 1 0, vi n, .ptr 0 rb 0, vi (sizeL L n), vi (alignL L n), vi 0, vi 0] (A0 :: H)) fun r =>
      ∃ A e, r = (.exit 4, [.ptr 0 1 0, vi n, vi (sizeL L n), vi e], A :: H) ∧ Tab A 1 b L ∧ e ≤ sizeL L n := by
  have hfl : (atL L n).fields.length < 1000000 := hI.flds _ (List.mem_of_getElem? (hasL_lt hn).2.2.2)
  have hrbl := (List.getElem?_eq_some_iff.1 hrb).1
  refine iter_gives (Inv := fun k s Hh => ∃ B, Hh = (A0 ++ B) :: H ∧ s = [.ptr 0 1 0, vi n, .ptr 0 rb 0, vi (sizeL L n), vi (alignL L n), vi (endF L ((atL L n).fields.take k) 0), vi k] ∧ endF L ((atL L n).fields.take k) 0 ≤ sizeL L n) (atL L n).fields.length (big_lt (by omega)) (fun k hk s Hh h => ?_) ⟨[], by simp, rfl, (hI.sane.size n).1⟩
  obtain ⟨B, rfl, rfl, hle⟩ := h
  have hbox : (A0 ++ B)[rb]? = some (some [vi (atL L n).kind, vi (atL L n).elem, vi (atL L n).len, vs (atL L n).name, .d (fsO (atL L n).fields)]) := by rw [List.getElem?_append_left hrbl, hrb]
  have hlf : lnS (.d (fsO (atL L n).fields)) = some (vi (atL L n).fields.length) := rfl
  rcases Nat.lt_or_ge k (atL L n).fields.length with hk' | hk'
  · left
    obtain ⟨f, hf⟩ : ∃ f, (atL L n).fields[k]? = some f := ⟨_, List.getElem?_eq_getElem hk'⟩
    obtain ⟨h1, h2, h3, h4, h5, h6, h7⟩ := inv_field hI hn hf
    have hup := upZ_ok _ _ h2 h4
    rw [← h1] at hup
    have hbn := hI.bnd n
    have hix : ixS 3 (.d (fsO (atL L n).fields)) (vi k) = some (.dptr ((atL L n).fields.flatMap fD) (k * 3)) := by simp [fsO, fsD, inB_nat hk']
    have hst := stA_new (A := A0 ++ B) (H := H) (c := [.d (.str ⟨#[]⟩), .d (.int .i64 0), .d (.int .i64 0)]) (n := 3) (show 0 < 1 by omega) (fcells_leaf f) rfl rfl
    have hT2 := hT.app (B ++ [some (fcells f)])
    rw [← List.append_assoc] at hT2
    have hal := align_ok (μ := 2) (d := d) (lim := 1) (hT2.at_ H) (n := f.type)
    have hsz := size_ok (μ := 2) (d := d) (lim := 1) (hT2.at_ H) (n := f.type)
    have c1 : (fcells f)[1]? = some (vi f.type) := rfl
    have c2 : (fcells f)[2]? = some (vi f.at_) := rfl
    have hg : ((A0 ++ B) ++ [some (fcells f)])[(A0 ++ B).length]? = some (some (fcells f)) := by simp
    have n1 : ¬ f.at_ < endF L ((atL L n).fields.take k) 0 := by omega
    have n2 : ¬ alignL L f.type < 1 := by omega
    have n3 : f.at_.tmod (alignL L f.type) = 0 := Int.tmod_eq_zero_of_dvd hup.2.2
    have n4 : (alignL L n).tmod (alignL L f.type) = 0 := Int.tmod_eq_zero_of_dvd h5
    have hr1 := rem_ok f.at_ (alignL L f.type) (by omega)
    have hr2 := rem_ok (alignL L n) (alignL L f.type) (by omega)
    have hsn := endF_snoc (L := L) (e := 0) hf
    rw [← h1] at hsn
    have hw1 := wrap_ok (f.at_ + sizeL L f.type) (by omega) (by omega)
    generalize hA : A0 ++ B = A at *
    refine ⟨[.ptr 0 1 0, vi n, .ptr 0 rb 0, vi (sizeL L n), vi (alignL L n), vi (endF L ((atL L n).fields.take (k + 1)) 0), vi (k + 1 : Nat)], (A ++ [some (fcells f)]) :: H, hk', ?_, B ++ [some (fcells f)], by rw [← hA, List.append_assoc], rfl, by rw [hsn]; omega⟩
    unfold s5.l1
    rw [hsn]
    simp -implicitDefEqProofs [hbox, hlf, hk', hix, fsD_cut hf, fD_cells, hst, c1, c2, hal, hsz, n1, n2, n3, n4, hr1, hr2, hw1, wrap_succ (show k < 1000000000 by omega)]
  · right
    have : k = (atL L n).fields.length := by omega
    subst this
    refine ⟨_, ?_, ?_, A0 ++ B, endF L (atL L n).fields 0, rfl, hT.app B, ?_⟩
    · unfold s5.l1
      rw [List.take_of_length_le (Nat.le_refl _)]
      simp -implicitDefEqProofs [hbox, hlf]
    · simp
    · rw [List.take_of_length_le (Nat.le_refl _)] at hle
      exact hle
theorem ne27' (a b : Int) : abin Try.prog .neq 27 (vi a) (vi b) = some (vb (!decide (a = b))) := abin_neq _ _ _ _ _
theorem lies_types {H : Heap} {L : List Known} {dep : Nat → Nat} {D : Nat} (hI : Inv L dep D) {b : Nat} {A0 : Arena} (hT : Tab A0 1 b L) :
    Gives (iterN LB (s5.l2 (evCall Try.prog (C 2) 99 1) 1) [.ptr 0 1 0, vi 0] (A0 :: H)) fun r => ∃ A, r = (.exit 2, [], A :: H) := by
  refine iter_gives (Inv := fun k s Hh => ∃ A, Hh = A :: H ∧ s = [.ptr 0 1 0, vi k] ∧ Tab A 1 b L) L.length (big_lt (by have := hI.len; omega)) (fun k hk s Hh h => ?_) ⟨A0, rfl, rfl, hT⟩
  obtain ⟨A, rfl, rfl, hT⟩ := h
  have hL := hI.len
  have hcnt := count_ok (μ := 2) (d := 98) (lim := 1) (hT.at_ H)
  rcases Nat.lt_or_ge k L.length with hk' | hk'
  · left
    have hn := hasL_nat hk'
    have hty := type_ok (μ := 2) (d := 97) (lim := 1) (hT.at_ H) hI.flds (n := (k : Int))
    have e1 : typeL L k = (atL L k, 0) := by simp [typeL, hn]
    rw [e1] at hty
    have hst := stA_new (A := A) (H := H) (c := [.d (.int .i64 0), .d (.int .i64 0), .d (.int .i64 0), .d (.str ⟨#[]⟩), .d (.seq true 0 [])]) (cs := [vi (atL L k).kind, vi (atL L k).elem, vi (atL L k).len, vs (atL L k).name, .d (fsO (atL L k).fields)]) (n := 5) (show 0 < 1 by omega) (by simp) rfl rfl
    have hT2 := hT.app [some [vi (atL L k).kind, vi (atL L k).elem, vi (atL L k).len, vs (atL L k).name, .d (fsO (atL L k).fields)]]
    have hsz := size_ok (μ := 2) (d := 97) (lim := 1) (hT2.at_ H) (n := (k : Int))
    have hal := align_ok (μ := 2) (d := 97) (lim := 1) (hT2.at_ H) (n := (k : Int))
    obtain ⟨r, hr, A', e, rfl, hT', hle⟩ := lies_fields (d := 97) (H := H) hI hn hT2 (rb := A.length) (by simp)
    have hsane := hI.sane
    have s1 := hsane.size k
    have s2 := hsane.align k
    have s3 := hsane.both k
    have n1 : ¬ sizeL L k < 0 := by omega
    have n2 : ¬ 32768 < sizeL L k := by omega
    have n3 : ¬ alignL L k < 0 := by omega
    have n5 : ¬ sizeL L k < e := by omega
    have k5 : (k : Int) < 500 := by omega
    refine ⟨[.ptr 0 1 0, vi (k + 1 : Nat)], A' :: H, hk', ?_, A', rfl, rfl, hT'⟩
    have hlt : (k : Int) < L.length := by omega
    unfold s5.l2
    by_cases hp : 0 < sizeL L k
    · have n4 : ¬ alignL L k < 1 := by have := s3 (by omega); omega
      have hm := rem_ok (sizeL L k) (alignL L k) (by omega)
      have hm0 : (sizeL L k).tmod (alignL L k) = 0 := Int.tmod_eq_zero_of_dvd (inv_dvd hI k)
      simp -implicitDefEqProofs [hcnt, hlt, k5, hty, typeA, hst, hsz, hal, ne27', n1, n2, n3, hp, n4, hm, hm0, lp, bnd_eq, hr, gv, n5, wrap_succ (show k < 1000000000 by omega)]
    · simp -implicitDefEqProofs [hcnt, hlt, k5, hty, typeA, hst, hsz, hal, ne27', n1, n2, n3, hp, lp, bnd_eq, hr, gv, n5, wrap_succ (show k < 1000000000 by omega)]
  · right
    have : k = L.length := by omega
    subst this
    refine ⟨(.exit 2, [], A :: H), ?_, by simp, A, rfl⟩
    unfold s5.l2
    simp -implicitDefEqProofs [hcnt]
theorem kindLies {H : Heap} {nl : Bool} {l : List Act} (hn : ∀ a ∈ l, actNl a) : evCall Try.prog (C 2) 100 1 5 [.d (actsD nl l)] H = some (vb true, H) := by
  rw [evCall_pureEq (fi := fi5) rfl rfl (b5 _ _ _ _)]
  unfold s5
  have hfew := few_ok (μ := 2) (d := 98) (lim := 1) (H := [] :: H) (actsSV _ nl l)
  have haw := fun H => awake_ok (μ := 2) (H := H)
  simp -implicitDefEqProofs [hfew]
  cases hf : fewL l with
  | false => simp -implicitDefEqProofs [haw]
  | true =>
    obtain ⟨hl, ha⟩ := few_ok' hf hn
    obtain ⟨B, hnew, hT0⟩ := new_ok (μ := 2) (d := 98) (lim := 1) (A := []) (H := H)
    simp only [List.nil_append, List.length_nil, Nat.zero_add] at hnew hT0
    simp -implicitDefEqProofs [hnew, lp, bnd_eq]
    have hbeg := fun H => begin_ok (μ := 2) (d := 98) (lim := 1) (H := H)
    obtain ⟨r, hr, A, b, rfl, hT⟩ := acts_loop (F := s5.l0 (evCall Try.prog (C 2) 99 1) 1) (H := H) (nl := nl) hl ha (fun k => [.d (actsD nl l), .ptr 0 1 0, vi k]) [.ptr 0 1 0]
      (fun k a A A' v hg e => by
        obtain ⟨p, h1, h2⟩ := act_read (H := H) (nl := nl) hg
        have hk := (List.getElem?_eq_some_iff.1 hg).1
        have hln : lnS (.d (actsD nl l)) = some (vi l.length) := rfl
        unfold s5.l0
        simp -implicitDefEqProofs [hln, hk, h1, h2, hbeg, e, wrap_succ (show k < 1000000000 by omega)])
      (fun A => by
        have hln : lnS (.d (actsD nl l)) = some (vi l.length) := rfl
        unfold s5.l0
        simp -implicitDefEqProofs [hln]) hT0
    simp only [Int.natCast_zero] at hr
    rw [hr]
    obtain ⟨dep, hI⟩ := inv_tab ha l.length (Nat.le_refl _)
    rw [List.take_of_length_le (Nat.le_refl _)] at hI
    obtain ⟨r2, hr2, A2, rfl⟩ := lies_types (H := H) hI hT
    simp -implicitDefEqProofs [gv, hr2, haw]
theorem walkKindLies {d0 : D} {W : World} {v0 : Value} (h0 : DOk Try.prog 8 22 [d0]) (hv : VRs (IW W) G0 [.d d0] [v0]) :
    Calls Try.prog 5 #[v0] W (fun x W' => x = .returned (.bool true) ∧ Below W.heap.size W W') := by
  obtain ⟨nl, l, rfl, hn⟩ := dok22 h0
  exact calls_true (fits 2) follows (kindLies hn) hv
end Go.Ev.Try

/- KindMakes: whatever is made is as the document says. -/
namespace Go.Ev.Try
open Go Go.Ev Go.Proofs Go.RowKit

/-- What is done, one after another, the reference beside it. -/
theorem acts_loop2 {F : List AV → Heap → Option Res} {H : Heap} {l : List Act} (hl : l.length ≤ 30) (ha : ∀ a ∈ l, ActOk a) (S : Nat → List Known → List AV) (X : List Known → List AV)
    (hgo : ∀ (k : Nat) (a : Act) (L : List Known) (A A' : Arena) (b' : Nat), l[k]? = some a → evCall Try.prog (C 2) 99 1 11 [.agg (acs a), .ptr 0 1 0, .d (rows L)] (A :: H) = some (doneA (doneL L a) (doneL L a), A' :: H) → Tab A' 1 b' (doneL L a).2.2 →
      ∃ B, F (S k L) (A :: H) = some (.normal, S (k + 1) (doneL L a).2.2, (A' ++ B) :: H))
    (hex : ∀ (L : List Known) (A : Arena), F (S l.length L) (A :: H) = some (.exit 0, X L, A :: H)) {A0 : Arena} {b0 : Nat} (h0 : Tab A0 1 b0 L0) :
    Gives (iterN LB F (S 0 L0) (A0 :: H)) fun r => ∃ A b, r = (.exit 0, X (tabL l), A :: H) ∧ Tab A 1 b (tabL l) := by
  refine iter_gives (Inv := fun k s Hh => ∃ A b, Hh = A :: H ∧ s = S k (tabL (l.take k)) ∧ Tab A 1 b (tabL (l.take k))) l.length (big_lt (by omega)) (fun k hk s Hh h => ?_) ⟨A0, b0, rfl, rfl, h0⟩
  obtain ⟨A, b, rfl, rfl, hT⟩ := h
  rcases Nat.lt_or_ge k l.length with hk' | hk'
  · left
    have hg : l[k]? = some l[k] := List.getElem?_eq_getElem hk'
    obtain ⟨dep, hI⟩ := inv_tab ha k hk
    obtain ⟨⟨v, H'⟩, e1, e2, A', b', e3, hT', _, _⟩ := done_ok (lim := 1) (d := 99) (H := H) hT (by omega) hI hI (ha _ (List.getElem_mem hk')) (by omega)
    dsimp only at e2 e3
    subst e2 e3
    obtain ⟨B, hB⟩ := hgo k _ _ A A' b' hg e1 hT'
    exact ⟨_, _, hk', hB, _, b', rfl, by rw [tab_snoc hg], by rw [tab_snoc hg]; exact hT'.app B⟩
  · right
    have : k = l.length := by omega
    subst this
    rw [List.take_of_length_le (Nat.le_refl _)] at hT ⊢
    exact ⟨_, hex _ A, by simp, A, b, rfl, hT⟩
theorem ne4 (a b : Bool) : abin Try.prog .neq 4 (vb a) (vb b) = some (vb (!(a == b))) := by
  cases a <;> cases b <;> kernel_rfl
/-- A type is as the document has it. -/
theorem same_ok {d lim : Nat} {H : Heap} {k : Known} (hl : k.fields.length < 1000000) : evCall Try.prog (C 2) (d + 1) lim 25 [typeA k, .agg ((rD k).map .d)] H = some (vb true, H) := by
  rw [evCall_pureEq (fi := fi25) rfl rfl (b25 _ _ _ _ _ _)]
  unfold s25
  have u0 : (typeA k).up 1 = .agg [vi k.kind, vi k.elem, vi k.len, vs k.name, .d (fsO k.fields)] := by simp [typeA]
  have u1 : (AV.agg ((rD k).map .d)).up 1 = .agg ((rD k).map .d) := by simp [rD]
  have h0 : ∀ A : Arena, bx (.agg [vi k.kind, vi k.elem, vi k.len, vs k.name, .d (fsO k.fields)]) (A :: H) = some (.ptr 0 A.length 0, (A ++ [some [vi k.kind, vi k.elem, vi k.len, vs k.name, .d (fsO k.fields)]]) :: H) := fun A => bx_agg (by simp)
  have h1 : ∀ A : Arena, bx (.agg ((rD k).map .d)) (A :: H) = some (.ptr 0 A.length 0, (A ++ [some ((rD k).map .d)]) :: H) := fun A => bx_agg (rD_leaf k)
  have g0 : ((rD k).map AV.d)[0]? = some (vi k.kind) := rfl
  have g1 : ((rD k).map AV.d)[1]? = some (vi k.elem) := rfl
  have g2 : ((rD k).map AV.d)[2]? = some (vi k.len) := rfl
  have g3 : ((rD k).map AV.d)[3]? = some (vs k.name) := rfl
  have g4 : ((rD k).map AV.d)[4]? = some (.d (fsO k.fields)) := rfl
  have hlf : lnS (.d (fsO k.fields)) = some (vi k.fields.length) := rfl
  have hloop := iter_any (F := s25.l0 (evCall Try.prog (C 2) d 1) 1) (H := [some [vi k.kind, vi k.elem, vi k.len, vs k.name, .d (fsO k.fields)], some ((rD k).map .d)] :: H) (n := k.fields.length) (fun j => [.ptr 0 0 0, .ptr 0 1 0, vi j]) (fun _ => false) (rv := (.ret, [vb false], [] :: H)) (ex := (.exit 0, [], [some [vi k.kind, vi k.elem, vi k.len, vs k.name, .d (fsO k.fields)], some ((rD k).map .d)] :: H)) (by omega)
    (fun j hj _ => by
      have hix : ixS 3 (.d (fsO k.fields)) (vi j) = some (.dptr (k.fields.flatMap fD) (j * 3)) := by simp [fsO, fsD, inB_nat hj]
      have hf := fAt_some hj
      unfold s25.l0
      simp -implicitDefEqProofs [-List.map_cons, g4, hlf, hj, hix, fsD_cut hf, fD_cells, ne52, eqF_self, wrap_succ (show j < 1000000000 by omega)])
    (fun j hj h => by cases h) (by simp) (by unfold s25.l0; simp -implicitDefEqProofs [hlf]) (by simp)
  simp only [Int.natCast_zero] at hloop
  have hany : (List.range k.fields.length).any (fun _ => false) = false := by simp
  rw [hany] at hloop
  rw [u0, u1]
  generalize hrr : (rD k).map AV.d = rr at *
  simp -implicitDefEqProofs [h0, h1, g0, g1, g2, g3, g4, hlf, lp, bnd_eq, hloop]
end Go.Ev.Try

/- KindMakes: whatever is made is as the document says: the law. -/
namespace Go.Ev.Try
open Go Go.Ev Go.Proofs Go.RowKit

theorem sizer_none {L : List Known} {n : Int} (hn : hasL L n = false) {H : Heap} : evCall Try.prog (C 2) 99 1 23 [.d (rows L), vi n] H = some (vi (sizeL L n), H) := by
  rw [evCall_pureEq (fi := fi23) rfl rfl (b23 _ _ _ _ _ _)]
  unfold s23
  have his : ∀ A : Arena, evCall Try.prog (C 2) 98 1 19 [.d (rows L), vi n] (A :: H) = some (vb (hasL L n), A :: H) := fun A => is_ok (rowsRV (A :: H) L)
  simp -implicitDefEqProofs [his, hn, sizeL]
theorem alignr_none {L : List Known} {n : Int} (hn : hasL L n = false) {H : Heap} : evCall Try.prog (C 2) 99 1 24 [.d (rows L), vi n] H = some (vi (alignL L n), H) := by
  rw [evCall_pureEq (fi := fi24) rfl rfl (b24 _ _ _ _ _ _)]
  unfold s24
  have his : ∀ A : Arena, evCall Try.prog (C 2) 98 1 19 [.d (rows L), vi n] (A :: H) = some (vb (hasL L n), A :: H) := fun A => is_ok (rowsRV (A :: H) L)
  simp -implicitDefEqProofs [his, hn, alignL]
theorem makes_types {H : Heap} {L : List Known} {dep : Nat → Nat} {D : Nat} (hI : Inv L dep D) (hD : D ≤ 40) {b : Nat} {A0 : Arena} (hT : Tab A0 1 b L) :
    Gives (iterN LB (s6.l1 (evCall Try.prog (C 2) 99 1) 1) [.ptr 0 1 0, .d (rows L), vi (-1)] (A0 :: H)) fun r => ∃ A, r = (.exit 2, [.ptr 0 1 0, .d (rows L)], A :: H) ∧ Tab A 1 b L := by
  refine iter_gives (Inv := fun k s Hh => ∃ A, Hh = A :: H ∧ s = [.ptr 0 1 0, .d (rows L), vi ((k : Int) - 1)] ∧ Tab A 1 b L) (L.length + 2) (big_lt (by have := hI.len; omega)) (fun k hk s Hh h => ?_) ⟨A0, rfl, rfl, hT⟩
  obtain ⟨A, rfl, rfl, hT⟩ := h
  have hL := hI.len
  have hlen : lnS (.d (rows L)) = some (vi L.length) := (rowsRV H L).len
  rcases Nat.lt_or_ge k (L.length + 2) with hk' | hk'
  · left
    generalize hi : (k : Int) - 1 = i
    have hle : i ≤ L.length := by omega
    have hty := type_ok (μ := 2) (d := 97) (lim := 1) (hT.at_ H) hI.flds (n := i)
    have hst := stA_new (A := A) (H := H) (c := [.d (.int .i64 0), .d (.int .i64 0), .d (.int .i64 0), .d (.str ⟨#[]⟩), .d (.seq true 0 [])]) (cs := [vi (typeL L i).1.kind, vi (typeL L i).1.elem, vi (typeL L i).1.len, vs (typeL L i).1.name, .d (fsO (typeL L i).1.fields)]) (n := 5) (show 0 < 1 by omega) (by simp) rfl rfl
    have hT2 := hT.app [some [vi (typeL L i).1.kind, vi (typeL L i).1.elem, vi (typeL L i).1.len, vs (typeL L i).1.name, .d (fsO (typeL L i).1.fields)]]
    have hsz := size_ok (μ := 2) (d := 97) (lim := 1) (hT2.at_ H) (n := i)
    have hal := align_ok (μ := 2) (d := 97) (lim := 1) (hT2.at_ H) (n := i)
    have hsc := scalar_ok (μ := 2) (d := 97) (lim := 1) (hT2.at_ H) (n := i)
    have hw : IntKind.i64.wrap (i + 1) = ((k + 1 : Nat) : Int) - 1 := by rw [wrap_ok (i + 1) (by omega) (by omega)]; omega
    refine ⟨[.ptr 0 1 0, .d (rows L), vi (((k + 1 : Nat) : Int) - 1)], _, hk', ?_, _, rfl, rfl, hT2⟩
    unfold s6.l1
    cases hh : hasL L i with
    | false =>
      have e1 : typeL L i = (noK, 4) := by simp [typeL, hh]
      have e2 : (decide (0 ≤ i) && decide (i < L.length)) = false := hh
      have rsz : ∀ H : Heap, evCall Try.prog (C 2) 99 1 23 [.d (rows L), vi i] H = some (vi (sizeL L i), H) := fun H => sizer_none hh
      have ral : ∀ H : Heap, evCall Try.prog (C 2) 99 1 24 [.d (rows L), vi i] H = some (vi (alignL L i), H) := fun H => alignr_none hh
      have e3 : scalarL L i = false := by simp [scalarL, hh]
      rw [e1] at hty hst hsz hal hsc ⊢
      rw [e3] at hsc
      by_cases h0 : 0 ≤ i
      · have h1 : ¬ i < L.length := by simpa [h0] using e2
        simp -implicitDefEqProofs [hlen, hle, hty, typeA, hst, eq27, h0, h1, ne4, hsz, rsz, hal, ral, hsc, hw]
      · simp -implicitDefEqProofs [hlen, hle, hty, typeA, hst, eq27, h0, ne4, hsz, rsz, hal, ral, hsc, hw]
    | true =>
      have e1 : typeL L i = (atL L i, 0) := by simp [typeL, hh]
      have hlt := hasL_lt hh
      have rsz : ∀ H : Heap, evCall Try.prog (C 2) 99 1 23 [.d (rows L), vi i] H = some (vi (sizeL L i), H) := fun H => sizer_ok hI.wf D 99 1 H _ _ (rowsRV _ _) (hI.dep _ hh) (by omega)
      have ral : ∀ H : Heap, evCall Try.prog (C 2) 99 1 24 [.d (rows L), vi i] H = some (vi (alignL L i), H) := fun H => alignr_ok hI.wf D 99 1 H _ _ (rowsRV _ _) (hI.dep _ hh) (by omega)
      have hsame : ∀ H : Heap, evCall Try.prog (C 2) 99 1 25 [typeA (atL L i), .agg ((rD (atL L i)).map .d)] H = some (vb true, H) := fun H => same_ok (d := 98) (hI.flds _ (List.mem_of_getElem? hlt.2.2.2))
      rw [e1] at hty hst hsz hal hsc ⊢
      have hix : ixS 6 (.d (rows L)) (vi i) = some (.dptr (L.flatMap rD) (i.toNat * 6)) := by
        have := rows_ix (L := L) hlt.2.2.1
        rwa [Int.toNat_of_nonneg hlt.1] at this
      have hcu := rows_cut hlt.2.2.2
      have e3 : scalarL L i = (decide ((atL L i).kind = 1) || decide ((atL L i).kind = 2) || decide ((atL L i).kind = 3)) := by simp [scalarL, hh]
      rw [e3] at hsc
      generalize hrr : (rD (atL L i)).map AV.d = rr at *
      simp only [typeA] at hsame hty
      dsimp only at hst hsz hal hsc hT2 ⊢
      by_cases k1 : (atL L i).kind = 1
      · rw [k1] at hty hst hsz hal hsc hsame
        simp -implicitDefEqProofs [hlen, hle, hty, hst, eq27, hlt.1, hlt.2.1, ne4, hsz, rsz, hal, ral, hix, hcu, hrr, cut_eq, hsame, hsc, k1, hw]
      · by_cases k2 : (atL L i).kind = 2
        · rw [k2] at hty hst hsz hal hsc hsame
          simp -implicitDefEqProofs [hlen, hle, hty, hst, eq27, hlt.1, hlt.2.1, ne4, hsz, rsz, hal, ral, hix, hcu, hrr, cut_eq, hsame, hsc, k1, k2, hw]
        · simp -implicitDefEqProofs [hlen, hle, hty, hst, eq27, hlt.1, hlt.2.1, ne4, hsz, rsz, hal, ral, hix, hcu, hrr, cut_eq, hsame, hsc, k1, k2, hw]
  · right
    have : k = L.length + 2 := by omega
    subst this
    refine ⟨(.exit 2, [.ptr 0 1 0, .d (rows L)], A :: H), ?_, by simp, A, rfl, hT⟩
    have : ¬ ((L.length + 2 : Nat) : Int) - 1 ≤ L.length := by omega
    generalize ((L.length + 2 : Nat) : Int) - 1 = i at *
    unfold s6.l1
    simp -implicitDefEqProofs [hlen, this]
theorem kindMakes {H : Heap} {nl : Bool} {l : List Act} (hn : ∀ a ∈ l, actNl a) : evCall Try.prog (C 2) 100 1 6 [.d (actsD nl l)] H = some (vb true, H) := by
  rw [evCall_pureEq (fi := fi6) rfl rfl (b6 _ _ _ _)]
  unfold s6
  have hfew := few_ok (μ := 2) (d := 98) (lim := 1) (H := [] :: H) (actsSV _ nl l)
  have haw := fun H => awake_ok (μ := 2) (H := H)
  simp -implicitDefEqProofs [hfew]
  cases hf : fewL l with
  | false => simp -implicitDefEqProofs [haw]
  | true =>
    obtain ⟨hl, ha⟩ := few_ok' hf hn
    obtain ⟨B, hnew, hT0⟩ := new_ok (μ := 2) (d := 98) (lim := 1) (A := []) (H := H)
    simp only [List.nil_append, List.length_nil, Nat.zero_add] at hnew hT0
    have hbeg := fun H => begin_ok (μ := 2) (d := 98) (lim := 1) (H := H)
    simp -implicitDefEqProofs [hnew, hbeg, lp, bnd_eq]
    obtain ⟨r, hr, A, b, rfl, hT⟩ := acts_loop2 (F := s6.l0 (evCall Try.prog (C 2) 99 1) 1) (H := H) (l := l) hl ha (fun k L => [.d (actsD nl l), .ptr 0 1 0, .d (rows L), vi k]) (fun L => [.ptr 0 1 0, .d (rows L)])
      (fun k a L A A' b' hg e _ => by
        obtain ⟨p, h1, h2⟩ := act_read (H := H) (nl := nl) hg
        have hk := (List.getElem?_eq_some_iff.1 hg).1
        have hln : lnS (.d (actsD nl l)) = some (vi l.length) := rfl
        have hst : stA 3 1 ((A' ++ [some [.d (.int .i64 0), .d (.seq true 0 []), .d (.int .i64 0)]]) :: H) (.ptr 0 A'.length 0) (madeA (doneL L a)) = some (.undef, (A' ++ [some [vi (doneL L a).1, .d (rows (doneL L a).2.2), vi (doneL L a).2.1]]) :: H) := stA_new (n := 3) (by omega) (made_leaf _) rfl rfl
        refine ⟨[some [vi (doneL L a).1, .d (rows (doneL L a).2.2), vi (doneL L a).2.1]], ?_⟩
        unfold s6.l0
        simp -implicitDefEqProofs [hln, hk, h1, h2, e, doneA, hst, wrap_succ (show k < 1000000000 by omega)])
      (fun L A => by
        have hln : lnS (.d (actsD nl l)) = some (vi l.length) := rfl
        unfold s6.l0
        simp -implicitDefEqProofs [hln]) hT0
    simp only [Int.natCast_zero] at hr
    rw [hr]
    obtain ⟨dep, hI⟩ := inv_tab ha l.length (Nat.le_refl _)
    rw [List.take_of_length_le (Nat.le_refl _)] at hI
    generalize tabL l = L at *
    obtain ⟨r2, hr2, A2, rfl, hT2⟩ := makes_types (H := H) hI (by omega) hT
    have hcnt := count_ok (μ := 2) (d := 98) (lim := 1) (hT2.at_ H)
    have hlen : lnS (.d (rows L)) = some (vi L.length) := (rowsRV H L).len
    simp -implicitDefEqProofs [gv, hr2, haw, hcnt, hlen]
theorem walkKindMakes {d0 : D} {W : World} {v0 : Value} (h0 : DOk Try.prog 8 22 [d0]) (hv : VRs (IW W) G0 [.d d0] [v0]) :
    Calls Try.prog 6 #[v0] W (fun x W' => x = .returned (.bool true) ∧ Below W.heap.size W W') := by
  obtain ⟨nl, l, rfl, hn⟩ := dok22 h0
  exact calls_true (fits 2) follows (kindMakes hn) hv
end Go.Ev.Try

/- KindFinds: structs and fields are found by their names. -/
namespace Go.Ev.Try
open Go Go.Ev Go.Proofs Go.RowKit

def wantF (o : Option Fld) : Int := match o with | some _ => 0 | none => 4
def fldF (o : Option Fld) : Fld := match o with | some f => f | none => noF
theorem findF_none {name : ByteArray} : ∀ {fs : List Fld}, (∀ f ∈ fs, f.name ≠ name) → findF name fs = none
  | [], _ => rfl
  | f :: fs, h => by
    simp only [findF]
    rw [if_neg (h f (by simp)), findF_none fun g hg => h g (by simp [hg])]
theorem findF_app {name : ByteArray} : ∀ {fs gs : List Fld}, findF name (fs ++ gs) = match findF name fs with | some f => some f | none => findF name gs
  | [], gs => by simp [findF]
  | f :: fs, gs => by
    simp only [List.cons_append, findF]
    split
    · rfl
    · exact findF_app
/-- One field more. -/
theorem findF_snoc {name : ByteArray} {fs : List Fld} (hu : (fs.map Fld.name).Nodup) {k : Nat} {f : Fld} (hf : fs[k]? = some f) : findF name (fs.take (k + 1)) = if f.name = name then some f else findF name (fs.take k) := by
  rw [List.take_add_one, hf, Option.toList_some, findF_app]
  by_cases h : f.name = name
  · rw [if_pos h]
    have hn : findF name (fs.take k) = none := by
      refine findF_none fun g hg => ?_
      obtain ⟨i, hi, rfl⟩ := List.mem_iff_getElem.1 hg
      simp only [List.length_take] at hi
      have hk := (List.getElem?_eq_some_iff.1 hf).1
      unfold List.Nodup at hu
      rw [List.pairwise_iff_getElem] at hu
      have := hu i k (by simp; omega) (by simpa using hk) (by omega)
      simp only [List.getElem_map] at this
      rw [List.getElem_take]
      intro e
      apply this
      rw [e, ← h]
      rw [List.getElem?_eq_getElem hk] at hf
      simp only [Option.some.injEq] at hf
      rw [hf]
    rw [hn]
    simp [findF, h]
  · rw [if_neg h]
    cases findF name (fs.take k) with
    | some g => rfl
    | none => simp [findF, h]
theorem finds_loop {call : ACall} {H : Heap} {L : List Known} {n : Int} (hn : hasL L n = true) (hlen : (atL L n).fields.length < 1000000) (hu : ((atL L n).fields.map Fld.name).Nodup) (name : ByteArray) (A : Arena) (g : Int) (f : Fld) :
    Gives (iterN LB (s4.l1 call 1) [vi n, vs name, .d (rows L), .ptr 0 A.length 0, vi g, vi 4, .ptr 0 (A.length + 1) 0, vi 0] ((A ++ [some (fcells f), some (fcells noF)]) :: H)) fun r =>
      r = (.exit 2, [.ptr 0 A.length 0, vi g, vi (wantF (findF name (atL L n).fields)), .ptr 0 (A.length + 1) 0], (A ++ [some (fcells f), some (fcells (fldF (findF name (atL L n).fields)))]) :: H) := by
  have hlt := hasL_lt hn
  have hix : ixS 6 (.d (rows L)) (vi n) = some (.dptr (L.flatMap rD) (n.toNat * 6)) := by
    have := rows_ix (L := L) hlt.2.2.1
    rwa [Int.toNat_of_nonneg hlt.1] at this
  have h4 : (L.flatMap rD)[n.toNat * 6 + 4]? = some (fsO (atL L n).fields) := by
    have := rD_drop hlt.2.2.2
    have := congrArg (fun x => x[4]?) this
    simpa [rD] using this
  have hlf : lnS (.d (fsO (atL L n).fields)) = some (vi (atL L n).fields.length) := rfl
  refine iter_gives (Inv := fun k s Hh => Hh = (A ++ [some (fcells f), some (fcells (fldF (findF name ((atL L n).fields.take k))))]) :: H ∧ s = [vi n, vs name, .d (rows L), .ptr 0 A.length 0, vi g, vi (wantF (findF name ((atL L n).fields.take k))), .ptr 0 (A.length + 1) 0, vi k]) (atL L n).fields.length (big_lt (by omega)) (fun k hk s Hh h => ?_) ⟨by simp [findF, fldF], by simp [findF, wantF]⟩
  obtain ⟨rfl, rfl⟩ := h
  rcases Nat.lt_or_ge k (atL L n).fields.length with hk' | hk'
  · left
    obtain ⟨e, he⟩ : ∃ e, (atL L n).fields[k]? = some e := ⟨_, List.getElem?_eq_getElem hk'⟩
    have hfx : ixS 3 (.d (fsO (atL L n).fields)) (vi k) = some (.dptr ((atL L n).fields.flatMap fD) (k * 3)) := by simp [fsO, fsD, inB_nat hk']
    have hc := fsD_cut he
    have hc0 : ((atL L n).fields.flatMap fD)[k * 3]? = some (.str e.name) := by
      rw [cut_eq (by rw [fsD_len]; omega)] at hc
      simp only [Option.some.injEq] at hc
      have := congrArg (fun x => x[0]?) hc
      simpa [fD] using this
    have hsn := findF_snoc hu (name := name) he
    refine ⟨[vi n, vs name, .d (rows L), .ptr 0 A.length 0, vi g, vi (wantF (findF name ((atL L n).fields.take (k + 1)))), .ptr 0 (A.length + 1) 0, vi (k + 1 : Nat)], (A ++ [some (fcells f), some (fcells (fldF (findF name ((atL L n).fields.take (k + 1)))))]) :: H, hk', ?_, rfl, rfl⟩
    unfold s4.l1
    rw [hsn]
    generalize findF name ((atL L n).fields.take k) = o
    have w0 : wantF (some e) = 0 := rfl
    have f0 : fldF (some e) = e := rfl
    by_cases hnm : e.name = name
    · rw [if_pos hnm, w0, f0]
      generalize fldF o = fo
      have hst : stA 3 1 ((A ++ [some (fcells f), some (fcells fo)]) :: H) (.ptr 0 (A.length + 1) 0) (.agg (fcells e)) = some (.undef, (A ++ [some (fcells f), some (fcells e)]) :: H) := by
        rw [stA_at (n := 3) (fcells fo) (by omega) (fcells_leaf e) rfl rfl (by simp)]
        simp
      simp -implicitDefEqProofs [hix, h4, hlf, hk', hfx, hc0, hnm, hc, fD_cells, hst, gv, wrap_succ (show k < 1000000000 by omega)]
    · rw [if_neg hnm]
      simp -implicitDefEqProofs [hix, h4, hlf, hk', hfx, hc0, hnm, gv, wrap_succ (show k < 1000000000 by omega)]
  · right
    have : k = (atL L n).fields.length := by omega
    subst this
    rw [List.take_of_length_le (Nat.le_refl _)]
    refine ⟨_, ?_, ?_, rfl⟩
    · unfold s4.l1
      simp -implicitDefEqProofs [hix, h4, hlf]
    · simp
theorem kindFinds {H : Heap} {nl : Bool} {l : List Act} (hn : ∀ a ∈ l, actNl a) {n : Int} {name : ByteArray} : evCall Try.prog (C 2) 100 1 4 [.d (actsD nl l), vi n, vs name] H = some (vb true, H) := by
  rw [evCall_pureEq (fi := fi4) rfl rfl (b4 _ _ _ _ _ _)]
  unfold s4
  have hfew := few_ok (μ := 2) (d := 98) (lim := 1) (H := [] :: H) (actsSV _ nl l)
  have haw := fun H => awake_ok (μ := 2) (H := H)
  simp -implicitDefEqProofs [hfew]
  cases hf : fewL l with
  | false => simp -implicitDefEqProofs [haw]
  | true =>
    by_cases hnm : (100 : Int) < name.size
    · simp -implicitDefEqProofs [haw, hnm]
    · obtain ⟨hl, ha⟩ := few_ok' hf hn
      obtain ⟨B, hnew, hT0⟩ := new_ok (μ := 2) (d := 98) (lim := 1) (A := []) (H := H)
      simp only [List.nil_append, List.length_nil, Nat.zero_add] at hnew hT0
      have hbeg := fun H => begin_ok (μ := 2) (d := 98) (lim := 1) (H := H)
      simp -implicitDefEqProofs [hnm, hnew, hbeg, lp, bnd_eq]
      obtain ⟨r, hr, A, b, rfl, hT⟩ := acts_loop2 (F := s4.l0 (evCall Try.prog (C 2) 99 1) 1) (H := H) (l := l) hl ha (fun k L => [.d (actsD nl l), vi n, vs name, .ptr 0 1 0, .d (rows L), vi k]) (fun L => [vi n, vs name, .ptr 0 1 0, .d (rows L)])
        (fun k a L A A' b' hg e _ => by
          obtain ⟨p, h1, h2⟩ := act_read (H := H) (nl := nl) hg
          have hk := (List.getElem?_eq_some_iff.1 hg).1
          have hln : lnS (.d (actsD nl l)) = some (vi l.length) := rfl
          have hst : stA 3 1 ((A' ++ [some [.d (.int .i64 0), .d (.seq true 0 []), .d (.int .i64 0)]]) :: H) (.ptr 0 A'.length 0) (madeA (doneL L a)) = some (.undef, (A' ++ [some [vi (doneL L a).1, .d (rows (doneL L a).2.2), vi (doneL L a).2.1]]) :: H) := stA_new (n := 3) (by omega) (made_leaf _) rfl rfl
          refine ⟨[some [vi (doneL L a).1, .d (rows (doneL L a).2.2), vi (doneL L a).2.1]], ?_⟩
          unfold s4.l0
          simp -implicitDefEqProofs [hln, hk, h1, h2, e, doneA, hst, wrap_succ (show k < 1000000000 by omega)])
        (fun L A => by
          have hln : lnS (.d (actsD nl l)) = some (vi l.length) := rfl
          unfold s4.l0
          simp -implicitDefEqProofs [hln]) hT0
      simp only [Int.natCast_zero] at hr
      rw [hr]
      obtain ⟨dep, hI⟩ := inv_tab ha l.length (Nat.le_refl _)
      rw [List.take_of_length_le (Nat.le_refl _)] at hI
      generalize tabL l = L at *
      have hL := hI.len
      have h16 := find_ok (μ := 2) (d := 95) (lim := 1) (hT.at_ H) (by omega) (name := name)
      have h17 := fun H => findr_ok (μ := 2) (d := 98) (lim := 1) (H := H) (L := L) (by omega) (name := name)
      have h18 := field_ok (μ := 2) (d := 97) (lim := 1) (hT.at_ H) hI.flds (n := n) (name := name)
      have h19 := fun H => is_ok (μ := 2) (d := 98) (lim := 1) (rowsRV H L) (n := n)
      have hst := fun f : Fld => stA_new (A := A) (H := H) (c := [.d (.str ⟨#[]⟩), .d (.int .i64 0), .d (.int .i64 0)]) (n := 3) (show 0 < 1 by omega) (fcells_leaf f) rfl rfl
      have hz : [AV.d (.str ⟨#[]⟩), .d (.int .i64 0), .d (.int .i64 0)] = fcells noF := rfl
      have hfind : (findL L name).1 = (if namedL L name < 0 then 0 else namedL L name) ∧ (findL L name).2 = (if namedL L name < 0 then 4 else 0) := by
        unfold findL; split <;> exact ⟨rfl, rfl⟩
      rw [hfind.1, hfind.2] at h16
      have hneg : namedL L name < 0 → namedL L name = -1 := fun h => first_neg _ _ _ _ h
      generalize namedL L name = q at *
      have hst2 := fun f => stA_new (A := A) (H := H) (c := fcells noF) (n := 3) (show 0 < 1 by omega) (fcells_leaf f) rfl rfl
      have e3 : ∀ f : Fld, cut (fcells f) 0 3 = some (fcells f) := fun f => cut_all rfl
      by_cases hq : q < 0
      · have hq1 : ¬ 0 ≤ q := by omega
        simp only [hq, if_true] at h16
        simp -implicitDefEqProofs [gv, h16, h17, eq27, ne27', ne4, hq1, h18, hz, hst2]
        cases hh : hasL L n with
        | false =>
          have ef : fieldL L n name = (noF, 4) := by simp [fieldL, hh]
          simp -implicitDefEqProofs [h19, hh, ef, gv, haw, eq27, e3, eq45, eqF_self]
        | true =>
          have hlt := hasL_lt hh
          have hix : ixS 6 (.d (rows L)) (vi n) = some (.dptr (L.flatMap rD) (n.toNat * 6)) := by
            have := rows_ix (L := L) hlt.2.2.1
            rwa [Int.toNat_of_nonneg hlt.1] at this
          have hk0 : (L.flatMap rD)[n.toNat * 6]? = some (.int .i64 (atL L n).kind) := by
            have := congrArg (fun x => x[0]?) (rD_drop hlt.2.2.2)
            simpa [rD] using this
          by_cases h5 : (atL L n).kind = 5
          · have hm := List.mem_of_getElem? hlt.2.2.2
            have ef : fieldL L n name = (fldF (findF name (atL L n).fields), wantF (findF name (atL L n).fields)) := by
              simp only [fieldL, hh, h5, if_true]
              cases findF name (atL L n).fields <;> rfl
            obtain ⟨r2, hr2, rfl⟩ := finds_loop (call := evCall Try.prog (C 2) 99 1) (H := H) hh (hI.flds _ hm) (hI.uniq _ hm) name A (fieldL L n name).2 (fieldL L n name).1
            simp -implicitDefEqProofs [h19, hh, gv, hix, hk0, h5, hr2]
            rw [ef]
            simp -implicitDefEqProofs [haw, eq27, e3, eq45, eqF_self]
          · have ef : fieldL L n name = (noF, 5) := by simp [fieldL, hh, h5]
            simp -implicitDefEqProofs [h19, hh, gv, hix, hk0, h5, ef, haw, eq27, e3, eq45, eqF_self]
      · have hq1 : 0 ≤ q := by omega
        simp only [hq, if_false] at h16
        simp -implicitDefEqProofs [gv, h16, h17, eq27, ne27', ne4, hq1, h18, hz, hst2]
        cases hh : hasL L n with
        | false =>
          have ef : fieldL L n name = (noF, 4) := by simp [fieldL, hh]
          simp -implicitDefEqProofs [h19, hh, ef, gv, haw, eq27, e3, eq45, eqF_self]
        | true =>
          have hlt := hasL_lt hh
          have hix : ixS 6 (.d (rows L)) (vi n) = some (.dptr (L.flatMap rD) (n.toNat * 6)) := by
            have := rows_ix (L := L) hlt.2.2.1
            rwa [Int.toNat_of_nonneg hlt.1] at this
          have hk0 : (L.flatMap rD)[n.toNat * 6]? = some (.int .i64 (atL L n).kind) := by
            have := congrArg (fun x => x[0]?) (rD_drop hlt.2.2.2)
            simpa [rD] using this
          by_cases h5 : (atL L n).kind = 5
          · have hm := List.mem_of_getElem? hlt.2.2.2
            have ef : fieldL L n name = (fldF (findF name (atL L n).fields), wantF (findF name (atL L n).fields)) := by
              simp only [fieldL, hh, h5, if_true]
              cases findF name (atL L n).fields <;> rfl
            obtain ⟨r2, hr2, rfl⟩ := finds_loop (call := evCall Try.prog (C 2) 99 1) (H := H) hh (hI.flds _ hm) (hI.uniq _ hm) name A (fieldL L n name).2 (fieldL L n name).1
            simp -implicitDefEqProofs [h19, hh, gv, hix, hk0, h5, hr2]
            rw [ef]
            simp -implicitDefEqProofs [haw, eq27, e3, eq45, eqF_self]
          · have ef : fieldL L n name = (noF, 5) := by simp [fieldL, hh, h5]
            simp -implicitDefEqProofs [h19, hh, gv, hix, hk0, h5, ef, haw, eq27, e3, eq45, eqF_self]
theorem walkKindFinds {d0 d1 d2 : D} {W : World} {v0 v1 v2 : Value} (h0 : DOk Try.prog 8 22 [d0]) (h1 : DOk Try.prog 8 3 [d1]) (h2 : DOk Try.prog 8 9 [d2]) (hv : VRs (IW W) G0 [.d d0, .d d1, .d d2] [v0, v1, v2]) :
    Calls Try.prog 4 #[v0, v1, v2] W (fun x W' => x = .returned (.bool true) ∧ Below W.heap.size W W') := by
  obtain ⟨nl, l, rfl, hn⟩ := dok22 h0
  obtain ⟨n, h1, _⟩ := dok3 h1
  obtain ⟨s, h2, _⟩ := dok9 h2
  obtain rfl : d1 = .int .i64 n := by simpa using h1
  obtain rfl : d2 = .str s := by simpa using h2
  exact calls_true (fits 2) follows (kindFinds hn) hv
end Go.Ev.Try
