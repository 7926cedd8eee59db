import Derived.Test.YtfamldpmpjdlpaaT2
import Derived.Test.YtfamldpmpjdlpaaE3
set_option linter.unusedSimpArgs false
set_option linter.unusedVariables false
/- What the table's functions answer: the shapes of its memory, and the plain ones. -/
namespace Go.Ev.Try
open Go Go.Ev Go.Proofs
variable {μ : Nat}

structure Fld where
  name : ByteArray
  type : Int
  at_ : Int
structure Known where
  kind : Int
  elem : Int
  len : Int
  name : ByteArray
  fields : List Fld
  size : Int
  align : Int
  opn : Bool
abbrev vi (n : Int) : AV := .d (.int .i64 n)
abbrev vb (b : Bool) : AV := .d (.bool b)
abbrev vs (s : ByteArray) : AV := .d (.str s)
def fcells (f : Fld) : List AV := [vs f.name, vi f.type, vi f.at_]
def kcells (k : Known) (fs : AV) : List AV := [vi k.kind, vi k.elem, vi k.len, vs k.name, fs, vi k.size, vi k.align, vb k.opn]
def FieldsAt (H : Heap) (l i b : Nat) (fs : List Fld) (v : AV) : Prop :=
  (fs = [] ∧ v = .d (.seq true 0 [])) ∨ ∃ x, v = .sl 0 x 0 fs.length 3 ∧ x ≠ i ∧ x ≠ b ∧ getB H l x = some (fs.flatMap fcells) ∧ fs ≠ []
/-- A table at a block of a level. -/
structure TabAt (H : Heap) (l i : Nat) (L : List Known) : Prop where
  ex : ∃ (b : Nat) (vs : List AV), i ≠ b ∧ vs.length = L.length ∧ getB H l i = some [.sl 0 b 0 L.length 8] ∧ getB H l b = some ((L.zip vs).flatMap fun x => kcells x.1 x.2) ∧ ∀ (k : Nat) (f : Known) (v : AV), L[k]? = some f → vs[k]? = some v → FieldsAt H l i b f.fields v
theorem TabAt.push {H : Heap} {l i : Nat} {L : List Known} (h : TabAt H l i L) (A : Arena) : TabAt (A :: H) (l + 1) i L := ⟨h.ex⟩

/-- What is at a place of a table. -/
theorem TabAt.cell {H : Heap} {l i : Nat} {L : List Known} (h : TabAt H l i L) : ∃ (b : Nat) (c : List AV), getB H l i = some [.sl 0 b 0 L.length 8] ∧ getB H l b = some c ∧ c.length = L.length * 8 ∧
    ∀ (k : Nat) (f : Known), L[k]? = some f → ∃ v, FieldsAt H l i b f.fields v ∧ (c.drop (k * 8)).take 8 = kcells f v := by
  obtain ⟨b, vs, _, h1, h2, h3, h4⟩ := h.ex
  refine ⟨b, _, h2, h3, ?_, fun k f hk => ?_⟩
  · clear h2 h3 h4 h
    induction L generalizing vs with
    | nil => simp
    | cons x L ih =>
      cases vs with
      | nil => simp at h1
      | cons v vs =>
        have := ih vs (by simpa using h1)
        simp only [List.zip_cons_cons, List.flatMap_cons, List.length_append, List.length_cons] at this ⊢
        rw [this]
        simp [kcells]
        omega
  · have hlt : k < vs.length := by rw [h1]; exact (List.getElem?_eq_some_iff.1 hk).1
    refine ⟨vs[k], h4 k f _ hk (List.getElem?_eq_getElem hlt), ?_⟩
    clear h2 h3 h4 h
    induction L generalizing vs k with
    | nil => simp at hk
    | cons x L ih =>
      cases vs with
      | nil => simp at h1
      | cons v vs =>
        cases k with
        | zero =>
          simp at hk
          subst hk
          simp [kcells]
        | succ k =>
          have := ih vs (by simpa using h1) k (by simpa using hk) (by simpa using hlt)
          simp only [List.zip_cons_cons, List.flatMap_cons, List.getElem_cons_succ]
          rw [← this, show (k + 1) * 8 = 8 + k * 8 by omega, ← List.drop_drop]
          congr 2
theorem ne25_nil : abin Try.prog .neq 25 .nilptr .nilptr = some (vb false) := by kernel_rfl
theorem ne25_ptr (l i o : Nat) : abin Try.prog .neq 25 (.ptr l i o) .nilptr = some (vb true) := by kernel_rfl
theorem eq25_nil : abin Try.prog .eql 25 .nilptr .nilptr = some (vb true) := by kernel_rfl
theorem eq25_ptr (l i o : Nat) : abin Try.prog .eql 25 (.ptr l i o) .nilptr = some (vb false) := by kernel_rfl
attribute [simp] ne25_nil ne25_ptr eq25_nil eq25_ptr
theorem has_nil {d lim : Nat} {H : Heap} {n : Int} : evCall Try.prog (C μ) (d + 1) lim 33 [.nilptr, vi n] H = some (vb false, H) := by
  rw [evCall_pureEq (fi := fi33) rfl rfl (b33 _ _ _ _ _ _)]
  unfold s33
  simp
theorem has_ok {d lim : Nat} {H : Heap} {l i : Nat} {L : List Known} (h : TabAt H l i L) {n : Int} : evCall Try.prog (C μ) (d + 1) lim 33 [.ptr l i 0, vi n] H = some (vb (decide (0 ≤ n) && decide (n < L.length)), H) := by
  rw [evCall_pureEq (fi := fi33) rfl rfl (b33 _ _ _ _ _ _)]
  unfold s33
  obtain ⟨b, vs, _, h1, h2, h3, h4⟩ := h.ex
  by_cases h0 : 0 ≤ n <;> simp [getB, h2, h0]
end Go.Ev.Try

/- Searching a table, and what is told of one type. -/
namespace Go.Ev.Try
open Go Go.Ev Go.Proofs

theorem wrap_ok (n : Int) (h0 : -9223372036854775808 ≤ n) (h1 : n < 9223372036854775808) : IntKind.i64.wrap n = n := by
  simp [IntKind.wrap, IntKind.bits, IntKind.signed]
  omega
/-- The first place from `k` on where `p` holds; -1: none. -/
def firstFrom (p : Nat → Bool) (n : Nat) : Nat → Nat → Int
  | 0, _ => -1
  | m + 1, k => if k < n then (if p k then k else firstFrom p n m (k + 1)) else -1
theorem first_neg (p : Nat → Bool) (n : Nat) : ∀ m k, firstFrom p n m k < 0 → firstFrom p n m k = -1 := by
  intro m
  induction m with
  | zero => intro k _; rfl
  | succ m ih =>
    intro k h
    unfold firstFrom at h ⊢
    split
    · rename_i hk
      rw [if_pos hk] at h
      split
      · rename_i hp
        rw [if_pos hp] at h
        omega
      · rename_i hp
        rw [if_neg hp] at h
        exact ih _ h
    · rfl
theorem dsp_ret (nrm ret : Option Res) (exs : List (Nat × Option Res)) : dsp .ret nrm ret exs = ret := (rfl)
theorem dsp_normal (nrm ret : Option Res) (exs : List (Nat × Option Res)) : dsp .normal nrm ret exs = nrm := (rfl)
theorem dsp_exit (i : Nat) (nrm ret : Option Res) (q : Option Res) : dsp (.exit i) nrm ret [(i, q)] = q := by simp [dsp, dspE]
theorem cal_fn (call : ACall) (g : FuncId) (caps args : List AV) (H : Heap) : cal call (.fn g caps) args H = call g (args ++ caps) H := (rfl)
attribute [simp] dsp_ret dsp_normal dsp_exit cal_fn

/-- Searching: the loop. -/
theorem idx43_loop (call : ACall) (lim : Nat) (H : Heap) (l b n : Nat) (e : Nat → AV) (he : ∀ k, k < n → ldA 8 H (.ptr l b (k * 8)) = some (e k)) (hn : n < 1000000) (g : FuncId) (caps : List AV) (p : Nat → Bool)
    (hp : ∀ k, k < n → call g (e k :: caps) H = some (vb (p k), H)) :
    ∀ (m k : Nat), n < k + m → k ≤ n → ∀ r, r = (if firstFrom p n m k < 0 then ((.exit 0, [], H) : Res) else (.ret, [vi (firstFrom p n m k)], H)) → ∀ q, iterN (m + q) (s43.l0 call lim) [.sl l b 0 n 8, .fn g caps, vi n, vi k] H = some r := by
  intro m
  induction m with
  | zero => intro k h1 h2; omega
  | succ m ih =>
    intro k h1 h2 r hr q
    rw [show m + 1 + q = (m + q) + 1 by omega]
    rcases Nat.lt_or_ge k n with hk | hk
    · cases hpk : p k with
      | true =>
        have : firstFrom p n (m + 1) k = k := by simp [firstFrom, hk, hpk]
        rw [this, if_neg (by omega)] at hr
        rw [hr]
        refine iterN_ret ?_
        unfold s43.l0
        have := hp k hk
        rw [hpk] at this
        simp [-ldA_ptr, hk, inB_nat hk, he k hk, this]
      | false =>
        have : firstFrom p n (m + 1) k = firstFrom p n m (k + 1) := by simp [firstFrom, hk, hpk]
        rw [this] at hr
        refine Eq.trans (iterN_go (vals' := [.sl l b 0 n 8, .fn g caps, vi n, vi (k + 1 : Nat)]) (H' := H) ?_) (ih (k + 1) (by omega) (by omega) r hr q)
        unfold s43.l0
        have := hp k hk
        rw [hpk] at this
        simp [-ldA_ptr, hk, inB_nat hk, he k hk, this]
        exact wrap_ok ((k : Int) + 1) (by omega) (by omega)
    · have : firstFrom p n (m + 1) k = -1 := by simp [firstFrom, Nat.not_lt.2 hk]
      rw [this, if_pos (by omega)] at hr
      rw [hr]
      refine iterN_exit ?_
      unfold s43.l0
      simp [Nat.not_lt.2 hk]
theorem idx43 (call : ACall) (lim : Nat) (H : Heap) (l b n : Nat) (e : Nat → AV) (he : ∀ k, k < n → ldA 8 H (.ptr l b (k * 8)) = some (e k)) (hn : n < 1000000) (g : FuncId) (caps : List AV) (p : Nat → Bool)
    (hp : ∀ k, k < n → call g (e k :: caps) H = some (vb (p k), H)) : s43 call lim (.sl l b 0 n 8) (.fn g caps) H = some (.ret, [vi (firstFrom p n (n + 1) 0)], H) := by
  unfold s43
  have h := idx43_loop call lim H l b n e he hn g caps p hp (n + 1) 0 (by omega) (by omega) _ rfl (LB - (n + 1))
  rw [show n + 1 + (LB - (n + 1)) = LB by unfold LB; omega] at h
  simp only [lnS_sl, pu_some, lp]
  rw [bnd_eq]
  simp only [Int.natCast_zero] at h
  rw [h]
  have hneg := first_neg p n
  by_cases hlt : firstFrom p n (n + 1) 0 < 0
  · rw [if_pos hlt]
    simp [hneg _ _ hlt]
  · rw [if_neg hlt]
    simp [gv]
end Go.Ev.Try

/- What is told of one type. -/
namespace Go.Ev.Try
open Go Go.Ev Go.Proofs
variable {μ : Nat}

theorem take_get {c : List AV} {k : Nat} {r : List AV} (h : (c.drop k).take 8 = r) (j : Nat) (hj : j < 8) : c[k + j]? = r[j]? := by
  rw [← h, List.getElem?_take_of_lt hj, List.getElem?_drop]
def hasL (L : List Known) (n : Int) : Bool := decide (0 ≤ n) && decide (n < L.length)
def atL (L : List Known) (n : Int) : Known := L.getD n.toNat ⟨0, 0, 0, ⟨#[]⟩, [], 0, 0, false⟩
def sizeL (L : List Known) (n : Int) : Int := if hasL L n then (atL L n).size else 0
def alignL (L : List Known) (n : Int) : Int := if hasL L n then (atL L n).align else 0
theorem hasL_lt {L : List Known} {n : Int} (h : hasL L n = true) : 0 ≤ n ∧ n < L.length ∧ n.toNat < L.length ∧ L[n.toNat]? = some (atL L n) := by
  unfold hasL at h
  simp only [Bool.and_eq_true, decide_eq_true_eq] at h
  refine ⟨h.1, h.2, by omega, ?_⟩
  unfold atL
  rw [List.getD_eq_getElem?_getD, List.getElem?_eq_getElem (by omega)]
  rfl
/-- A table's cells at one type. -/
theorem TabAt.at {H : Heap} {l i : Nat} {L : List Known} (h : TabAt H l i L) {n : Int} (hn : hasL L n = true) : ∃ (b : Nat) (c : List AV) (v : AV), getB H l i = some [.sl 0 b 0 L.length 8] ∧ getB H l b = some c ∧ FieldsAt H l i b (atL L n).fields v ∧
    ∀ j, j < 8 → c[n.toNat * 8 + j]? = (kcells (atL L n) v)[j]? := by
  obtain ⟨b, c, h1, h2, h3, h4⟩ := h.cell
  obtain ⟨v, h5, h6⟩ := h4 _ _ (hasL_lt hn).2.2.2
  exact ⟨b, c, v, h1, h2, h5, fun j hj => take_get h6 j hj⟩
theorem inB_has {L : List Known} {n : Int} (hn : hasL L n = true) : inB (vi n) L.length = some n.toNat := inB_yes (hasL_lt hn).1 (hasL_lt hn).2.1

theorem has_call {d lim : Nat} {H : Heap} {l i : Nat} {L : List Known} (h : TabAt H l i L) {n : Int} : evCall Try.prog (C μ) (d + 1) lim 33 [.ptr l i 0, vi n] H = some (vb (hasL L n), H) := has_ok h
theorem size_ok {d lim : Nat} {H : Heap} {l i : Nat} {L : List Known} (h : TabAt H l i L) {n : Int} : evCall Try.prog (C μ) (d + 2) lim 21 [.ptr l i 0, vi n] H = some (vi (sizeL L n), H) := by
  rw [evCall_pureEq (fi := fi21) rfl rfl (b21 _ _ _ _ _ _)]
  unfold s21
  simp [has_call (h.push [])]
  unfold sizeL
  cases hn : hasL L n with
  | false => simp
  | true =>
    obtain ⟨b, c, v, h1, h2, h3, h4⟩ := h.at hn
    have := h4 5 (by omega)
    simp [getB, h1, h2, inB_has hn, this, kcells]
theorem align_ok {d lim : Nat} {H : Heap} {l i : Nat} {L : List Known} (h : TabAt H l i L) {n : Int} : evCall Try.prog (C μ) (d + 2) lim 22 [.ptr l i 0, vi n] H = some (vi (alignL L n), H) := by
  rw [evCall_pureEq (fi := fi22) rfl rfl (b22 _ _ _ _ _ _)]
  unfold s22
  simp [has_call (h.push [])]
  unfold alignL
  cases hn : hasL L n with
  | false => simp
  | true =>
    obtain ⟨b, c, v, h1, h2, h3, h4⟩ := h.at hn
    have := h4 6 (by omega)
    simp [getB, h1, h2, inB_has hn, this, kcells]
theorem count_ok {d lim : Nat} {H : Heap} {l i : Nat} {L : List Known} (h : TabAt H l i L) : evCall Try.prog (C μ) (d + 1) lim 15 [.ptr l i 0] H = some (vi L.length, H) := by
  rw [evCall_pureEq (fi := fi15) rfl rfl (b15 _ _ _ _ _)]
  unfold s15
  obtain ⟨b, c, h1, h2, h3, h4⟩ := h.cell
  simp [getB, h1]
def scalarL (L : List Known) (n : Int) : Bool := hasL L n && (decide ((atL L n).kind = 1) || decide ((atL L n).kind = 2) || decide ((atL L n).kind = 3))
theorem scalar_ok {d lim : Nat} {H : Heap} {l i : Nat} {L : List Known} (h : TabAt H l i L) {n : Int} : evCall Try.prog (C μ) (d + 2) lim 26 [.ptr l i 0, vi n] H = some (vb (scalarL L n), H) := by
  rw [evCall_pureEq (fi := fi26) rfl rfl (b26 _ _ _ _ _ _)]
  unfold s26
  simp [has_call (h.push [])]
  unfold scalarL
  cases hn : hasL L n with
  | false => simp
  | true =>
    obtain ⟨b, c, v, h1, h2, h3, h4⟩ := h.at hn
    have := h4 0 (by omega)
    by_cases k1 : (atL L n).kind = 1 <;> by_cases k2 : (atL L n).kind = 2 <;> simp_all [getB, h1, h2, inB_has hn, kcells]
end Go.Ev.Try

/- Names are looked up; a type is put behind all. -/
namespace Go.Ev.Try
open Go Go.Ev Go.Proofs
variable {μ : Nat}

theorem FieldsAt.leaf {H : Heap} {l i b : Nat} {fs : List Fld} {v : AV} (h : FieldsAt H l i b fs v) : v.leaf = true := by
  rcases h with ⟨_, rfl⟩ | ⟨x, rfl, _⟩ <;> rfl
theorem abin_str (P : Program) (op : BinOp) (t : TypeId) (a b : ByteArray) : abin P op t (.d (.str a)) (.d (.str b)) = (strOp op a b).map .d := by
  unfold abin
  cases op <;> rfl
theorem abin_seql (P : Program) (t : TypeId) (a b : ByteArray) : abin P .eql t (.d (.str a)) (.d (.str b)) = some (.d (.bool (decide (a = b)))) := by rw [abin_str]; simp [strOp]
theorem abin_sneq (P : Program) (t : TypeId) (a b : ByteArray) : abin P .neq t (.d (.str a)) (.d (.str b)) = some (.d (.bool (!decide (a = b)))) := by rw [abin_str]; simp [strOp]
attribute [simp] abin_seql abin_sneq
/-- Has a type this name? -/
def isNamed (name : ByteArray) (f : Known) : Bool := decide (f.kind = 5) && decide (f.name = name)
theorem clo45 {d lim : Nat} {H : Heap} {l i : Nat} {name : ByteArray} (h : getB H l i = some [vs name]) {f : Known} {v : AV} (hv : v.leaf = true) :
    evCall Try.prog (C μ) (d + 1) lim 45 [.agg (kcells f v), .ptr l i 0] H = some (vb (isNamed name f), H) := by
  rw [evCall_pureEq (fi := fi45) rfl rfl (b45 _ _ _ _ _ _)]
  unfold s45
  simp only [AV.up, upL_eq]
  rw [bx_agg (by simp only [kcells, List.map_cons, List.map_nil, List.all_cons, List.all_nil, leaf_up, hv]; rfl)]
  unfold isNamed
  by_cases h5 : f.kind = 5 <;> simp [kcells, h, h5]
theorem kcells_up (l : Nat) (f : Known) (v : AV) : (kcells f v).map (AV.up l) = kcells f (AV.up l v) := by simp [kcells]
/-- A table's rows, as they are loaded. -/
theorem TabAt.rows {H : Heap} {l i : Nat} {L : List Known} (h : TabAt H l i L) : ∃ (b : Nat) (e : Nat → AV), getB H l i = some [.sl 0 b 0 L.length 8] ∧
    ∀ k, k < L.length → ∃ f, L[k]? = some f ∧ (e k).leaf = true ∧ ∀ (q : Nat) (A : List Arena), A.length = q → ldA 8 (A ++ H) (.ptr (l + q) b (k * 8)) = some (.agg (kcells f (AV.up (l + q) (e k)))) := by
  obtain ⟨b, c, h1, h2, h3, h4⟩ := h.cell
  have hex : ∀ k, ∃ v : AV, k < L.length → ∃ f, L[k]? = some f ∧ FieldsAt H l i b f.fields v ∧ (c.drop (k * 8)).take 8 = kcells f v := fun k => by
    by_cases hk : k < L.length
    · obtain ⟨v, h5, h6⟩ := h4 k _ (List.getElem?_eq_getElem hk)
      exact ⟨v, fun _ => ⟨_, List.getElem?_eq_getElem hk, h5, h6⟩⟩
    · exact ⟨.junk, fun h => absurd h hk⟩
  obtain ⟨e, he⟩ : ∃ e : Nat → AV, ∀ k, k < L.length → ∃ f, L[k]? = some f ∧ FieldsAt H l i b f.fields (e k) ∧ (c.drop (k * 8)).take 8 = kcells f (e k) := ⟨fun k => (hex k).choose, fun k => (hex k).choose_spec⟩
  refine ⟨b, e, h1, fun k hk => ?_⟩
  obtain ⟨f, hf, h5, h6⟩ := he k hk
  refine ⟨f, hf, h5.leaf, fun q A hA => ?_⟩
  have hg : getB (A ++ H) (l + q) b = some c := by
    subst hA
    clear hf h5 h6
    induction A with
    | nil => exact h2
    | cons a A ih => rw [List.cons_append, List.length_cons, ← Nat.add_assoc, getB_succ]; exact ih
  rw [ldA_ptr, hg]
  simp only [Option.bind_some]
  unfold cut
  rw [if_pos (by omega), h6]
  simp [kcells_up]
end Go.Ev.Try

/- The number of a name; a type put behind all. -/
namespace Go.Ev.Try
open Go Go.Ev Go.Proofs
variable {μ : Nat}

def kAt (L : List Known) (k : Nat) : Known := L.getD k ⟨0, 0, 0, ⟨#[]⟩, [], 0, 0, false⟩
def firstL (p : Known → Bool) (L : List Known) : Int := firstFrom (fun k => p (kAt L k)) L.length (L.length + 1) 0
def namedL (L : List Known) (name : ByteArray) : Int := firstL (isNamed name) L
/-- Searching a table through a closure over one block. -/
theorem search_ok {d lim : Nat} {H : Heap} {l : Nat} {L : List Known} (hL : L.length < 1000000) {b : Nat} {e : Nat → AV} (g : FuncId) (p : Known → Bool) (A : Arena)
    (he : ∀ k, k < L.length → ∃ f, L[k]? = some f ∧ (e k).leaf = true ∧ ∀ (q : Nat) (A : List Arena), A.length = q → ldA 8 (A ++ H) (.ptr (l + q) b (k * 8)) = some (.agg (kcells f (AV.up (l + q) (e k)))))
    (x : Nat) (hg : ∀ (f : Known) (v : AV), v.leaf = true → evCall Try.prog (C μ) d 1 g [.agg (kcells f v), .ptr (l + 2 - (l + 2) + 1) x 0] ([] :: A :: H) = some (vb (p f), [] :: A :: H)) :
    evCall Try.prog (C μ) (d + 1) lim 43 [.sl (l + 1) b 0 L.length 8, .fn g [.ptr 0 x 0]] (A :: H) = some (vi (firstL p L), A :: H) := by
  rw [evCall_pureEq (fi := fi43) rfl rfl (b43 _ _ _ _ _ _)]
  simp only [AV.upL, AV.up]
  rw [idx43 _ _ _ _ _ _ (fun k => .agg (kcells (kAt L k) (AV.up (l + 2) (e k)))) (fun k hk => ?_) hL g [.ptr (0 + 1) x 0] (fun k => p (kAt L k)) (fun k hk => ?_)]
  · simp [firstL]
  · obtain ⟨f, hf, _, h⟩ := he k hk
    have := h 2 [[], A] rfl
    rw [show l + 1 + 1 = l + 2 from rfl]
    simp only [kAt, List.getD_eq_getElem?_getD, hf, Option.getD_some]
    exact this
  · obtain ⟨f, hf, hl, _⟩ := he k hk
    have := hg (kAt L k) (AV.up (l + 2) (e k)) (by rw [leaf_up]; exact hl)
    simpa using this
theorem named_ok {d lim : Nat} {H : Heap} {l i : Nat} {L : List Known} (h : TabAt H l i L) (hL : L.length < 1000000) {name : ByteArray} :
    evCall Try.prog (C μ) (d + 3) lim 35 [.ptr l i 0, vs name] H = some (vi (namedL L name), H) := by
  rw [evCall_pureEq (fi := fi35) rfl rfl (b35 _ _ _ _ _ _)]
  unfold s35
  obtain ⟨b, e, h1, he⟩ := h.rows
  simp only [AV.upL, AV.up]
  rw [bx_leaf rfl]
  have := search_ok (μ := μ) (d := d + 1) (lim := 1) (H := H) (l := l) hL (b := b) (e := e) 45 (isNamed name) [some [vs name]] he 0 (fun f v hv => clo45 (by simp) hv)
  simp [h1, this, namedL]
end Go.Ev.Try

/- A type put behind all. -/
namespace Go.Ev.Try
open Go Go.Ev Go.Proofs
variable {μ : Nat}

/-- Are two types one (but structs)? -/
def isLike (x f : Known) : Bool := decide (f.kind = x.kind) && decide (f.elem = x.elem) && decide (f.len = x.len) && !decide (x.kind = 5)
theorem clo44 {d lim : Nat} {H : Heap} {l i : Nat} {x : Known} {u : AV} (h : getB H l i = some (kcells x u)) {f : Known} {v : AV} (hv : v.leaf = true) :
    evCall Try.prog (C μ) (d + 1) lim 44 [.agg (kcells f v), .ptr l i 0] H = some (vb (isLike x f), H) := by
  rw [evCall_pureEq (fi := fi44) rfl rfl (b44 _ _ _ _ _ _)]
  unfold s44
  simp only [AV.up, upL_eq]
  rw [bx_agg (by simp only [kcells, List.map_cons, List.map_nil, List.all_cons, List.all_nil, leaf_up, hv]; rfl)]
  unfold isLike
  by_cases h1 : f.kind = x.kind <;> by_cases h2 : f.elem = x.elem <;> by_cases h3 : f.len = x.len <;> simp [kcells, h, h1, h2, h3]

theorem rows_length {L : List Known} {vs : List AV} (h : vs.length = L.length) : ((L.zip vs).flatMap fun x => kcells x.1 x.2).length = L.length * 8 := by
  induction L generalizing vs with
  | nil => simp
  | cons x L ih =>
    cases vs with
    | nil => simp at h
    | cons v vs =>
      have := ih (vs := vs) (by simpa using h)
      have hk : (kcells x v).length = 8 := rfl
      simp only [List.zip_cons_cons, List.flatMap_cons, List.length_append, List.length_cons, this, hk]
      omega
/-- A table in the arena at hand: its block, its rows' block. -/
structure Tab (A : Arena) (i b : Nat) (L : List Known) : Prop where
  ne : i ≠ b
  tab : A[i]? = some (some [.sl 0 b 0 L.length 8])
  rows : ∃ vs : List AV, vs.length = L.length ∧ A[b]? = some (some ((L.zip vs).flatMap fun x => kcells x.1 x.2)) ∧ ∀ (k : Nat) (f : Known) (v : AV), L[k]? = some f → vs[k]? = some v → FieldsAt [A] 0 i b f.fields v
theorem Tab.at_ {A : Arena} {i b : Nat} {L : List Known} (h : Tab A i b L) (H : Heap) : TabAt (A :: H) 0 i L := by
  obtain ⟨vs, h1, h2, h3⟩ := h.rows
  exact ⟨b, vs, h.ne, h1, by simp [h.tab], by simp [h2], h3⟩
/-- What lies beside may grow and change. -/
theorem Tab.keep {A A' : Arena} {i b : Nat} {L : List Known} (h : Tab A i b L) (hk : ∀ j, j < A.length → A'[j]? = A[j]?) : Tab A' i b L := by
  obtain ⟨vs, h1, h2, h3⟩ := h.rows
  have hlt : ∀ j x, A[j]? = some x → A'[j]? = some x := fun j x e => by rw [hk j (List.getElem?_eq_some_iff.1 e).1, e]
  refine ⟨h.ne, hlt _ _ h.tab, vs, h1, hlt _ _ h2, fun k f v hf hv => ?_⟩
  rcases h3 k f v hf hv with h | ⟨x, e, hx, hy, hz, hne⟩
  · exact .inl h
  · refine .inr ⟨x, e, hx, hy, ?_, hne⟩
    simp only [getB_zero] at hz ⊢
    have : x < A.length := by
      rcases Nat.lt_or_ge x A.length with h | h
      · exact h
      · rw [List.getElem?_eq_none h] at hz; cases hz
    rw [hk x this]
    exact hz
theorem Tab.app {A : Arena} {i b : Nat} {L : List Known} (h : Tab A i b L) (B : Arena) : Tab (A ++ B) i b L := h.keep fun j hj => List.getElem?_append_left hj
theorem Tab.lt {A : Arena} {i b : Nat} {L : List Known} (h : Tab A i b L) : i < A.length ∧ b < A.length := by
  obtain ⟨vs, _, h2, _⟩ := h.rows
  exact ⟨(List.getElem?_eq_some_iff.1 h.tab).1, (List.getElem?_eq_some_iff.1 h2).1⟩

/-- All blocks but two stay. -/
def Stay (A A' : Arena) (i b : Nat) : Prop := A.length ≤ A'.length ∧ ∀ j, j < A.length → j ≠ i → j ≠ b → A'[j]? = A[j]?
/-- The rows' block of a table is as before, or new. -/
def New (A : Arena) (b b' : Nat) : Prop := b' = b ∨ A.length ≤ b'
theorem Stay.refl (A : Arena) (i b : Nat) : Stay A A i b := ⟨Nat.le_refl _, fun _ _ _ _ => rfl⟩
theorem Stay.trans {A A' A'' : Arena} {i b b' : Nat} (h : Stay A A' i b) (k : Stay A' A'' i b') (n : New A b b') : Stay A A'' i b :=
  ⟨Nat.le_trans h.1 k.1, fun j hj hi hb => by rw [k.2 j (Nat.lt_of_lt_of_le hj h.1) hi (by rcases n with rfl | n <;> omega), h.2 j hj hi hb]⟩
theorem New.trans {A A' : Arena} {b b' b'' : Nat} (h : New A b b') (l : A.length ≤ A'.length) (k : New A' b' b'') : New A b b'' := by
  unfold New at *; omega
theorem Stay.app (A B : Arena) (i b : Nat) : Stay A (A ++ B) i b := ⟨by simp, fun j hj _ _ => List.getElem?_append_left hj⟩

theorem search_at {d lim : Nat} {H : Heap} {l l' : Nat} {L : List Known} (hL : L.length < 1000000) {b : Nat} {e : Nat → AV} (g : FuncId) (p : Known → Bool)
    (he : ∀ k, k < L.length → ∃ f, L[k]? = some f ∧ (e k).leaf = true ∧ ∀ (q : Nat) (A : List Arena), A.length = q → ldA 8 (A ++ H) (.ptr (l + q) b (k * 8)) = some (.agg (kcells f (AV.up (l + q) (e k)))))
    (x : Nat) (hg : ∀ (f : Known) (v : AV), v.leaf = true → evCall Try.prog (C μ) d 1 g [.agg (kcells f v), .ptr (l' + 1) x 0] ([] :: H) = some (vb (p f), [] :: H)) :
    evCall Try.prog (C μ) (d + 1) lim 43 [.sl l b 0 L.length 8, .fn g [.ptr l' x 0]] H = some (vi (firstL p L), H) := by
  rw [evCall_pureEq (fi := fi43) rfl rfl (b43 _ _ _ _ _ _)]
  simp only [AV.upL, AV.up]
  rw [idx43 _ _ _ _ _ _ (fun k => .agg (kcells (kAt L k) (AV.up (l + 1) (e k)))) (fun k hk => ?_) hL g [.ptr (l' + 1) x 0] (fun k => p (kAt L k)) (fun k hk => ?_)]
  · simp [firstL]
  · obtain ⟨f, hf, _, h⟩ := he k hk
    have := h 1 [[]] rfl
    simp only [kAt, List.getD_eq_getElem?_getD, hf, Option.getD_some]
    exact this
  · obtain ⟨f, hf, hl, _⟩ := he k hk
    exact hg (kAt L k) (AV.up (l + 1) (e k)) (by rw [leaf_up]; exact hl)
def putL (L : List Known) (x : Known) : Int × Int × List Known :=
  if 0 ≤ firstL (isLike x) L then (firstL (isLike x) L, 0, L) else if 400 ≤ L.length then (0, 8, L) else (L.length, 0, L ++ [x])
abbrev nilF : AV := .d (.seq true 0 [])
abbrev pair (n e : Int) : AV := .tup [vi n, vi e]
/-- What a call that makes a type leaves. -/
def Made (A : Arena) (H : Heap) (i b : Nat) (m : Int × Int × List Known) (r : AV × Heap) : Prop :=
  r.1 = pair m.1 m.2.1 ∧ ∃ A' b', r.2 = A' :: H ∧ Tab A' i b' m.2.2 ∧ New A b b' ∧ Stay A A' i b
theorem put_ok {d lim : Nat} {A : Arena} {H : Heap} {i b : Nat} {L : List Known} (h : Tab A i b L) (hl : 0 < lim) (hL : L.length ≤ 400) {x : Known} (hx : x.fields = []) :
    Gives (evCall Try.prog (C μ) (d + 3) lim 34 [.ptr 0 i 0, .agg (kcells x nilF)] (A :: H)) (Made A H i b (putL L x)) := by
  rw [evCall_inEq (fi := fi34) rfl rfl (b34 _ _ _ _ _ _)]
  unfold s34
  rw [bx_agg (by simp [kcells, AV.leaf])]
  have h1 := h.app [some (kcells x nilF)]
  obtain ⟨b0, e, g1, he⟩ := (h1.at_ H).rows
  have hb0 : b0 = b := by
    simp only [getB_zero, h1.tab] at g1
    simpa using g1.symm
  subst hb0
  have hs := search_at (μ := μ) (d := d + 1) (lim := lim) (H := (A ++ [some (kcells x nilF)]) :: H) (l := 0) (l' := 0) (by omega) (b := b0) (e := e) 44 (isLike x) he A.length (fun f v hv => clo44 (x := x) (u := nilF) (by simp) hv)
  have hs0 : List.length (A ++ [some (kcells x nilF)]) = A.length + 1 := by simp
  have hlt := h.lt
  simp [h1.tab, hs]
  by_cases hf : 0 ≤ firstL (isLike x) L
  · simp [hf, putL]
    exact ⟨rfl, _, b0, rfl, h1, .inl rfl, Stay.app _ _ _ _⟩
  · simp [hf, putL, h1.tab]
    by_cases h4 : 400 ≤ L.length
    · have h4' : (400 : Int) ≤ L.length := by omega
      simp [h4, h4']
      exact ⟨rfl, _, b0, rfl, h1, .inl rfl, Stay.app _ _ _ _⟩
    · have h4' : ¬ (400 : Int) ≤ L.length := by omega
      obtain ⟨vs, hv1, hv2, hv3⟩ := h1.rows
      have hold : ((L.zip vs).flatMap fun x => kcells x.1 x.2).length = L.length * 8 := rows_length hv1
      have hlt1 := h1.lt
      have hlen : (A ++ [some (kcells x nilF)]).length = A.length + 1 := by simp
      have hleaf : (kcells x nilF).all AV.leaf = true := by simp [kcells]
      have hst1 : Stay A (A ++ [some (kcells x nilF)]) i b0 := Stay.app _ _ _ _
      rw [cut_all (show 8 = (kcells x nilF).length from rfl)]
      generalize A ++ [some (kcells x nilF)] = A1 at *
      simp only [Option.map_some, pu_some]
      simp only [h4, h4', decide_false, cn_false, if_false]
      rw [bldS_one (s := 8) (cs := kcells x nilF) rfl rfl hleaf]
      have hi : ∀ B : Arena, (A1 ++ B)[i]? = some (some [.sl 0 b0 0 L.length 8]) := fun B => by rw [List.getElem?_append_left hlt1.1, h1.tab]
      have hb : ∀ B : Arena, (A1 ++ B)[b0]? = some (some ((L.zip vs).flatMap fun x => kcells x.1 x.2)) := fun B => by rw [List.getElem?_append_left hlt1.2, hv2]
      simp only [bi_some, getB_zero, hi, Option.join_some, Option.bind_some, List.getElem?_cons_zero, Option.map_some, up_zero, pm_some, again_self, ck_t]
      rw [elS_here (c := kcells x nilF) (by simp) (by simp [kcells]), app_sl hl (by rw [hb]; rfl) hold (by decide) (by omega) (by omega) (by simp [kcells])]
      simp only [bi_some]
      rw [stA_leaf (c := [.sl 0 b0 0 L.length 8]) hl rfl (by rw [List.getElem?_append_left (by simp; omega), List.getElem?_set_ne (fun e => h.ne e.symm), hi]; rfl) (by simp)]
      rw [show List.take (1 * 8) (List.drop 0 (kcells x nilF)) = kcells x nilF from rfl]
      generalize hA3 : (List.set (A1 ++ [some (kcells x nilF)]) b0 none ++ [some (List.flatMap (fun x => kcells x.1 x.2) (L.zip vs) ++ kcells x nilF)]) = A3
      have hl3 : A3.length = A1.length + 2 := by simp [← hA3]
      have hA3' : ∀ j, j < A1.length → j ≠ b0 → A3[j]? = A1[j]? := fun j hj hjb => by
        rw [← hA3, List.getElem?_append_left (by simp; omega), List.getElem?_set_ne (fun e => hjb e.symm), List.getElem?_append_left hj]
      have hnew : A3[A1.length + 1]? = some (some (List.flatMap (fun x => kcells x.1 x.2) (L.zip vs) ++ kcells x nilF)) := by
        rw [← hA3, List.getElem?_append_right (by simp)]
        simp
      simp [List.getElem?_set_self (show i < A3.length by omega)]
      refine ⟨?_, _, A1.length + 1, rfl, ⟨by omega, ?_, vs ++ [nilF], by simp [hv1], ?_, fun k f v hf hv => ?_⟩, .inr (by omega), by simp; omega, fun j hj hji hjb => ?_⟩
      · simp [pair, wrap_ok (L.length : Int) (by omega) (by omega)]
      · simp [List.getElem?_set_self (show i < A3.length by omega)]
      · rw [List.getElem?_set_ne (by omega), hnew, List.zip_append hv1.symm]
        simp
      · rw [List.getElem?_append] at hf hv
        split at hf
        · rename_i hk
          rw [if_pos (by omega)] at hv
          rcases hv3 k f v hf hv with h | ⟨y, e, hx1, hy, hz, hne⟩
          · exact .inl h
          · simp only [getB_zero] at hz
            have : y < A1.length := by
              rcases Nat.lt_or_ge y A1.length with h | h
              · exact h
              · rw [List.getElem?_eq_none h] at hz; cases hz
            refine .inr ⟨y, e, hx1, by omega, ?_, hne⟩
            simp only [getB_zero]
            rw [List.getElem?_set_ne (fun e => hx1 e.symm), hA3' y this hy]
            exact hz
        · rename_i hk
          rw [if_neg (by omega)] at hv
          have : k = L.length := by
            have := (List.getElem?_eq_some_iff.1 hf).1
            simp at this
            omega
          subst this
          simp [hv1] at hf hv
          subst hf hv
          exact .inl ⟨hx, rfl⟩
      · rw [List.getElem?_set_ne (fun e => hji e.symm), hA3' j (by omega) hjb]
        exact hst1.2 j hj hji hjb
end Go.Ev.Try

/- Fields: are any so, and what hinders them. -/
namespace Go.Ev.Try
open Go Go.Ev Go.Proofs
variable {μ : Nat}

def fD (f : Fld) : List D := [.str f.name, .int .i64 f.type, .int .i64 f.at_]
def fsD (nl : Bool) (fs : List Fld) : D := .seq nl fs.length (fs.flatMap fD)
theorem fD_cells (f : Fld) : (fD f).map AV.d = fcells f := (rfl)
theorem fsD_map (fs : List Fld) : (fs.flatMap fD).map AV.d = fs.flatMap fcells := by
  induction fs with
  | nil => rfl
  | cons f fs ih => simp only [List.flatMap_cons, List.map_append, ih, fD_cells]
theorem fsD_len (fs : List Fld) : (fs.flatMap fD).length = fs.length * 3 := by
  induction fs with
  | nil => rfl
  | cons f fs ih =>
    have : (fD f).length = 3 := rfl
    simp only [List.flatMap_cons, List.length_append, ih, List.length_cons, this]
    omega
theorem fsD_cut {fs : List Fld} {k : Nat} {f : Fld} (h : fs[k]? = some f) : cut (fs.flatMap fD) (k * 3) 3 = some (fD f) := by
  have hk := (List.getElem?_eq_some_iff.1 h).1
  rw [cut_eq (by rw [fsD_len]; omega)]
  congr 1
  induction fs generalizing k with
  | nil => simp at h
  | cons x fs ih =>
    cases k with
    | zero =>
      simp at h
      subst h
      simp [fD]
    | succ k =>
      have := ih (k := k) (by simpa using h) (by simpa using hk)
      rw [List.flatMap_cons, ← this, show (k + 1) * 3 = 3 + k * 3 by omega, ← List.drop_drop]
      congr 2
theorem fsD_take (fs : List Fld) (k : Nat) : (fs.flatMap fD).take (k * 3) = (fs.take k).flatMap fD := by
  induction fs generalizing k with
  | nil => simp
  | cons x fs ih =>
    cases k with
    | zero => simp
    | succ k =>
      have : (fD x).length = 3 := rfl
      rw [List.flatMap_cons, List.take_succ_cons, List.flatMap_cons, ← ih k, List.take_append, this, List.take_of_length_le (by rw [this]; omega)]
      congr 2
      omega

def fAt (fs : List Fld) (k : Nat) : Fld := fs.getD k ⟨⟨#[]⟩, 0, 0⟩
/-- Searching fields: the loop. -/
theorem idx51_loop (call : ACall) (lim : Nat) (H : Heap) (nl : Bool) (fs : List Fld) (hn : fs.length < 1000000) (g : FuncId) (caps : List AV) (p : Fld → Bool)
    (hp : ∀ f, f ∈ fs → call g (.agg (fcells f) :: caps) H = some (vb (p f), H)) :
    ∀ (m k : Nat), fs.length < k + m → k ≤ fs.length → ∀ r, r = (if firstFrom (fun k => p (fAt fs k)) fs.length m k < 0 then ((.exit 0, [], H) : Res) else (.ret, [vi (firstFrom (fun k => p (fAt fs k)) fs.length m k)], H)) →
      ∀ q, iterN (m + q) (s51.l0 call lim) [.d (fsD nl fs), .fn g caps, vi fs.length, vi k] H = some r := by
  intro m
  induction m with
  | zero => intro k h1 h2; omega
  | succ m ih =>
    intro k h1 h2 r hr q
    rw [show m + 1 + q = (m + q) + 1 by omega]
    rcases Nat.lt_or_ge k fs.length with hk | hk
    · obtain ⟨f, hf⟩ : ∃ f, fs[k]? = some f := ⟨_, List.getElem?_eq_getElem hk⟩
      have hff : fAt fs k = f := by simp [fAt, List.getD_eq_getElem?_getD, hf]
      have hc := hp f (List.mem_of_getElem? hf)
      have hcut := fsD_cut hf
      cases hpk : p f with
      | true =>
        have : firstFrom (fun k => p (fAt fs k)) fs.length (m + 1) k = k := by simp [firstFrom, hk, hff, hpk]
        rw [this, if_neg (by omega)] at hr
        rw [hr]
        refine iterN_ret ?_
        unfold s51.l0
        rw [hpk] at hc
        simp [fsD, hk, inB_nat hk, hcut, fD_cells, hc]
      | false =>
        have : firstFrom (fun k => p (fAt fs k)) fs.length (m + 1) k = firstFrom (fun k => p (fAt fs k)) fs.length m (k + 1) := by simp [firstFrom, hk, hff, hpk]
        rw [this] at hr
        refine Eq.trans (iterN_go (vals' := [.d (fsD nl fs), .fn g caps, vi fs.length, vi (k + 1 : Nat)]) (H' := H) ?_) (ih (k + 1) (by omega) (by omega) r hr q)
        unfold s51.l0
        rw [hpk] at hc
        simp [fsD, hk, inB_nat hk, hcut, fD_cells, hc]
        exact wrap_ok ((k : Int) + 1) (by omega) (by omega)
    · have : firstFrom (fun k => p (fAt fs k)) fs.length (m + 1) k = -1 := by simp [firstFrom, Nat.not_lt.2 hk]
      rw [this, if_pos (by omega)] at hr
      rw [hr]
      refine iterN_exit ?_
      unfold s51.l0
      simp [Nat.not_lt.2 hk]
theorem first_any (p : Fld → Bool) (fs : List Fld) : ∀ m k, fs.length < k + m → k ≤ fs.length → (decide (0 ≤ firstFrom (fun k => p (fAt fs k)) fs.length m k) = (fs.drop k).any p ∧ (firstFrom (fun k => p (fAt fs k)) fs.length m k < 0 → firstFrom (fun k => p (fAt fs k)) fs.length m k = -1)) := by
  intro m
  induction m with
  | zero => intro k h1 h2; omega
  | succ m ih =>
    intro k h1 h2
    unfold firstFrom
    split
    · rename_i hk
      rw [List.drop_eq_getElem_cons hk]
      have : fAt fs k = fs[k] := by simp [fAt, List.getD_eq_getElem?_getD, hk]
      rw [this]
      split
      · rename_i hp
        refine ⟨?_, fun h => by omega⟩
        rw [List.any_cons, hp]
        simp
      · rename_i hp
        have := ih (k + 1) (by omega) (by omega)
        simp only [this.1]
        refine ⟨?_, this.2⟩
        rw [List.any_cons, Bool.eq_false_iff.2 hp, Bool.false_or]
    · rename_i hk
      rw [List.drop_of_length_le (by omega)]
      simp
theorem contains_ok {d lim : Nat} {H : Heap} {nl : Bool} {fs : List Fld} (hn : fs.length < 1000000) (g : FuncId) (caps : List AV) (p : Fld → Bool)
    (hp : ∀ f, f ∈ fs → evCall Try.prog (C μ) d 1 g (.agg (fcells f) :: (caps.map (AV.up 1)).map (AV.up 1)) ([] :: [] :: H) = some (vb (p f), [] :: [] :: H)) :
    evCall Try.prog (C μ) (d + 2) lim 46 [.d (fsD nl fs), .fn g caps] H = some (vb (fs.any p), H) := by
  have h51 : evCall Try.prog (C μ) (d + 1) 1 51 [.d (fsD nl fs), .fn g (caps.map (AV.up 1))] ([] :: H) = some (vi (firstFrom (fun k => p (fAt fs k)) fs.length (fs.length + 1) 0), [] :: H) := by
    rw [evCall_pureEq (fi := fi51) rfl rfl (b51 _ _ _ _ _ _)]
    unfold s51
    have h := idx51_loop (evCall Try.prog (C μ) d 1) 1 ([] :: [] :: H) nl fs hn g _ p hp (fs.length + 1) 0 (by omega) (by omega) _ rfl (LB - (fs.length + 1))
    rw [show fs.length + 1 + (LB - (fs.length + 1)) = LB by unfold LB; omega] at h
    simp only [Int.natCast_zero] at h
    have hf := first_any p fs (fs.length + 1) 0 (by omega) (by omega)
    simp only [AV.upL, AV.up, upL_eq]
    rw [show lnS (.d (fsD nl fs)) = some (vi fs.length) from rfl]
    simp only [pu_some, lp]
    rw [bnd_eq, h]
    by_cases hlt : firstFrom (fun k => p (fAt fs k)) fs.length (fs.length + 1) 0 < 0
    · rw [if_pos hlt]
      simp [hf.2 hlt]
    · rw [if_neg hlt]
      simp [gv]
  rw [evCall_pureEq (fi := fi46) rfl rfl (b46 _ _ _ _ _ _)]
  unfold s46
  simp only [AV.upL, AV.up, upL_eq]
  rw [h51]
  have hf := (first_any p fs (fs.length + 1) 0 (by omega) (by omega)).1
  simp at hf
  simp [hf]

theorem fcells_leaf (f : Fld) : (fcells f).all AV.leaf = true := (rfl)
theorem fcells_up (l : Nat) (f : Fld) : (fcells f).map (AV.up l) = fcells f := by simp [fcells]
theorem clo47 {d lim : Nat} {H : Heap} {f : Fld} : evCall Try.prog (C μ) (d + 1) lim 47 [.agg (fcells f)] H = some (vb (decide (f.name = ⟨#[]⟩)), H) := by
  rw [evCall_pureEq (fi := fi47) rfl rfl (b47 _ _ _ _ _)]
  unfold s47
  simp only [AV.upL, AV.up, upL_eq, fcells_up, bx_agg (fcells_leaf f)]
  simp [fcells]
theorem clo48 {d lim : Nat} {H : Heap} {l i l2 i2 : Nat} {L : List Known} (hb : getB H l i = some [.ptr l2 i2 0]) (h : TabAt H (l2 + l) i2 L) {f : Fld} :
    evCall Try.prog (C μ) (d + 2) lim 48 [.agg (fcells f), .ptr l i 0] H = some (vb (!hasL L f.type), H) := by
  rw [evCall_pureEq (fi := fi48) rfl rfl (b48 _ _ _ _ _ _)]
  unfold s48
  simp only [AV.upL, AV.up, upL_eq, fcells_up, bx_agg (fcells_leaf f)]
  simp [hb, fcells, ← Nat.add_assoc, has_call (h.push _)]
theorem clo49 {d lim : Nat} {H : Heap} {l i l2 i2 : Nat} {L : List Known} (hb : getB H l i = some [.ptr l2 i2 0]) (h : TabAt H (l2 + l) i2 L) {f : Fld} :
    evCall Try.prog (C μ) (d + 3) lim 49 [.agg (fcells f), .ptr l i 0] H = some (vb (decide (sizeL L f.type = 0)), H) := by
  rw [evCall_pureEq (fi := fi49) rfl rfl (b49 _ _ _ _ _ _)]
  unfold s49
  simp only [AV.upL, AV.up, upL_eq, fcells_up, bx_agg (fcells_leaf f)]
  simp [hb, fcells, ← Nat.add_assoc, size_ok (h.push _)]
theorem clo50 {d lim : Nat} {H : Heap} {l i : Nat} {f : Fld} (hb : getB H l i = some (fcells f)) {g : Fld} :
    evCall Try.prog (C μ) (d + 1) lim 50 [.agg (fcells g), .ptr l i 0] H = some (vb (decide (g.name = f.name)), H) := by
  rw [evCall_pureEq (fi := fi50) rfl rfl (b50 _ _ _ _ _ _)]
  unfold s50
  simp only [AV.upL, AV.up, upL_eq, fcells_up, bx_agg (fcells_leaf g)]
  simp [hb, fcells]
end Go.Ev.Try

/- What hinders fields; pointers, arrays, open structs are made. -/
namespace Go.Ev.Try
open Go Go.Ev Go.Proofs
variable {μ : Nat}

def dupAt (fs : List Fld) (i : Nat) : Bool := (fs.take i).any fun g => decide (g.name = (fAt fs i).name)
def dupL (fs : List Fld) : Bool := (List.range fs.length).any (dupAt fs)
theorem may_loop {d : Nat} {H : Heap} {nl : Bool} {fs : List Fld} (hn : fs.length < 1000000) : ∀ (m k : Nat) (A : Arena), fs.length < k + m → k ≤ fs.length → ∀ q,
    Gives (iterN (m + q) (s38.l0 (evCall Try.prog (C μ) (d + 3) 1) 1) [.d (fsD nl fs), .d (fsD nl fs), vi fs.length, vi k] (A :: H)) fun r =>
      ∃ A', (r = (.ret, [vi 6], A' :: H) ∧ ∃ i, i < fs.length ∧ dupAt fs i = true) ∨ (r = (.exit 1, [], A' :: H) ∧ ∀ i, k ≤ i → i < fs.length → dupAt fs i = false) := by
  intro m
  induction m with
  | zero => intro k A h1 h2; omega
  | succ m ih =>
    intro k A h1 h2 q
    rw [show m + 1 + q = (m + q) + 1 by omega]
    rcases Nat.lt_or_ge k fs.length with hk | hk
    · obtain ⟨f, hf⟩ : ∃ f, fs[k]? = some f := ⟨_, List.getElem?_eq_getElem hk⟩
      have hff : fAt fs k = f := by simp [fAt, List.getD_eq_getElem?_getD, hf]
      have hcut := fsD_cut hf
      have hround : s38.l0 (evCall Try.prog (C μ) (d + 3) 1) 1 [.d (fsD nl fs), .d (fsD nl fs), vi fs.length, vi k] (A :: H) =
          if dupAt fs k then some (.ret, [vi 6], (A ++ [some (fcells f)]) :: H) else some (.normal, [.d (fsD nl fs), .d (fsD nl fs), vi fs.length, vi (k + 1 : Nat)], (A ++ [some (fcells f)]) :: H) := by
        unfold s38.l0
        have hc := contains_ok (μ := μ) (d := d + 1) (lim := 1) (H := (A ++ [some (fcells f)]) :: H) (nl := nl) (fs := fs.take k) (by simp; omega) 50 [.ptr 0 A.length 0] (fun g => decide (g.name = f.name))
          (fun g _ => clo50 (f := f) (by simp))
        have hst : stA 3 1 ((A ++ [some [.d (.str ⟨#[]⟩), .d (.int .i64 0), .d (.int .i64 0)]]) :: H) (.ptr 0 A.length 0) (.agg (fcells f)) = some (.undef, (A ++ [some (fcells f)]) :: H) := by
          exact stA_new (by omega) (fcells_leaf f) rfl rfl
        have hsl : slS 3 (.d (fsD nl fs)) none (some (vi k)) = some (.d (fsD nl (fs.take k))) := by
          simp only [fsD, slS, bounds, Option.bind_some, inB_nat (show k < fs.length + 1 by omega), Option.map_some]
          simp [fsD_take, Nat.min_eq_left h2]
        simp [fsD, hk, inB_nat hk, hcut, fD_cells, hst]
        rw [show AV.d (D.seq nl fs.length (fs.flatMap fD)) = .d (fsD nl fs) from rfl, hsl]
        simp [hc]
        have : (fs.take k).any (fun g => decide (g.name = f.name)) = dupAt fs k := by rw [dupAt, hff]
        rw [this]
        cases hd : dupAt fs k with
        | true => simp
        | false =>
          simp
          exact wrap_ok ((k : Int) + 1) (by omega) (by omega)
      cases hd : dupAt fs k with
      | true =>
        rw [hd, if_pos rfl] at hround
        rw [iterN_ret hround, gives_some]
        exact ⟨_, .inl ⟨rfl, k, hk, hd⟩⟩
      | false =>
        rw [hd] at hround
        simp only [Bool.false_eq_true, if_false] at hround
        rw [iterN_go hround]
        refine gives_mono (ih (k + 1) _ (by omega) (by omega) q) ?_
        rintro r ⟨A', h | ⟨h, h'⟩⟩
        · exact ⟨A', .inl h⟩
        · refine ⟨A', .inr ⟨h, fun i hi hi' => ?_⟩⟩
          rcases Nat.eq_or_lt_of_le hi with rfl | hi
          · exact hd
          · exact h' i hi hi'
    · rw [iterN_exit (i := 1) (vals' := []) (H' := A :: H), gives_some]
      · exact ⟨A, .inr ⟨rfl, fun i hi hi' => by omega⟩⟩
      · unfold s38.l0
        simp [Nat.not_lt.2 hk]
def mayL (L : List Known) (fs : List Fld) : Int :=
  if fs = [] ∨ fs.any (fun f => decide (f.name = ⟨#[]⟩)) = true then 1 else if fs.any (fun f => !hasL L f.type) then 4 else if fs.any (fun f => decide (sizeL L f.type = 0)) then 5 else if dupL fs then 6 else 0
theorem may_ok {d lim : Nat} {H : Heap} {l i : Nat} {L : List Known} (h : TabAt H l i L) {nl : Bool} {fs : List Fld} (hn : fs.length < 1000000) :
    evCall Try.prog (C μ) (d + 6) lim 38 [.ptr l i 0, .d (fsD nl fs)] H = some (vi (mayL L fs), H) := by
  rw [evCall_pureEq (fi := fi38) rfl rfl (b38 _ _ _ _ _ _)]
  unfold s38
  simp only [AV.upL, AV.up, bx_leaf (leaf_ptr _ _ _), List.length_nil, List.nil_append]
  have c1 := contains_ok (μ := μ) (d := d + 3) (lim := 1) (H := [some [.ptr (l + 1) i 0]] :: H) (nl := nl) hn 47 [] (fun f => decide (f.name = ⟨#[]⟩)) (fun f _ => clo47)
  have c2 := contains_ok (μ := μ) (d := d + 3) (lim := 1) (H := [some [.ptr (l + 1) i 0]] :: H) (nl := nl) hn 48 [.ptr 0 0 0] (fun f => !hasL L f.type) (fun f _ => clo48 (l2 := l + 1) (i2 := i) (by simp) (((h.push _).push _).push _))
  have c3 := contains_ok (μ := μ) (d := d + 3) (lim := 1) (H := [some [.ptr (l + 1) i 0]] :: H) (nl := nl) hn 49 [.ptr 0 0 0] (fun f => decide (sizeL L f.type = 0)) (fun f _ => clo49 (l2 := l + 1) (i2 := i) (by simp) (((h.push _).push _).push _))
  have hl : lnS (.d (fsD nl fs)) = some (vi fs.length) := rfl
  unfold mayL
  generalize hb1 : (fs.any fun f => decide (f.name = ⟨#[]⟩)) = b1 at *
  generalize hb2 : (fs.any fun f => !hasL L f.type) = b2 at *
  generalize hb3 : (fs.any fun f => decide (sizeL L f.type = 0)) = b3 at *
  simp [hl]
  by_cases h0 : fs = []
  · simp [h0]
  · simp [h0, c1]
    cases b1 with
    | true => simp
    | false =>
      simp [c2]
      cases b2 with
      | true => simp
      | false =>
        simp [c3]
        cases b3 with
        | true => simp
        | false =>
          simp [lp, bnd_eq]
          have hloop := may_loop (μ := μ) (d := d + 2) (H := H) (nl := nl) hn (fs.length + 1) 0 [some [.ptr (l + 1) i 0]] (by omega) (by omega) (LB - (fs.length + 1))
          rw [show fs.length + 1 + (LB - (fs.length + 1)) = LB by unfold LB; omega] at hloop
          obtain ⟨r, hr, A', h | h⟩ := hloop
          · obtain ⟨rfl, j, hj, hj'⟩ := h
            have : dupL fs = true := by simp only [dupL, List.any_eq_true, List.mem_range]; exact ⟨j, hj, hj'⟩
            simp only [Int.natCast_zero] at hr
            rw [hr]
            simp [gv, this]
          · obtain ⟨rfl, hj⟩ := h
            have : dupL fs = false := by simp only [dupL, List.any_eq_false, List.mem_range]; intro j hj'; simp [hj j (by omega) hj']
            simp only [Int.natCast_zero] at hr
            rw [hr]
            simp [gv, this]
end Go.Ev.Try

/- Pointers, arrays, open structs are made; what is found. -/
namespace Go.Ev.Try
open Go Go.Ev Go.Proofs
variable {μ : Nat}

theorem Tab.has {A : Arena} {i b : Nat} {L : List Known} (h : Tab A i b L) {d lim : Nat} {H : Heap} {n : Int} : evCall Try.prog (C μ) (d + 1) lim 33 [.ptr 0 i 0, vi n] (A :: H) = some (vb (hasL L n), A :: H) := has_call (h.at_ H)
/-- A table's cells at one type, in the arena at hand. -/
theorem Tab.at0 {A : Arena} {i b : Nat} {L : List Known} (h : Tab A i b L) {n : Int} (hn : hasL L n = true) : ∃ (c : List AV) (v : AV), A[b]? = some (some c) ∧ FieldsAt [A] 0 i b (atL L n).fields v ∧ c.length = L.length * 8 ∧
    (c.drop (n.toNat * 8)).take 8 = kcells (atL L n) v ∧ ∀ j, j < 8 → c[n.toNat * 8 + j]? = (kcells (atL L n) v)[j]? := by
  obtain ⟨b0, c, h1, h2, h3, h4⟩ := (h.at_ []).cell
  obtain ⟨v, h5, h6⟩ := h4 _ _ (hasL_lt hn).2.2.2
  have : b0 = b := by
    rw [getB_zero, h.tab] at h1
    simpa using h1.symm
  subst this
  refine ⟨c, v, ?_, h5, h3, h6, fun j hj => take_get h6 j hj⟩
  rw [getB_zero] at h2
  cases hA : A[b0]? with
  | none => rw [hA] at h2; cases h2
  | some x => rw [hA] at h2; simpa using h2

def kn (kind elem len size align : Int) : Known := ⟨kind, elem, len, ⟨#[]⟩, [], size, align, false⟩
def ptrL (L : List Known) (n : Int) : Int × Int × List Known := if hasL L n then putL L (kn 3 n 0 4 4) else (0, 4, L)
theorem ptr_ok {d lim : Nat} {A : Arena} {H : Heap} {i b : Nat} {L : List Known} (h : Tab A i b L) (hl : 0 < lim) (hL : L.length ≤ 400) {n : Int} :
    Gives (evCall Try.prog (C μ) (d + 4) lim 13 [.ptr 0 i 0, vi n] (A :: H)) (Made A H i b (ptrL L n)) := by
  rw [evCall_inEq (fi := fi13) rfl rfl (b13 _ _ _ _ _ _)]
  unfold s13 ptrL
  simp [h.has]
  cases hn : hasL L n with
  | false => simp; exact ⟨rfl, _, b, rfl, h, .inl rfl, Stay.refl _ _ _⟩
  | true =>
    obtain ⟨⟨v, H'⟩, hr, hv, hm⟩ := put_ok (μ := μ) (d := d) (H := H) h hl hL (x := kn 3 n 0 4 4) rfl
    simp only [kn, kcells] at hr
    simp [bld, afill, acells, setMany, hr]
    dsimp only at hv
    subst hv
    simp
    exact ⟨rfl, hm⟩
def arrayL (L : List Known) (n long : Int) : Int × Int × List Known :=
  if hasL L n then
    if sizeL L n = 0 then (0, 5, L) else if long < 1 then (0, 1, L) else if (32768 : Int).tdiv (sizeL L n) < long then (0, 2, L) else putL L (kn 4 n long (IntKind.i64.wrap (long * sizeL L n)) (alignL L n))
  else (0, 4, L)
theorem quo_ok {P : Program} {t : TypeId} (a b : Int) (ha : 0 ≤ a ∧ a < 1000000000) (h : b ≠ 0) (hb : 0 < b) : abin P .quo t (vi a) (vi b) = some (vi (a.tdiv b)) := by
  rw [abin_quo _ _ _ _ _ h, wrap_ok]
  · have := Int.tdiv_nonneg ha.1 (show 0 ≤ b by omega); omega
  · have := Int.tdiv_le_self b ha.1; omega
theorem array_ok {d lim : Nat} {A : Arena} {H : Heap} {i b : Nat} {L : List Known} (h : Tab A i b L) (hl : 0 < lim) (hL : L.length ≤ 400) {n long : Int} (hs : 0 ≤ sizeL L n) :
    Gives (evCall Try.prog (C μ) (d + 4) lim 14 [.ptr 0 i 0, vi n, vi long] (A :: H)) (Made A H i b (arrayL L n long)) := by
  rw [evCall_inEq (fi := fi14) rfl rfl (b14 _ _ _ _ _ _ _)]
  unfold s14 arrayL
  simp [h.has]
  cases hn : hasL L n with
  | false => simp; exact ⟨rfl, _, b, rfl, h, .inl rfl, Stay.refl _ _ _⟩
  | true =>
    obtain ⟨c, v, hc, hf, hlen, hcut, hg⟩ := h.at0 hn
    have e5 : c[n.toNat * 8 + 5]? = some (vi (sizeL L n)) := by rw [hg 5 (by omega), sizeL, if_pos hn]; rfl
    have hsz : (atL L n).size = sizeL L n := by rw [sizeL, if_pos hn]
    have hal : (atL L n).align = alignL L n := by rw [alignL, if_pos hn]
    have hin := inB_has hn
    have hlt := hasL_lt hn
    have hleaf : v.leaf = true := hf.leaf
    simp [h.tab, hin, hc, e5]
    by_cases h0 : sizeL L n = 0
    · simp [h0]; exact ⟨rfl, _, b, rfl, h, .inl rfl, Stay.refl _ _ _⟩
    · simp [h0]
      by_cases h1 : long < 1
      · simp [h1]; exact ⟨rfl, _, b, rfl, h, .inl rfl, Stay.refl _ _ _⟩
      · simp [h1, h.tab, hin, hc, e5, quo_ok 32768 (sizeL L n) (by omega) h0 (by omega)]
        by_cases h2 : (32768 : Int).tdiv (sizeL L n) < long
        · simp [h2]; exact ⟨rfl, _, b, rfl, h, .inl rfl, Stay.refl _ _ _⟩
        · have hk8 : ∀ f : Known, (kcells f v).length = 8 := fun _ => rfl
          simp [h2, h.tab, hin, hc, cut_eq (show n.toNat * 8 + 8 ≤ c.length by omega), hcut]
          rw [stA_new hl (by simp [kcells, hleaf]) (hk8 _) rfl]
          have hq : kcells (atL L n) v = [vi (atL L n).kind, vi (atL L n).elem, vi (atL L n).len, vs (atL L n).name, v, vi (sizeL L n), vi (alignL L n), vb (atL L n).opn] := by rw [← hsz, ← hal]; rfl
          obtain ⟨⟨v', H'⟩, hr, hv, hm⟩ := put_ok (μ := μ) (d := d) (H := H) (h.app [some (kcells (atL L n) v)]) hl hL (x := kn 4 n long (IntKind.i64.wrap (long * sizeL L n)) (alignL L n)) rfl
          rw [hq] at hr hm ⊢
          simp only [kn, kcells] at hr
          simp [bld, afill, acells, setMany, hr]
          dsimp only at hv
          subst hv
          simp
          obtain ⟨A', b', e1, e2, e3, e4⟩ := hm
          refine ⟨rfl, A', b', e1, e2, ?_, (Stay.app _ _ _ _).trans e4 (.inl rfl)⟩
          simp only [New] at e3 ⊢
          simp at e3
          omega
end Go.Ev.Try

/- Open structs, what is found, copies, the first table, the least multiple. -/
namespace Go.Ev.Try
open Go Go.Ev Go.Proofs
variable {μ : Nat}

def opn (name : ByteArray) : Known := ⟨5, 0, 0, name, [], 0, 0, true⟩
def openL (L : List Known) (name : ByteArray) : Int × Int × List Known := if name = ⟨#[]⟩ then (0, 1, L) else if 0 ≤ namedL L name then (0, 6, L) else putL L (opn name)
theorem open_ok {d lim : Nat} {A : Arena} {H : Heap} {i b : Nat} {L : List Known} (h : Tab A i b L) (hl : 0 < lim) (hL : L.length ≤ 400) {name : ByteArray} :
    Gives (evCall Try.prog (C μ) (d + 4) lim 27 [.ptr 0 i 0, vs name] (A :: H)) (Made A H i b (openL L name)) := by
  rw [evCall_inEq (fi := fi27) rfl rfl (b27 _ _ _ _ _ _)]
  unfold s27 openL
  by_cases h0 : name = ⟨#[]⟩
  · simp [h0]; exact ⟨rfl, _, b, rfl, h, .inl rfl, Stay.refl _ _ _⟩
  · simp [h0, named_ok (μ := μ) (d := d) (h.at_ H) (show L.length < 1000000 by omega)]
    by_cases h1 : 0 ≤ namedL L name
    · simp [h1]; exact ⟨rfl, _, b, rfl, h, .inl rfl, Stay.refl _ _ _⟩
    · obtain ⟨⟨v, H'⟩, hr, hv, hm⟩ := put_ok (μ := μ) (d := d) (H := H) h hl hL (x := opn name) rfl
      simp only [opn, kcells] at hr
      simp [h1, bld, afill, acells, setMany, hr]
      dsimp only at hv
      subst hv
      simp
      exact ⟨rfl, hm⟩
def findL (L : List Known) (name : ByteArray) : Int × Int := if namedL L name < 0 then (0, 4) else (namedL L name, 0)
theorem find_ok {d lim : Nat} {H : Heap} {l i : Nat} {L : List Known} (h : TabAt H l i L) (hL : L.length < 1000000) {name : ByteArray} :
    evCall Try.prog (C μ) (d + 4) lim 16 [.ptr l i 0, vs name] H = some (pair (findL L name).1 (findL L name).2, H) := by
  rw [evCall_pureEq (fi := fi16) rfl rfl (b16 _ _ _ _ _ _)]
  unfold s16 findL
  simp [named_ok (h.push []) hL]
  by_cases h1 : namedL L name < 0
  · simp [h1]
  · simp [h1]
theorem nil32_sl (l i o n s : Nat) : abin Try.prog .eql 32 (.sl l i o n s) (.d (.seq true 0 [])) = some (vb false) := by kernel_rfl
theorem nil32_d (b : Bool) (n : Nat) (c : List D) : abin Try.prog .eql 32 (.d (.seq b n c)) (.d (.seq true 0 [])) = some (vb b) := by
  cases b <;> kernel_rfl
/-- A copy of fields. -/
theorem clone_ok {d lim : Nat} {A : Arena} {H : Heap} (hl : 0 < lim) {v : AV} {fs : List Fld} (hn : abin Try.prog .eql 32 v (.d (.seq true 0 [])) = some (vb false)) (he : ∀ B, elS 3 ((A ++ B) :: H) v = some (fs.length, fs.flatMap fcells)) (h0 : fs ≠ []) (hlen : fs.length < 1000000) :
    evCall Try.prog (C μ) (d + 1) lim 36 [v] (A :: H) = some (.sl 0 (A.length + 1) 0 fs.length 3, (A ++ [none, some (fs.flatMap fcells)]) :: H) := by
  rw [evCall_inEq (fi := fi36) rfl rfl (b36 _ _ _ _ _)]
  unfold s36
  have hp : fs.length ≠ 0 := by cases fs with | nil => exact absurd rfl h0 | cons _ _ => simp
  simp [hn, he]
  rw [app_sl (old := []) hl (by simp) (by simp) hp (by omega) (by omega) (by rw [← fsD_map]; simp)]
  simp
  exact ⟨_, _, ⟨rfl, rfl⟩, rfl⟩
theorem clone_nil {d lim : Nat} {H : Heap} : evCall Try.prog (C μ) (d + 1) lim 36 [.d (.seq true 0 [])] H = some (.d (.seq true 0 []), H) := by
  rw [evCall_inEq (fi := fi36) rfl rfl (b36 _ _ _ _ _)]
  unfold s36
  simp [nil32_d]
def L0 : List Known := [⟨0, 0, 0, ⟨#[]⟩, [], 0, 0, false⟩, kn 1 0 0 4 4, kn 2 0 0 1 1]
theorem new_ok {d lim : Nat} {A : Arena} {H : Heap} :
    ∃ B, evCall Try.prog (C μ) (d + 1) lim 10 [] (A :: H) = some (.ptr 0 (A.length + 1) 0, (A ++ B) :: H) ∧ Tab (A ++ B) (A.length + 1) A.length L0 := by
  rw [evCall_inEq (fi := fi10) rfl rfl (b10 _ _ _ _)]
  unfold s10
  refine ⟨[some ((L0.zip [nilF, nilF, nilF]).flatMap fun x => kcells x.1 x.2), some [.sl 0 A.length 0 3 8]], ?_, by omega, ?_, [nilF, nilF, nilF], rfl, ?_, ?_⟩
  · simp [bld, bldS, afill, acells, setMany, reps, pushB, bx, L0, kcells, kn]
  · simp [L0]
  · simp
  · intro k f v hf hv
    left
    match k with
    | 0 => simp [L0] at hf hv; subst hf hv; simp
    | 1 => simp [L0] at hf hv; subst hf hv; simp [kn]
    | 2 => simp [L0] at hf hv; subst hf hv; simp [kn]
    | k + 3 => simp [L0] at hf
def upZ (n m : Int) : Int := (n + m - 1).tdiv m * m
theorem upZ_ok (n m : Int) (h0 : 0 ≤ n) (hm : 0 < m) : n ≤ upZ n m ∧ upZ n m < n + m ∧ m ∣ upZ n m := by
  unfold upZ
  rw [Int.tdiv_eq_ediv_of_nonneg (by omega)]
  have h1 := Int.mul_ediv_self_le (x := n + m - 1) (k := m) (by omega)
  have h2 := Int.lt_mul_ediv_self_add (x := n + m - 1) (k := m) hm
  rw [Int.mul_comm] at h1 h2
  exact ⟨by omega, by omega, Int.dvd_mul_left _ _⟩
theorem up_ok {d lim : Nat} {H : Heap} {n m : Int} (h0 : 0 ≤ n) (h1 : n ≤ 1000000) (hm : 0 < m) (hm1 : m ≤ 1000000) : evCall Try.prog (C μ) (d + 1) lim 40 [vi n, vi m] H = some (vi (upZ n m), H) := by
  rw [evCall_pureEq (fi := fi40) rfl rfl (b40 _ _ _ _ _ _)]
  unfold s40
  have := upZ_ok n m h0 hm
  unfold upZ at this ⊢
  have hq : 0 ≤ (n + m - 1).tdiv m := Int.tdiv_nonneg (by omega) (by omega)
  simp [wrap_ok (n + m) (by omega) (by omega), wrap_ok (n + m - 1) (by omega) (by omega), quo_ok (n + m - 1) m (by omega) (by omega) hm, wrap_ok ((n + m - 1).tdiv m * m) (by omega) (by omega)]
end Go.Ev.Try

/- How fields are laid. -/
namespace Go.Ev.Try
open Go Go.Ev Go.Proofs
variable {μ : Nat}

/-- The arena while fields are laid. -/
def LA (A : Arena) (i : Nat) (cs : List AV) (at_ al : Int) : Arena := A ++ [some [.ptr 0 i 0], none, some cs, some [vi at_], some [vi al]]
theorem Tab.la {A : Arena} {i b : Nat} {L : List Known} (h : Tab A i b L) (cs : List AV) (at_ al : Int) : Tab (LA A i cs at_ al) i b L := h.app _
/-- What is so of each type of a table. -/
structure Sane (L : List Known) : Prop where
  size : ∀ n, 0 ≤ sizeL L n ∧ sizeL L n ≤ 32768
  align : ∀ n, alignL L n = 0 ∨ alignL L n = 1 ∨ alignL L n = 4
  both : ∀ n, sizeL L n ≠ 0 → alignL L n ≠ 0
theorem lay_ok {d lim : Nat} {A : Arena} {H : Heap} {i b : Nat} {L : List Known} (h : Tab A i b L) (hl : 0 < lim) (hs : Sane L) {k : Nat} {cs : List AV} {at_ al ty : Int} (hty : cs[k * 3 + 1]? = some (vi ty)) (hk : k * 3 + 2 < cs.length)
    (hz : sizeL L ty ≠ 0) (ha : 0 ≤ at_ ∧ at_ ≤ 32768) (hal : 0 < al) :
    evCall Try.prog (C μ) (d + 3) lim 39 [.ptr 0 (A.length + 2) (k * 3), .ptr 0 (A.length + 3) 0, .ptr 0 A.length 0, .ptr 0 (A.length + 4) 0] (LA A i cs at_ al :: H) =
      some (vb (decide (upZ at_ (alignL L ty) + sizeL L ty ≤ 32768)), LA A i (cs.set (k * 3 + 2) (vi (upZ at_ (alignL L ty)))) (upZ at_ (alignL L ty) + sizeL L ty) (if al < alignL L ty then alignL L ty else al) :: H) := by
  rw [evCall_inEq (fi := fi39) rfl rfl (b39 _ _ _ _ _ _ _ _)]
  unfold s39
  have hsz := hs.size ty
  have hag := hs.align ty
  have hb := hs.both ty hz
  have hup := upZ_ok at_ (alignL L ty) ha.1 (by omega)
  have hal1 : ∀ (cs : List AV) (at_ al : Int) (d : Nat), evCall Try.prog (C μ) (d + 2) lim 22 [.ptr 0 i 0, vi ty] (LA A i cs at_ al :: H) = some (vi (alignL L ty), LA A i cs at_ al :: H) := fun cs at_ al d => align_ok ((h.la cs at_ al).at_ H)
  have hsz1 : ∀ (cs : List AV) (at_ al : Int) (d : Nat), evCall Try.prog (C μ) (d + 2) lim 21 [.ptr 0 i 0, vi ty] (LA A i cs at_ al :: H) = some (vi (sizeL L ty), LA A i cs at_ al :: H) := fun cs at_ al d => size_ok ((h.la cs at_ al).at_ H)
  have g0 : ∀ (cs : List AV) (at_ al : Int), (LA A i cs at_ al)[A.length]? = some (some [.ptr 0 i 0]) := fun _ _ _ => by simp [LA]
  have g2 : ∀ (cs : List AV) (at_ al : Int), (LA A i cs at_ al)[A.length + 2]? = some (some cs) := fun _ _ _ => by simp [LA]
  have g3 : ∀ (cs : List AV) (at_ al : Int), (LA A i cs at_ al)[A.length + 3]? = some (some [vi at_]) := fun _ _ _ => by simp [LA]
  have g4 : ∀ (cs : List AV) (at_ al : Int), (LA A i cs at_ al)[A.length + 4]? = some (some [vi al]) := fun _ _ _ => by simp [LA]
  have t2 : ∀ (cs : List AV) (at_ al : Int) (x : AV) (o : Nat), x.leaf = true → o < cs.length → stA 1 lim (LA A i cs at_ al :: H) (.ptr 0 (A.length + 2) o) x = some (.undef, LA A i (cs.set o x) at_ al :: H) := fun cs at_ al x o hx ho => by
    rw [stA_leaf (c := cs) hl hx (by simp [g2]) ho]; simp [LA]
  have t3 : ∀ (cs : List AV) (at_ al x : Int), stA 1 lim (LA A i cs at_ al :: H) (.ptr 0 (A.length + 3) 0) (vi x) = some (.undef, LA A i cs x al :: H) := fun cs at_ al x => by
    rw [stA_leaf (c := [vi at_]) hl rfl (by simp [g3]) (by simp)]; simp [LA]
  have t4 : ∀ (cs : List AV) (at_ al x : Int), stA 1 lim (LA A i cs at_ al :: H) (.ptr 0 (A.length + 4) 0) (vi x) = some (.undef, LA A i cs at_ x :: H) := fun cs at_ al x => by
    rw [stA_leaf (c := [vi al]) hl rfl (by simp [g4]) (by simp)]; simp [LA]
  have hset1 : (cs.set (k * 3 + 2) (vi (upZ at_ (alignL L ty))))[k * 3 + 1]? = some (vi ty) := by rw [List.getElem?_set_ne (by omega), hty]
  have hset2 : (cs.set (k * 3 + 2) (vi (upZ at_ (alignL L ty))))[k * 3 + 2]? = some (vi (upZ at_ (alignL L ty))) := by rw [List.getElem?_set_self hk]
  have hmax : ∀ a b : Int, amax (vi a) (vi b) = some (vi (if a < b then b else a)) := fun a b => rfl
  simp [g0, g2, g3, g4, t2, t3, t4, hal1, hsz1, hty, hk, hset1, hset2, hmax, up_ok ha.1 (show at_ ≤ 1000000 by omega) (show 0 < alignL L ty by omega) (show alignL L ty ≤ 1000000 by omega), wrap_ok (upZ at_ (alignL L ty) + sizeL L ty) (by omega) (by omega)]
end Go.Ev.Try

/- A struct is given its fields. -/
namespace Go.Ev.Try
open Go Go.Ev Go.Proofs
variable {μ : Nat}

def layL (L : List Known) : List Fld → Int → Int → Option (List Fld × Int × Int)
  | [], at_, al => some ([], at_, al)
  | f :: fs, at_, al =>
    if upZ at_ (alignL L f.type) + sizeL L f.type ≤ 32768 then
      (layL L fs (upZ at_ (alignL L f.type) + sizeL L f.type) (if al < alignL L f.type then alignL L f.type else al)).map fun r => (⟨f.name, f.type, upZ at_ (alignL L f.type)⟩ :: r.1, r.2)
    else none
theorem fc_len (fs : List Fld) : (fs.flatMap fcells).length = fs.length * 3 := by rw [← fsD_map, List.length_map, fsD_len]
theorem struct_loop {d lim : Nat} {A : Arena} {H : Heap} {i b : Nat} {L : List Known} (h : Tab A i b L) (hl : 0 < lim) (hs : Sane L) (n : Int) (m : Nat) (hm : m < 1000000) : ∀ (rest done : List Fld) (at_ al : Int), done.length + rest.length = m →
    (∀ f ∈ rest, sizeL L f.type ≠ 0) → 0 ≤ at_ ∧ at_ ≤ 32768 → 0 < al → ∀ q,
    Gives (iterN (rest.length + 1 + q) (s28.l0 (evCall Try.prog (C μ) (d + 3) lim) lim)
      [.ptr 0 A.length 0, vi n, .sl 0 (A.length + 2) 0 m 3, .ptr 0 (A.length + 3) 0, .ptr 0 (A.length + 4) 0, .fn 39 [.ptr 0 (A.length + 3) 0, .ptr 0 A.length 0, .ptr 0 (A.length + 4) 0], vi m, vi done.length]
      (LA A i (done.flatMap fcells ++ rest.flatMap fcells) at_ al :: H)) fun r =>
      match layL L rest at_ al with
      | some (own, at', al') => r = (.exit 0, [.ptr 0 A.length 0, vi n, .sl 0 (A.length + 2) 0 m 3, .ptr 0 (A.length + 3) 0, .ptr 0 (A.length + 4) 0], LA A i ((done ++ own).flatMap fcells) at' al' :: H)
      | none => ∃ cs at' al', r = (.ret, [vi 0, vi 2], LA A i cs at' al' :: H) := by
  intro rest
  induction rest with
  | nil =>
    intro done at_ al hlen hz ha hal q
    rw [show ([] : List Fld).length + 1 + q = q + 1 by simp; omega]
    simp only [layL]
    rw [iterN_exit (i := 0) (vals' := [.ptr 0 A.length 0, vi n, .sl 0 (A.length + 2) 0 m 3, .ptr 0 (A.length + 3) 0, .ptr 0 (A.length + 4) 0]) (H' := LA A i (done.flatMap fcells ++ [].flatMap fcells) at_ al :: H), gives_some]
    · simp
    · unfold s28.l0
      simp at hlen
      simp [hlen]
  | cons f rest ih =>
    intro done at_ al hlen hz ha hal q
    simp only [List.length_cons] at hlen ⊢
    rw [show rest.length + 1 + 1 + q = (rest.length + 1 + q) + 1 by omega]
    have hd3 := fc_len done
    have hf : done.flatMap fcells ++ (f :: rest).flatMap fcells = done.flatMap fcells ++ fcells f ++ rest.flatMap fcells := by simp
    have hty : (done.flatMap fcells ++ (f :: rest).flatMap fcells)[done.length * 3 + 1]? = some (vi f.type) := by
      rw [List.getElem?_append_right (by omega), hd3]
      simp [fcells]
    have hk : done.length * 3 + 2 < (done.flatMap fcells ++ (f :: rest).flatMap fcells).length := by
      simp [fcells, hd3]
    have hlay := lay_ok (μ := μ) (d := d) (H := H) h hl hs hty hk (hz f (by simp)) ha hal
    have hag := hs.align f.type
    have hb := hs.both f.type (hz f (by simp))
    have hsz := hs.size f.type
    have hup := upZ_ok at_ (alignL L f.type) ha.1 (by omega)
    have hset : (done.flatMap fcells ++ (f :: rest).flatMap fcells).set (done.length * 3 + 2) (vi (upZ at_ (alignL L f.type))) = (done ++ [(⟨f.name, f.type, upZ at_ (alignL L f.type)⟩ : Fld)]).flatMap fcells ++ rest.flatMap fcells := by
      rw [List.set_append_right _ _ (by omega), hd3]
      simp [fcells]
    rw [hset] at hlay
    simp only [layL]
    by_cases hfit : upZ at_ (alignL L f.type) + sizeL L f.type ≤ 32768
    · rw [if_pos hfit]
      rw [iterN_go (vals' := [.ptr 0 A.length 0, vi n, .sl 0 (A.length + 2) 0 m 3, .ptr 0 (A.length + 3) 0, .ptr 0 (A.length + 4) 0, .fn 39 [.ptr 0 (A.length + 3) 0, .ptr 0 A.length 0, .ptr 0 (A.length + 4) 0], vi m, vi (done ++ [(⟨f.name, f.type, upZ at_ (alignL L f.type)⟩ : Fld)]).length])
        (H' := LA A i ((done ++ [(⟨f.name, f.type, upZ at_ (alignL L f.type)⟩ : Fld)]).flatMap fcells ++ rest.flatMap fcells) (upZ at_ (alignL L f.type) + sizeL L f.type) (if al < alignL L f.type then alignL L f.type else al) :: H)]
      · have := ih (done ++ [⟨f.name, f.type, upZ at_ (alignL L f.type)⟩]) (upZ at_ (alignL L f.type) + sizeL L f.type) (if al < alignL L f.type then alignL L f.type else al) (by simp; omega) (fun g hg => hz g (by simp [hg])) ⟨by omega, hfit⟩ (by split <;> omega) q
        refine gives_mono this fun r hr => ?_
        cases hlr : layL L rest (upZ at_ (alignL L f.type) + sizeL L f.type) (if al < alignL L f.type then alignL L f.type else al) with
        | none => rw [hlr] at hr; exact hr
        | some x =>
          rw [hlr] at hr
          simpa using hr
      · unfold s28.l0
        have : ((done.length : Int) < m) := by omega
        simp only [hfit, decide_true] at hlay
        generalize done.flatMap fcells ++ (f :: rest).flatMap fcells = cs at *
        generalize (done ++ [(⟨f.name, f.type, upZ at_ (alignL L f.type)⟩ : Fld)]).flatMap fcells ++ rest.flatMap fcells = cs' at *
        simp [this, inB_nat (show done.length < m by omega), hlay]
        exact wrap_ok ((done.length : Int) + 1) (by omega) (by omega)
    · rw [if_neg hfit]
      rw [iterN_ret (vals' := [vi 0, vi 2]) (H' := LA A i ((done ++ [(⟨f.name, f.type, upZ at_ (alignL L f.type)⟩ : Fld)]).flatMap fcells ++ rest.flatMap fcells) (upZ at_ (alignL L f.type) + sizeL L f.type) (if al < alignL L f.type then alignL L f.type else al) :: H)]
      · simp only [gives_some]
        exact ⟨_, _, _, rfl⟩
      · unfold s28.l0
        have : ((done.length : Int) < m) := by omega
        simp only [hfit, decide_false] at hlay
        generalize done.flatMap fcells ++ (f :: rest).flatMap fcells = cs at *
        generalize (done ++ [(⟨f.name, f.type, upZ at_ (alignL L f.type)⟩ : Fld)]).flatMap fcells ++ rest.flatMap fcells = cs' at *
        simp [this, inB_nat (show done.length < m by omega), hlay]
end Go.Ev.Try

/- A struct is given its fields: the whole. -/
namespace Go.Ev.Try
open Go Go.Ev Go.Proofs

theorem first_spec (p : Nat → Bool) (n : Nat) : ∀ m k, 0 ≤ firstFrom p n m k → ∃ j : Nat, firstFrom p n m k = j ∧ k ≤ j ∧ j < n ∧ p j = true ∧ ∀ i, k ≤ i → i < j → p i = false := by
  intro m
  induction m with
  | zero => intro k h; simp [firstFrom] at h
  | succ m ih =>
    intro k h
    unfold firstFrom at h ⊢
    split at h
    · rename_i hk
      rw [if_pos hk]
      split at h
      · rename_i hp
        rw [if_pos hp]
        exact ⟨k, rfl, Nat.le_refl _, hk, hp, fun i h1 h2 => by omega⟩
      · rename_i hp
        rw [if_neg hp]
        obtain ⟨j, h1, h2, h3, h4, h5⟩ := ih (k + 1) h
        refine ⟨j, h1, by omega, h3, h4, fun i h6 h7 => ?_⟩
        rcases Nat.eq_or_lt_of_le h6 with rfl | h6
        · exact Bool.eq_false_iff.2 hp
        · exact h5 i h6 h7
    · simp at h
theorem firstL_spec {p : Known → Bool} {L : List Known} (h : 0 ≤ firstL p L) : hasL L (firstL p L) = true ∧ p (atL L (firstL p L)) = true := by
  obtain ⟨j, h1, _, h3, h4, _⟩ := first_spec _ _ _ _ h
  unfold firstL hasL atL
  rw [h1]
  exact ⟨by simp [h3], by simpa [kAt] using h4⟩

theorem rows_set {L : List Known} {vs : List AV} {n : Nat} {f : Known} (hl : vs.length = L.length) (hn : L[n]? = some f) (fs : List Fld) (size align : Int) (opn : Bool) (v : AV) :
    ((L.set n { f with fields := fs, size := size, align := align, opn := opn }).zip (vs.set n v)).flatMap (fun x => kcells x.1 x.2) =
      (((((L.zip vs).flatMap fun x => kcells x.1 x.2).set (n * 8 + 4) v).set (n * 8 + 5) (vi size)).set (n * 8 + 6) (vi align)).set (n * 8 + 7) (vb opn) := by
  induction L generalizing vs n with
  | nil => simp at hn
  | cons x L ih =>
    cases vs with
    | nil => simp at hl
    | cons u vs =>
      have h8 : ∀ f v, (kcells f v).length = 8 := fun _ _ => rfl
      cases n with
      | zero =>
        simp at hn
        subst hn
        simp [kcells]
      | succ n =>
        have := ih (vs := vs) (n := n) (by simpa using hl) (by simpa using hn)
        simp only [List.set_cons_succ, List.zip_cons_cons, List.flatMap_cons, this]
        rw [show (n + 1) * 8 + 4 = 8 + (n * 8 + 4) by omega, show (n + 1) * 8 + 5 = 8 + (n * 8 + 5) by omega, show (n + 1) * 8 + 6 = 8 + (n * 8 + 6) by omega, show (n + 1) * 8 + 7 = 8 + (n * 8 + 7) by omega]
        rw [List.set_append_right _ _ (by rw [h8]; omega), List.set_append_right _ _ (by rw [h8]; omega), List.set_append_right _ _ (by rw [h8]; omega), List.set_append_right _ _ (by rw [h8]; omega)]
        simp only [h8, Nat.add_sub_cancel_left]
/-- The table when one type has got its fields. -/
def fillL (L : List Known) (n : Int) (own : List Fld) (size align : Int) : List Known := L.set n.toNat { atL L n with fields := own, size := size, align := align, opn := false }
theorem Tab.fill {A : Arena} {i b : Nat} {L : List Known} (h : Tab A i b L) {n : Int} (hn : hasL L n = true) {own : List Fld} (hown : own ≠ []) {size align : Int} {c : List AV} {x : Nat} (hc : A[b]? = some (some c)) (hx : A.length ≤ x) {B : Arena} (hB : (A ++ B)[x]? = some (some (own.flatMap fcells))) :
    Tab (A.set b (some ((((c.set (n.toNat * 8 + 4) (.sl 0 x 0 own.length 3)).set (n.toNat * 8 + 5) (vi size)).set (n.toNat * 8 + 6) (vi align)).set (n.toNat * 8 + 7) (vb false))) ++ B) i b (fillL L n own size align) := by
  obtain ⟨vs, h1, h2, h3⟩ := h.rows
  have hlt := h.lt
  obtain ⟨hn0, hn1, hn2, hn3⟩ := hasL_lt hn
  rw [h2] at hc
  obtain rfl : (L.zip vs).flatMap (fun x => kcells x.1 x.2) = c := by simpa using hc
  refine ⟨h.ne, ?_, vs.set n.toNat (.sl 0 x 0 own.length 3), by simp [fillL, h1], ?_, fun k f v hf hv => ?_⟩
  · rw [List.getElem?_append_left (by simp; omega), List.getElem?_set_ne (fun e => h.ne e.symm), h.tab]
    simp [fillL]
  · rw [List.getElem?_append_left (by simp; omega), List.getElem?_set_self hlt.2, fillL, rows_set h1 hn3]
  · simp only [fillL, List.getElem?_set] at hf hv
    by_cases hk : n.toNat = k
    · simp only [hk, if_true] at hf hv
      subst hk
      rw [if_pos hn2] at hf
      rw [if_pos (by omega)] at hv
      simp at hf hv
      subst hf hv
      refine .inr ⟨x, rfl, by omega, by omega, ?_, hown⟩
      simp only [getB_zero]
      rw [List.getElem?_append_right (by simp; omega), List.length_set]
      rw [List.getElem?_append_right (by omega)] at hB
      rw [hB]
      rfl
    · simp only [hk, if_false] at hf hv
      rcases h3 k f v hf hv with h | ⟨y, e, hx1, hy, hz, hne⟩
      · exact .inl h
      · refine .inr ⟨y, e, hx1, hy, ?_, hne⟩
        simp only [getB_zero] at hz ⊢
        have : y < A.length := by
          rcases Nat.lt_or_ge y A.length with h | h
          · exact h
          · rw [List.getElem?_eq_none h] at hz; cases hz
        rw [List.getElem?_append_left (by simp; omega), List.getElem?_set_ne (fun e => hy e.symm)]
        exact hz

def endL (L : List Known) (n : Int) : Option (List Fld × Int × Int) → Int × Int × List Known
  | none => (0, 2, L)
  | some x => if 32768 < upZ x.2.1 x.2.2 then (0, 2, L) else (n, 0, fillL L n x.1 (upZ x.2.1 x.2.2) x.2.2)
theorem endL_none (L : List Known) (n : Int) : endL L n none = (0, 2, L) := rfl
theorem endL_some (L : List Known) (n : Int) (x : List Fld × Int × Int) : endL L n (some x) = if 32768 < upZ x.2.1 x.2.2 then (0, 2, L) else (n, 0, fillL L n x.1 (upZ x.2.1 x.2.2) x.2.2) := rfl
attribute [simp] endL_none endL_some
def structL (L : List Known) (name : ByteArray) (fs : List Fld) : Int × Int × List Known :=
  if namedL L name < 0 ∨ (atL L (namedL L name)).opn = false then (0, 4, L)
  else if mayL L fs ≠ 0 then (0, mayL L fs, L)
  else endL L (namedL L name) (layL L fs 0 1)
theorem may_zero {L : List Known} {fs : List Fld} (h : mayL L fs = 0) : fs ≠ [] ∧ ∀ f ∈ fs, f.name ≠ ⟨#[]⟩ ∧ hasL L f.type = true ∧ sizeL L f.type ≠ 0 := by
  unfold mayL at h
  split at h
  · cases h
  · rename_i h1
    split at h
    · cases h
    · rename_i h2
      split at h
      · cases h
      · rename_i h3
        simp at h1 h2 h3
        exact ⟨h1.1, fun f hf => ⟨h1.2 f hf, h2 f hf, h3 f hf⟩⟩
theorem lay_len {L : List Known} : ∀ {fs : List Fld} {a b : Int} {own : List Fld} {x : Int × Int}, layL L fs a b = some (own, x) → own.length = fs.length
  | [], a, b, own, x, h => by simp [layL] at h; simp [← h.1]
  | f :: fs, a, b, own, x, h => by
    simp only [layL] at h
    split at h
    · simp only [Option.map_eq_some_iff] at h
      obtain ⟨r, hr, e⟩ := h
      cases e
      simp [lay_len hr]
    · cases h
theorem lay_le {L : List Known} (hs : Sane L) : ∀ {fs : List Fld} {a b : Int} {own : List Fld} {x y : Int}, (∀ f ∈ fs, sizeL L f.type ≠ 0) → 0 ≤ a ∧ a ≤ 32768 → 0 < b ∧ b ≤ 4 → layL L fs a b = some (own, x, y) → 0 ≤ x ∧ x ≤ 32768 ∧ 0 < y ∧ y ≤ 4
  | [], a, b, own, x, y, _, ha, hb, h => by simp [layL] at h; omega
  | f :: fs, a, b, own, x, y, hz, ha, hb, h => by
    simp only [layL] at h
    split at h
    · rename_i hle
      simp only [Option.map_eq_some_iff] at h
      obtain ⟨⟨r1, r2, r3⟩, hr, e⟩ := h
      cases e
      have h1 := hs.size f.type
      have h2 := hs.align f.type
      have h3 := hs.both f.type (hz f (by simp))
      have h4 := upZ_ok a (alignL L f.type) ha.1 (by omega)
      exact lay_le hs (fun g hg => hz g (by simp [hg])) ⟨by omega, hle⟩ (by split <;> omega) hr
    · cases h
end Go.Ev.Try
