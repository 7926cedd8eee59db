import Derived.Test.YtkbimbpaaikkeaaDoorE2
import Derived.Test.YtkbimbpaaikkeaaDoorShelf
import Derived.Laws.Externs
import Derived.Lib.Builder
import Derived.WalkSmall
set_option linter.unusedSimpArgs false
set_option linter.unusedVariables false
/- Two functions of Go's library of which the contract is the kit's: strconv.Itoa, internal/abi.NoEscape. -/
namespace Go.Ev
open Go Go.RowKit Go.Proofs

/-- A number's decimal digits. -/
def orc30 : List AV → Option AV
  | [.d (.int .i64 n)] => bif decide (-9223372036854775808 ≤ n) && decide (n ≤ 9223372036854775807) then some (.d (.str ⟨(Lib.itoa n).toArray⟩)) else none
  | _ => none
/-- A pointer, as it is. -/
def orc47 : List AV → Option AV
  | [.bptr l i] => some (.bptr l i)
  | _ => none
def fi30 : FI := ⟨5, 3, [], .orc orc30⟩
def fi47 : FI := ⟨1, 3, [], .orc orc47⟩

theorem tabOk {base : Nat} {w : World} (h : LowOk base w) : Lib.TabIs Tryd.prog w "internal/strconv.uint64pow10" .u64 Lib.pow10Tab := by
  obtain ⟨w0, h1, h2, h3⟩ := h
  unfold LT at h1
  unfold Lib.TabIs World.var? at *
  cases hg : Tryd.prog.globalNamed "internal/strconv.uint64pow10" with
  | none => simp [hg] at h1
  | some g =>
    simp only [hg, Option.bind_some] at h1 ⊢
    have hlt : g < w0.heap.size := by
      rcases Nat.lt_or_ge g w0.heap.size with h' | h'
      · exact h'
      · rw [Array.getElem?_eq_none h'] at h1; simp at h1
    rw [h3 g hlt]
    exact h1
theorem orc30_ok : OrcOk Tryd.prog 30 orc30 := by
  intro args z e I G H base lim w vs hr hv
  unfold orc30 at e
  split at e
  · rename_i n
    obtain ⟨hq, e⟩ := bif_some e
    simp only [Bool.and_eq_true, decide_eq_true_eq] at hq
    cases e
    obtain ⟨v, vs', rfl, hn, hvs⟩ := hv.cons_inv
    obtain rfl := hvs.nil_inv
    cases hn with | d hn =>
    cases hn
    refine .inl ⟨?_, (Tryd.strconv_Itoa n hq.1 hq.2 w (tabOk hr.low)).mono fun x w' hp => ?_⟩
    · exact enters_of Tryd.func30 (by kernel_rfl) (by kernel_rfl) _ _
    · obtain ⟨rfl, k, os, rfl⟩ := hp
      have hsz : w.heap.size ≤ (Sort.grow (w.drewN k) os).heap.size := by rw [Sort.size_grow]; exact Nat.le_add_right _ _
      have hold : ∀ j, j < w.heap.size → (Sort.grow (w.drewN k) os).heap[j]? = w.heap[j]? := fun j hj => Sort.heap_grow_old (w.drewN k) os hj
      exact ⟨_, I, G, rfl, IM.le.refl _, GM.le.refl _, hr.grow hsz hold, .d (.str _), ⟨rfl, rfl, rfl, hsz, fun j hj => hold j (Nat.lt_of_lt_of_le hj hr.base)⟩, rfl, rfl⟩
  · cases e
theorem orc47_ok : OrcOk Tryd.prog 47 orc47 := by
  intro args z e I G H base lim w vs hr hv
  unfold orc47 at e
  split at e
  · rename_i l i
    cases e
    obtain ⟨v, vs', rfl, hn, hvs⟩ := hv.cons_inv
    obtain rfl := hvs.nil_inv
    refine .inr ⟨v, w, ?_, v, I, G, rfl, IM.le.refl _, GM.le.refl _, hr, hn, Below.refl _ _, rfl, rfl⟩
    rw [run_callFunc_extern Tryd.func47 (by kernel_rfl) (by kernel_rfl) (by kernel_rfl) (e := Extern.AbiNoEscape.same) (by kernel_rfl)]
    rfl
  · cases e
theorem fit30 : FitO Tryd.prog 30 fi30 := .orc orc30 rfl rfl orc30_ok
theorem fit47 : FitO Tryd.prog 47 fi47 := .orc orc47 rfl rfl orc47_ok
end Go.Ev
