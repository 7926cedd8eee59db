import Derived.Test.YtkbimbpaaikkeaaK5
set_option linter.unusedSimpArgs false
set_option linter.unusedVariables false
/- Runs as the document tells them, over lists alone. -/
set_option maxRecDepth 100000
namespace Go.Ev.Try
open Go Go.Ev Go.Proofs

/-- What a run keeps besides its calls. -/
structure Ms where
  mem : List Int
  out : List Int
  ins : Nat
/-- A call that stands. -/
structure Fr where
  n : Nat
  regs : List Int
  low : Int
  b : Nat
  i : Nat
def rg (l : List Int) (k : Int) : Int := l.getD k.toNat 0
def wr (l : List Int) (k v : Int) : List Int := l.set k.toNat v
/-- Where bytes lie; none: there is no such place. -/
def memAt (at' size : Int) : Option Int :=
  if at' < 268435456 ∨ 65536 - size < at' - 268435456 ∨ (size = 4 ∧ at' % 4 ≠ 0) then none else some (at' - 268435456)
def ldW (mem : List Int) (n : Int) : Nat → Int
  | 0 => 0
  | k + 1 => ldW mem n k + 256 ^ k * rg mem (n + k)
def stW (mem : List Int) (n v : Int) : Nat → List Int
  | 0 => mem
  | k + 1 => wr (stW mem n v k) (n + k) (v / 256 ^ k % 256)
def addrOf (r : List Int) (i : Ins) : Int := (rg r i.a + i.off) % 4294967296
def inW (inputs : List Int) (k : Nat) : Int := inputs.getD k 0
/-- An instruction that is no call. -/
def insP (m : Mdl) (inputs : List Int) (p : Prc) (low : Int) (i : Ins) (r : List Int) (s : Ms) : Option (List Int × Ms) :=
  if i.op = 1 then some (wr r i.d i.num, s)
  else if i.op = 2 then some (wr r i.d (rg r i.a), s)
  else if i.op = 3 then some (wr r i.d (fnW i.fn (rg r i.a) (rg r i.b)), s)
  else if i.op = 4 then some (wr r i.d (fnW i.fn (rg r i.a) 0), s)
  else if i.op = 5 then (memAt (addrOf r i) i.size).map fun n => (wr r i.d (ldW s.mem n i.size.toNat), s)
  else if i.op = 6 then (memAt (addrOf r i) i.size).map fun n => (r, ⟨stW s.mem n (rg r i.b) i.size.toNat, s.out, s.ins⟩)
  else if i.op = 7 then some (wr r i.d ((268435456 + low + plAt p.objs i.obj.toNat + i.off) % 4294967296), s)
  else if i.op = 8 then some (wr r i.d ((268439552 + plAt m.globs i.obj.toNat + i.off) % 4294967296), s)
  else if i.op = 10 then some (r, ⟨s.mem, s.out ++ [rg r i.a], s.ins⟩)
  else if i.op = 11 then some (wr r i.d (inW inputs s.ins), ⟨s.mem, s.out, s.ins + 1⟩)
  else some (r, s)
inductive StepR where
  | stop (e : Int) (s : Ms)
  | go (S : List Fr) (s : Ms)
  | fin (v : Int) (s : Ms)
def getP (m : Mdl) (n : Nat) : Prc := (m.procs[n]?).getD default
def getB' (p : Prc) (b : Nat) : Blk := (p.blks[b]?).getD default
def getI (b : Blk) (i : Nat) : Ins := (b.ins[i]?).getD default
def endG (m : Mdl) : Int := 4096 + plAt m.globs m.globs.length
def longP (p : Prc) : Int := plAt p.objs p.objs.length
def newRegs (p : Prc) (args : List Int) : List Int := args ++ List.replicate (p.regs.toNat - args.length) 0
def entR (m : Mdl) (n : Nat) (args : List Int) (top : Int) (S : List Fr) (s : Ms) : StepR :=
  if top - longP (getP m n) < endG m ∨ 5000 ≤ S.length then .stop 8 s else .go (⟨n, newRegs (getP m n) args, top - longP (getP m n), 0, 0⟩ :: S) s
def callD (m : Mdl) (g : Fr) : Int := (getI (getB' (getP m g.n) g.b) (g.i - 1)).d
def retR (m : Mdl) (v : Int) (S : List Fr) (s : Ms) : StepR :=
  match S with
  | [] => .fin v s
  | g :: S' => .go (⟨g.n, if callD m g = -1 then g.regs else wr g.regs (callD m g) v, g.low, g.b, g.i⟩ :: S') s
def retV (b : Blk) (r : List Int) : Int := if b.a = -1 then 0 else rg r b.a
def nextB (b : Blk) (r : List Int) : Int := if b.fin = 2 ∧ rg r b.a = 0 then b.els else b.to
def stepR (m : Mdl) (inputs : List Int) (f : Fr) (S : List Fr) (s : Ms) : StepR :=
  if f.i = (getB' (getP m f.n) f.b).ins.length then
    if (getB' (getP m f.n) f.b).fin = 3 then retR m (retV (getB' (getP m f.n) f.b) f.regs) S s
    else .go (⟨f.n, f.regs, f.low, (nextB (getB' (getP m f.n) f.b) f.regs).toNat, 0⟩ :: S) s
  else if (getI (getB' (getP m f.n) f.b) f.i).op = 9 then
    entR m (getI (getB' (getP m f.n) f.b) f.i).obj.toNat ((getI (getB' (getP m f.n) f.b) f.i).args.map (rg f.regs)) f.low (⟨f.n, f.regs, f.low, f.b, f.i + 1⟩ :: S) s
  else match insP m inputs (getP m f.n) f.low (getI (getB' (getP m f.n) f.b) f.i) f.regs s with
    | none => .stop 12 s
    | some x => .go (⟨f.n, x.1, f.low, f.b, f.i + 1⟩ :: S) x.2
def outc (s : Ms) (x e : Int) : Outc := ⟨s.out, s.ins, x, e⟩
def play (m : Mdl) (inputs : List Int) : Nat → StepR → Outc
  | _, .stop e s => outc s 0 e
  | _, .fin v s => outc s (v % 256) 0
  | 0, .go _ s => outc s 0 16
  | _ + 1, .go [] s => outc s 0 16
  | F + 1, .go (f :: S) s => play m inputs F (stepR m inputs f S s)

/-! ### What holds of it -/
structure MsOk (s : Ms) : Prop where
  len : s.mem.length = 65536
  byte : ∀ x ∈ s.mem, 0 ≤ x ∧ x < 256
structure RegsOk (p : Prc) (r : List Int) : Prop where
  len : (r.length : Int) = p.regs
  w : ∀ x ∈ r, W x
structure FrOk (m : Mdl) (f : Fr) : Prop where
  n : f.n < m.procs.length
  regs : RegsOk (getP m f.n) f.regs
  b : f.b < (getP m f.n).blks.length
  i : f.i ≤ (getB' (getP m f.n) f.b).ins.length
  lo : endG m ≤ f.low
  hi : f.low ≤ 65536
/-- A call that waits for what it called. -/
structure WtOk (m : Mdl) (g : Fr) : Prop extends FrOk m g where
  i1 : 1 ≤ g.i
  d : callD m g = -1 ∨ (0 ≤ callD m g ∧ callD m g < g.regs.length)
structure InOk (inputs : List Int) : Prop where
  len : inputs.length ≤ 40
  w : ∀ x ∈ inputs, W x

theorem rg_nat (l : List Int) (k : Nat) : rg l k = l.getD k 0 := rfl
theorem rg_w {r : List Int} (h : ∀ x ∈ r, W x) (k : Int) : W (rg r k) := by
  unfold rg
  rw [List.getD_eq_getElem?_getD]
  cases hk : r[k.toNat]? with
  | none => exact ⟨by simp, by simp⟩
  | some x => exact h x (List.mem_of_getElem? hk)
theorem wr_len (r : List Int) (k v : Int) : (wr r k v).length = r.length := by simp [wr]
theorem wr_w {r : List Int} (h : ∀ x ∈ r, W x) (k : Int) {v : Int} (hv : W v) : ∀ x ∈ wr r k v, W x := by
  intro x hx
  rcases List.mem_or_eq_of_mem_set hx with h1 | rfl
  · exact h x h1
  · exact hv
theorem RegsOk.wr {p : Prc} {r : List Int} (h : RegsOk p r) (k : Int) {v : Int} (hv : W v) : RegsOk p (wr r k v) :=
  ⟨by rw [wr_len]; exact h.len, wr_w h.w k hv⟩
theorem inW_w {l : List Int} (h : ∀ x ∈ l, W x) (k : Nat) : W (inW l k) := by
  unfold inW
  rw [List.getD_eq_getElem?_getD]
  cases hk : l[k]? with
  | none => exact ⟨by simp, by simp⟩
  | some x => exact h x (List.mem_of_getElem? hk)
theorem rg_byte {mem : List Int} (h : ∀ x ∈ mem, 0 ≤ x ∧ x < 256) (k : Int) : 0 ≤ rg mem k ∧ rg mem k < 256 := by
  unfold rg
  rw [List.getD_eq_getElem?_getD]
  cases hk : mem[k.toNat]? with
  | none => simp
  | some x => exact h x (List.mem_of_getElem? hk)
theorem ldW_bound {mem : List Int} (h : ∀ x ∈ mem, 0 ≤ x ∧ x < 256) (n : Int) (k : Nat) : 0 ≤ ldW mem n k ∧ ldW mem n k < 256 ^ k := by
  induction k with
  | zero => simp [ldW]
  | succ k ih =>
    have hb := rg_byte h (n + k)
    generalize hx : rg mem (n + k) = x at hb
    have hp : (0 : Int) < 256 ^ k := Int.pow_pos (by decide)
    simp only [ldW, hx, Int.pow_succ]
    generalize (256 : Int) ^ k = q at *
    constructor
    · have := Int.mul_nonneg (Int.le_of_lt hp) hb.1
      omega
    · have : q * x ≤ q * 255 := Int.mul_le_mul_of_nonneg_left (by omega) (Int.le_of_lt hp)
      omega
theorem stW_len (mem : List Int) (n v : Int) (k : Nat) : (stW mem n v k).length = mem.length := by
  induction k with
  | zero => rfl
  | succ k ih => rw [stW, wr_len, ih]
theorem stW_byte {mem : List Int} (h : ∀ x ∈ mem, 0 ≤ x ∧ x < 256) (n v : Int) (k : Nat) : ∀ x ∈ stW mem n v k, 0 ≤ x ∧ x < 256 := by
  induction k with
  | zero => exact h
  | succ k ih =>
    intro x hx
    rcases List.mem_or_eq_of_mem_set hx with h1 | rfl
    · exact ih x h1
    · exact ⟨Int.emod_nonneg _ (by decide), Int.emod_lt_of_pos _ (by decide)⟩
theorem fnW_w (fn : Int) {a b : Int} (ha : W a) (hb : W b) : W (fnW fn a b) := by
  have tr_w : ∀ t : Bool, W (tr t) := fun t => by cases t <;> exact ⟨by simp [tr], by simp [tr]⟩
  have bv : ∀ n : Nat, W (IntKind.u32.wrap n) := fun n => by rw [wrap_u]; exact w_mod _
  unfold fnW
  split
  · exact ⟨by simp, by simp⟩
  · rw [List.getD_eq_getElem?_getD]
    cases hk : (applyL a b)[fn.toNat]? with
    | none => exact ⟨by simp, by simp⟩
    | some x =>
      have hm := List.mem_of_getElem? hk
      simp only [Option.getD_some]
      unfold applyL at hm
      simp only [List.mem_cons, List.not_mem_nil, or_false] at hm
      have w1 : ∀ n : Int, W (n % 4294967296) := w_mod
      rcases hm with rfl | rfl | rfl | rfl | rfl | rfl | rfl | rfl | rfl | rfl | rfl | rfl | rfl | rfl | rfl | rfl | rfl | rfl | rfl | rfl
      all_goals first
        | exact w1 _
        | exact tr_w _
        | exact bv _
        | exact ⟨by simp, by simp⟩
        | (unfold divW; split; exact ⟨by simp, by simp⟩; exact w1 _)
        | (unfold remW; split; exact ha; exact w1 _)
        | skip
end Go.Ev.Try

/- Runs of a module that is right: what stands is right at each step. -/
set_option maxRecDepth 100000
namespace Go.Ev.Try
open Go Go.Ev Go.Proofs

theorem getP_of {m : Mdl} {n : Nat} (h : n < m.procs.length) : m.procs[n]? = some (getP m n) := by
  unfold getP
  rw [List.getElem?_eq_getElem h]
  rfl
theorem getB_of {p : Prc} {b : Nat} (h : b < p.blks.length) : p.blks[b]? = some (getB' p b) := by
  unfold getB'
  rw [List.getElem?_eq_getElem h]
  rfl
theorem getI_of {b : Blk} {i : Nat} (h : i < b.ins.length) : b.ins[i]? = some (getI b i) := by
  unfold getI
  rw [List.getElem?_eq_getElem h]
  rfl
/-- What is right of a module that is right. -/
structure MdOk (m : Mdl) : Prop where
  few : FewM m
  globs : m.globs.all slotOk = true
  dlen : m.datas.length = m.globs.length
  data : ∀ k, k < m.datas.length → dataLen m k = sizeAt m.globs k
  proc : ∀ n, n < m.procs.length → procOk m (getP m n) = true
  main0 : 0 ≤ m.main
  main1 : m.main < m.procs.length
  mpar : (getP m m.main.toNat).params = 0
  mvoid : (getP m m.main.toNat).void = false
  num : ∀ p ∈ m.procs, ∀ b ∈ p.blks, ∀ i ∈ b.ins, W i.num
  byte : ∀ x ∈ m.datas, ∀ y ∈ x.2, 0 ≤ y ∧ y < 256
theorem modOk_md {m : Mdl} (hF : FewM m) (hn : ∀ p ∈ m.procs, ∀ b ∈ p.blks, ∀ i ∈ b.ins, W i.num) (hy : ∀ x ∈ m.datas, ∀ y ∈ x.2, 0 ≤ y ∧ y < 256) (h : modOk m = true) : MdOk m := by
  simp only [modOk, topOk, Bool.and_eq_true, decide_eq_true_eq, Bool.not_eq_true', List.any_eq_false, List.mem_range] at h
  obtain ⟨⟨⟨⟨⟨⟨⟨h1, h2⟩, h3⟩, h4⟩, h5⟩, h6⟩, h7⟩, h8⟩ := h
  have hmn : m.main.toNat < m.procs.length := by omega
  have hmp := getP_of hmn
  refine ⟨hF, h2, h1, fun k hk => ?_, fun n hn => ?_, h4, h5, ?_, ?_, hn, hy⟩
  · have := h6 k hk
    simpa [dataOk] using this
  · have := h8 n hn
    have hp := getP_of hn
    have this : procE m n = 0 := by simpa using this
    unfold procE at this
    have g : (decide ((0 : Int) ≤ n) && decide ((n : Int) < m.procs.length)) = true := by simp; omega
    rw [g, cond_true, Int.toNat_natCast, hp] at this
    simp only at this
    cases hq : procOk m (getP m n) with
    | true => rfl
    | false => rw [hq] at this; simp at this
  · unfold mainOk at h7
    rw [hmp] at h7
    simp at h7
    exact h7.1
  · unfold mainOk at h7
    rw [hmp] at h7
    simp at h7
    exact h7.2
section
variable {m : Mdl}
theorem MdOk.few1 (h : MdOk m) {n : Nat} (hn : n < m.procs.length) : FewP (getP m n) := h.few.each _ (List.mem_of_getElem? (getP_of hn))
theorem slotsSmall {l : List Slt} (hl : l.length ≤ 20) (h : l.all slotOk = true) : Small l := by
  refine ⟨by omega, fun s hs => ?_⟩
  have := List.all_eq_true.1 h s hs
  simp [slotOk] at this
  omega
theorem MdOk.head (h : MdOk m) {n : Nat} (hn : n < m.procs.length) : headOk (getP m n) = true := by
  have := h.proc n hn
  simp only [procOk, Bool.and_eq_true] at this
  exact this.1
theorem MdOk.small (h : MdOk m) {n : Nat} (hn : n < m.procs.length) : Small (getP m n).objs := by
  have hh := h.head hn
  simp only [headOk, Bool.and_eq_true] at hh
  exact slotsSmall (h.few1 hn).objs hh.2
theorem MdOk.smallG (h : MdOk m) : Small m.globs := slotsSmall h.few.globs h.globs
theorem MdOk.regs (h : MdOk m) {n : Nat} (hn : n < m.procs.length) : 0 ≤ (getP m n).params ∧ (getP m n).params ≤ (getP m n).regs ∧ (getP m n).regs ≤ 8000 := by
  have hh := h.head hn
  simp [headOk] at hh
  omega
theorem MdOk.blk0 (h : MdOk m) {n : Nat} (hn : n < m.procs.length) : 0 < (getP m n).blks.length := by
  have hh := h.head hn
  simp [headOk] at hh
  omega
theorem MdOk.blk (h : MdOk m) {n b : Nat} (hn : n < m.procs.length) (hb : b < (getP m n).blks.length) : (∀ i ∈ (getB' (getP m n) b).ins, insOk m (getP m n) i = true) ∧ endOk (getP m n) (getB' (getP m n) b) = true := by
  have := h.proc n hn
  simp only [procOk, Bool.and_eq_true] at this
  have := List.all_eq_true.1 this.2 _ (List.mem_of_getElem? (getB_of hb))
  simp only [blkOk, Bool.and_eq_true, List.all_eq_true] at this
  exact this
theorem MdOk.ins (h : MdOk m) {n b i : Nat} (hn : n < m.procs.length) (hb : b < (getP m n).blks.length) (hi : i < (getB' (getP m n) b).ins.length) : insOk m (getP m n) (getI (getB' (getP m n) b) i) = true :=
  (h.blk hn hb).1 _ (List.mem_of_getElem? (getI_of hi))
theorem MdOk.numW (h : MdOk m) {n b i : Nat} (hn : n < m.procs.length) (hb : b < (getP m n).blks.length) (hi : i < (getB' (getP m n) b).ins.length) : W (getI (getB' (getP m n) b) i).num :=
  h.num _ (List.mem_of_getElem? (getP_of hn)) _ (List.mem_of_getElem? (getB_of hb)) _ (List.mem_of_getElem? (getI_of hi))
theorem MdOk.args (h : MdOk m) {n b i : Nat} (hn : n < m.procs.length) (hb : b < (getP m n).blks.length) (hi : i < (getB' (getP m n) b).ins.length) : (getI (getB' (getP m n) b) i).args.length ≤ 12 :=
  (h.few1 hn).args _ (List.mem_of_getElem? (getB_of hb)) _ (List.mem_of_getElem? (getI_of hi))
theorem MdOk.insLen (h : MdOk m) {n b : Nat} (hn : n < m.procs.length) (hb : b < (getP m n).blks.length) : (getB' (getP m n) b).ins.length ≤ 60 :=
  (h.few1 hn).ins _ (List.mem_of_getElem? (getB_of hb))
theorem MdOk.blkLen (h : MdOk m) {n : Nat} (hn : n < m.procs.length) : (getP m n).blks.length ≤ 40 := (h.few1 hn).blks
theorem long_ok (h : MdOk m) {n : Nat} (hn : n < m.procs.length) : 0 ≤ longP (getP m n) ∧ longP (getP m n) ≤ 1000000 := by
  have hs := h.small hn
  have := plAt_ok hs.2 (getP m n).objs.length
  have := (h.few1 hn).objs
  unfold longP
  omega
theorem endG_ok (h : MdOk m) : 4096 ≤ endG m ∧ endG m ≤ 1000000 := by
  have := plAt_ok h.smallG.2 m.globs.length
  have := h.few.globs
  unfold endG
  omega
/-- What is right of an instruction that is no call. -/
theorem ins_regs {p : Prc} {i : Ins} (h : insOk m p i = true) (h9 : i.op ≠ 9) : regOk p i.d (outD i.op) = true ∧ regOk p i.a (hasA i.op) = true ∧ regOk p i.b (hasB i.op) = true ∧ restOk m p i = true := by
  simp only [insOk, Bool.and_eq_true] at h
  have := h.2
  simp [h9] at this
  exact ⟨this.1.1.1, this.1.1.2, this.1.2, this.2⟩
theorem ins_ops {p : Prc} {i : Ins} (h : insOk m p i = true) : 1 ≤ i.op ∧ i.op ≤ 12 := by
  simp only [insOk, Bool.and_eq_true, decide_eq_true_eq] at h
  exact h.1.1
theorem ins_call {p : Prc} {i : Ins} (h : insOk m p i = true) (h9 : i.op = 9) : callOk m p i = true := by
  simp only [insOk, Bool.and_eq_true] at h
  have := h.2
  simp [h9] at this
  exact this.1.1
theorem regOk_t {p : Prc} {r : Int} (h : regOk p r true = true) : 0 ≤ r ∧ r < p.regs := by simpa [regOk] using h
theorem regOk_f {p : Prc} {r : Int} (h : regOk p r false = true) : r = -1 := by simpa [regOk] using h
/-- What is right of a call. -/
theorem call_ok {p : Prc} {i : Ins} (h : callOk m p i = true) : 0 ≤ i.obj ∧ i.obj.toNat < m.procs.length ∧ (i.args.length : Int) = (getP m i.obj.toNat).params ∧ (i.d = -1 ∨ (0 ≤ i.d ∧ i.d < p.regs)) ∧ ∀ r ∈ i.args, 0 ≤ r ∧ r < p.regs := by
  unfold callOk at h
  cases hc : (decide (0 ≤ i.obj) && decide (i.obj < m.procs.length)) with
  | false => rw [hc] at h; simp at h
  | true =>
    rw [hc, cond_true] at h
    simp at hc
    have hn : i.obj.toNat < m.procs.length := by omega
    rw [getP_of hn] at h
    simp only [Bool.and_eq_true, decide_eq_true_eq, List.all_eq_true] at h
    refine ⟨hc.1, hn, h.1.1, ?_, fun r hr => regOk_t (h.2 r hr)⟩
    have hd := h.1.2
    cases hv : (getP m i.obj.toNat).void with
    | true => rw [hv] at hd; exact .inl (regOk_f hd)
    | false => rw [hv] at hd; exact .inr (regOk_t hd)
theorem memAt_some {a z n : Int} (hz : z = 1 ∨ z = 4) (h : memAt a z = some n) : n = a - 268435456 ∧ 0 ≤ n ∧ n + z ≤ 65536 := by
  unfold memAt at h
  split at h
  · cases h
  · rename_i hc
    cases h
    omega
theorem size_of {p : Prc} {i : Ins} (hr : restOk m p i = true) (h : i.op = 5 ∨ i.op = 6) : i.size = 1 ∨ i.size = 4 := by
  rcases h with h | h <;> simp [restOk, h] at hr <;> exact hr.1
theorem insP_ok {inputs : List Int} (hI : InOk inputs) {p : Prc} {low : Int} {i : Ins} {r r' : List Int} {s s' : Ms} (hr : RegsOk p r) (hs : MsOk s) (hn : W i.num) (hio : i.op = 5 ∨ i.op = 6 → i.size = 1 ∨ i.size = 4) (h : insP m inputs p low i r s = some (r', s')) :
    RegsOk p r' ∧ MsOk s' ∧ s'.ins ≤ s.ins + 1 ∧ s'.out.length ≤ s.out.length + 1 := by
  unfold insP at h
  split at h; · cases h; exact ⟨hr.wr _ hn, hs, by omega, by omega⟩
  split at h; · cases h; exact ⟨hr.wr _ (rg_w hr.w _), hs, by omega, by omega⟩
  split at h; · cases h; exact ⟨hr.wr _ (fnW_w _ (rg_w hr.w _) (rg_w hr.w _)), hs, by omega, by omega⟩
  split at h; · cases h; exact ⟨hr.wr _ (fnW_w _ (rg_w hr.w _) ⟨by decide, by decide⟩), hs, by omega, by omega⟩
  split at h
  · rename_i h5
    simp only [Option.map_eq_some_iff] at h
    obtain ⟨n, _, h⟩ := h
    cases h
    refine ⟨hr.wr _ ?_, hs, by omega, by omega⟩
    have hb := ldW_bound hs.byte n i.size.toNat
    rcases hio (.inl h5) with hz | hz <;> rw [hz] at hb ⊢
    · exact ⟨hb.1, Int.lt_of_lt_of_le hb.2 (by decide)⟩
    · exact ⟨hb.1, Int.lt_of_lt_of_le hb.2 (by decide)⟩
  split at h
  · simp only [Option.map_eq_some_iff] at h
    obtain ⟨n, _, h⟩ := h
    cases h
    exact ⟨hr, ⟨by simp [stW_len, hs.len], stW_byte hs.byte _ _ _⟩, by simp, by simp⟩
  split at h; · cases h; exact ⟨hr.wr _ (w_mod _), hs, by omega, by omega⟩
  split at h; · cases h; exact ⟨hr.wr _ (w_mod _), hs, by omega, by omega⟩
  split at h; · cases h; exact ⟨hr, ⟨hs.len, hs.byte⟩, by simp, by simp⟩
  split at h; · cases h; exact ⟨hr.wr _ (inW_w hI.w _), ⟨hs.len, hs.byte⟩, by simp, by simp⟩
  cases h
  exact ⟨hr, hs, by omega, by omega⟩
theorem newRegs_ok (h : MdOk m) {n : Nat} (hn : n < m.procs.length) {args : List Int} (ha : (args.length : Int) = (getP m n).params) (hw : ∀ x ∈ args, W x) : RegsOk (getP m n) (newRegs (getP m n) args) := by
  have := h.regs hn
  refine ⟨?_, fun x hx => ?_⟩
  · simp [newRegs]
    omega
  · simp only [newRegs, List.mem_append, List.mem_replicate] at hx
    rcases hx with hx | ⟨_, rfl⟩
    · exact hw x hx
    · exact ⟨by decide, by decide⟩
/-- A call that is entered. -/
theorem newFr_ok (h : MdOk m) {n : Nat} (hn : n < m.procs.length) {args : List Int} (ha : (args.length : Int) = (getP m n).params) (hw : ∀ x ∈ args, W x) {top : Int} (ht : top ≤ 65536) (hl : endG m ≤ top - longP (getP m n)) :
    FrOk m ⟨n, newRegs (getP m n) args, top - longP (getP m n), 0, 0⟩ := by
  have := (long_ok h hn).1
  exact ⟨hn, newRegs_ok h hn ha hw, h.blk0 hn, by simp, hl, by simp; omega⟩
end
end Go.Ev.Try

/- The program's run in memory: where it lies, and what stays. -/
set_option maxRecDepth 100000
namespace Go.Ev
open Go

/-- The block of the arena at hand that a slice lies in. -/
def blkOf : AV → Option Nat
  | .sl 0 j _ _ _ => some j
  | _ => none
/-- What stays: all but the blocks X and the block of the slice o, which becomes o'. -/
structure Keep (X : List Nat) (A A' : Arena) (o o' : AV) : Prop where
  len : A.length ≤ A'.length
  same : ∀ j, j < A.length → j ∉ X → blkOf o ≠ some j → A'[j]? = A[j]?
  outb : ∀ j, j < A.length → blkOf o' = some j → blkOf o = some j
theorem Keep.refl (X : List Nat) (A : Arena) (o : AV) : Keep X A A o o := ⟨Nat.le_refl _, fun _ _ _ _ => rfl, fun _ _ h => h⟩
theorem Keep.push (X : List Nat) (A B : Arena) (o : AV) : Keep X A (A ++ B) o o := ⟨by simp, fun _ h _ _ => List.getElem?_append_left h, fun _ _ h => h⟩
theorem Keep.set {X : List Nat} {A : Arena} {o : AV} {j : Nat} {c : Option (List AV)} (h : j ∈ X) : Keep X A (A.set j c) o o :=
  ⟨by simp, fun k _ hx _ => List.getElem?_set_ne (fun e => hx (by subst e; exact h)), fun _ _ h => h⟩
theorem Keep.trans {X : List Nat} {A A' A'' : Arena} {o o' o'' : AV} (h : Keep X A A' o o') (g : Keep X A' A'' o' o'') : Keep X A A'' o o'' :=
  ⟨Nat.le_trans h.len g.len, fun j hj hx ho => by
    rw [g.same j (Nat.lt_of_lt_of_le hj h.len) hx (fun e => ho (h.outb j hj e)), h.same j hj hx ho], fun j hj e => h.outb j hj (g.outb j (Nat.lt_of_lt_of_le hj h.len) e)⟩
theorem Keep.mono {X Y : List Nat} {A A' : Arena} {o o' : AV} (h : Keep X A A' o o') (hs : ∀ j, j ∈ X → j ∈ Y) : Keep Y A A' o o' := ⟨h.len, fun j hj hx ho => h.same j hj (fun e => hx (hs j e)) ho, h.outb⟩
theorem Keep.get {X : List Nat} {A A' : Arena} {o o' : AV} {j : Nat} {c : Option (List AV)} (h : Keep X A A' o o') (hx : j ∉ X) (ho : blkOf o ≠ some j) (hj : A[j]? = some c) : A'[j]? = some c := by
  rw [h.same j (List.getElem?_eq_some_iff.1 hj).1 hx ho, hj]
theorem Keep.ob {X : List Nat} {A A' : Arena} {o o' : AV} {j : Nat} (h : Keep X A A' o o') (ho : blkOf o ≠ some j) (hj : j < A.length) : blkOf o' ≠ some j := fun e => ho (h.outb j hj e)
theorem lt_of_get {A : Arena} {j : Nat} {c : Option (List AV)} (h : A[j]? = some c) : j < A.length := (List.getElem?_eq_some_iff.1 h).1
theorem join_of {A : Arena} {j : Nat} {c : List AV} (h : A[j]? = some (some c)) : (A[j]?).join = some c := by rw [h]; rfl
theorem getB_of' {A : Arena} {H : Heap} {j : Nat} {c : List AV} (h : A[j]? = some (some c)) : getB (A :: H) 0 j = some c := by rw [getB_zero, h]; rfl
theorem outAt_k0 {k0 : Nat} {A : Arena} {o : AV} {cs : List AV} {n s j : Nat} (h : OutAt k0 A o cs n s) (hj : j < k0) : blkOf o ≠ some j := by
  cases h with
  | nil => simp [blkOf]
  | row hb hA hl => simp [blkOf]; omega
theorem OutAt.move {k0 : Nat} {A A' : Arena} {v : AV} {cells : List AV} {n s : Nat} (h : OutAt k0 A v cells n s) (hm : ∀ j, blkOf v = some j → k0 ≤ j → j < A.length → A'[j]? = A[j]?) : OutAt k0 A' v cells n s := by
  cases h with
  | nil => exact .nil _
  | row hb hA hl => exact .row hb (by rw [hm _ rfl hb (lt_of_get hA)]; exact hA) hl
theorem OutAt.zero {k0 : Nat} {A : Arena} {v : AV} {cells : List AV} {n s : Nat} (h : OutAt k0 A v cells n s) : OutAt 0 A v cells n s := by
  cases h with
  | nil => exact .nil _
  | row hb hA hl => exact .row (Nat.zero_le _) hA hl
theorem OutAt.blk {k0 : Nat} {A : Arena} {v : AV} {cells : List AV} {n s j : Nat} (h : OutAt k0 A v cells n s) (hj : A.length ≤ j) : blkOf v ≠ some j := by
  cases h with
  | nil => simp [blkOf]
  | row hb hA hl => have := lt_of_get hA; simp [blkOf]; omega
/-- One cell more at a slice's end. -/
theorem out_app {k0 : Nat} {A : Arena} {H : Heap} {o x : AV} {cells : List AV} {n bytes : Nat} (h : OutAt k0 A o cells n 1) (h0 : k0 ≤ A.length) (hx : x.leaf = true) (h1 : n + 1 ≤ 140737488355328) (h2 : (n + 1) * bytes ≤ 140737488355328) :
    ∃ o' A', app 1 bytes 1 ((A ++ [some [x]]) :: H) o (elS 1 ((A ++ [some [x]]) :: H) (.sl 0 A.length 0 1 1)) = some (o', A' :: H) ∧ OutAt k0 A' o' (cells ++ [x]) (n + 1) 1 ∧ Keep [] A A' o o' := by
  have he : elS 1 ((A ++ [some [x]]) :: H) (.sl 0 A.length 0 1 1) = some (1, [x]) := by
    rw [elS_here (c := [x]) (by simp) (by simp)]
    simp
  rw [he]
  have hc : [x].all AV.leaf = true := by simp [hx]
  cases h with
  | nil =>
    refine ⟨_, _, app_nil (by decide) (by omega) (by omega) hc, .row (cells := [x]) (by simp; omega) (by simp) (by simp), ⟨by simp, fun j hj _ _ => ?_, fun j hj e => ?_⟩⟩
    · rw [List.getElem?_append_left (by simp; omega), List.getElem?_append_left (by omega)]
    · simp [blkOf] at e
      omega
  | row hb hA hlen =>
    rename_i b
    have hb' := (List.getElem?_eq_some_iff.1 hA).1
    refine ⟨_, _, app_sl (old := cells) (by decide) (by rw [List.getElem?_append_left hb', hA]; rfl) hlen (by decide) h1 h2 hc, .row (by simp; omega) (by simp) (by simp [hlen]), ⟨by simp; omega, fun j hj _ ho => ?_, fun j hj e => ?_⟩⟩
    · rw [List.getElem?_append_left (by simp; omega), List.getElem?_set_ne (fun e => ho (by simp [blkOf, e])), List.getElem?_append_left (by omega)]
    · simp [blkOf] at e
      omega
end Go.Ev
namespace Go.Ev.Try
open Go Go.Ev Go.Proofs
abbrev vy (n : Int) : AV := .d (.int .u8 n)
/-- Where a run of the program lies. -/
structure Rn where
  m : Mdl
  inputs : List Int
  inl : Bool
  ri : Nat
  mi : Nat
  ai : Nat
  k0 : Nat
  atV : AV
def Rn.cells (E : Rn) (s : Ms) (o : AV) (e : Int) (F dp : Nat) : List AV :=
  [.d (seqD E.m.gnl E.m.globs sD), .d (seqD E.m.dnl E.m.datas yD), .d (seqD E.m.pnl E.m.procs pD), vi E.m.main, .sl 0 E.mi 0 65536 1, E.atV, vi (endG E.m), .d (seqD E.inl E.inputs wD), o, vi s.ins, vw 0, vi e, vi F, vi dp]
def atCells (m : Mdl) : List AV := (List.range m.globs.length).map fun k => vi (4096 + plAt m.globs k)
structure PlOk (E : Rn) : Prop where
  rm : E.ri ≠ E.mi
  ra : E.ri ≠ E.ai
  ma : E.mi ≠ E.ai
  r : E.ri < E.k0
  m : E.mi < E.k0
  a : E.ai < E.k0
structure RunAt (E : Rn) (A : Arena) (s : Ms) (o : AV) (e : Int) (F dp : Nat) : Prop where
  run : A[E.ri]? = some (some (E.cells s o e F dp))
  mem : A[E.mi]? = some (some (s.mem.map vy))
  out : OutAt E.k0 A o (s.out.map vw) s.out.length 1
  glob : 0 < E.m.globs.length → E.atV = .sl 0 E.ai 0 E.m.globs.length 1 ∧ A[E.ai]? = some (some (atCells E.m))
  k0 : E.k0 ≤ A.length
  ok : MsOk s
/-- The run's own blocks. -/
def Rn.X (E : Rn) : List Nat := [E.ri, E.mi]
/-- What lies in the run's memory but the cells of the run itself. -/
theorem RunAt.cellsAt {E : Rn} {A : Arena} {s : Ms} {o : AV} {e e' : Int} {F F' dp dp' n' : Nat} (hE : PlOk E) (h : RunAt E A s o e F dp) : RunAt E (A.set E.ri (some (E.cells ⟨s.mem, s.out, n'⟩ o e' F' dp'))) ⟨s.mem, s.out, n'⟩ o e' F' dp' := by
  exact ⟨by simp [lt_of_get h.run], by rw [List.getElem?_set_ne hE.rm]; exact h.mem, h.out.move fun j _ hj _ => List.getElem?_set_ne (by have := hE.r; omega), fun hg => ⟨(h.glob hg).1, by rw [List.getElem?_set_ne hE.ra]; exact (h.glob hg).2⟩, by simp [h.k0], ⟨h.ok.len, h.ok.byte⟩⟩
theorem RunAt.keep {E : Rn} {A A' : Arena} {s : Ms} {o : AV} {e : Int} {F dp : Nat} (hE : PlOk E) (h : RunAt E A s o e F dp) (hl : A.length ≤ A'.length) (hj : ∀ j, j < A.length → (j < E.k0 ∨ blkOf o = some j) → A'[j]? = A[j]?) : RunAt E A' s o e F dp := by
  have g : ∀ j c, j < E.k0 → A[j]? = some c → A'[j]? = some c := fun j c hk hc => by rw [hj j (lt_of_get hc) (.inl hk), hc]
  exact ⟨g _ _ hE.r h.run, g _ _ hE.m h.mem, h.out.move fun j ho _ hl => hj j hl (.inr ho), fun hg => ⟨(h.glob hg).1, g _ _ hE.a (h.glob hg).2⟩, Nat.le_trans h.k0 hl, h.ok⟩
theorem RunAt.push {E : Rn} {A : Arena} {s : Ms} {o : AV} {e : Int} {F dp : Nat} (hE : PlOk E) (h : RunAt E A s o e F dp) (B : Arena) : RunAt E (A ++ B) s o e F dp := h.keep hE (by simp) fun _ hj _ => List.getElem?_append_left hj
theorem RunAt.setReg {E : Rn} {A : Arena} {s : Ms} {o : AV} {e : Int} {F dp : Nat} (hE : PlOk E) (h : RunAt E A s o e F dp) {R : Nat} (c : Option (List AV)) (hR : E.k0 ≤ R) (ho : blkOf o ≠ some R) : RunAt E (A.set R c) s o e F dp :=
  h.keep hE (by simp) fun j _ hx => List.getElem?_set_ne fun e => by
    subst e
    rcases hx with hx | hx
    · omega
    · exact ho hx

/-- A call's frame in memory. -/
def frCells (R : Nat) (p : Prc) (low : Int) : List AV := [.sl 0 R 0 p.regs.toNat 1, .d (.str p.name), vb p.void, vi p.params, vi p.regs, .d (seqD p.onl p.objs sD), .d (seqD p.bnl p.blks bD), plV p.objs, vi low]
structure FrAt (E : Rn) (A : Arena) (o : AV) (p : Prc) (fi R : Nat) (regs : List Int) (low : Int) : Prop where
  frm : A[fi]? = some (some (frCells R p low))
  reg : A[R]? = some (some (regs.map vw))
  rk : E.k0 ≤ R
  fk : E.k0 ≤ fi
  ne : R ≠ fi
  ro : blkOf o ≠ some R
  fo : blkOf o ≠ some fi
theorem FrAt.keep {E : Rn} {A A' : Arena} {o o' : AV} {p : Prc} {fi R : Nat} {regs : List Int} {low : Int} (hE : PlOk E) (h : FrAt E A o p fi R regs low) (hk : Keep E.X A A' o o') : FrAt E A' o' p fi R regs low := by
  have := hE.r
  have := hE.m
  have := h.rk
  have := h.fk
  exact ⟨hk.get (by simp [Rn.X]; omega) h.fo h.frm, hk.get (by simp [Rn.X]; omega) h.ro h.reg, h.rk, h.fk, h.ne, hk.ob h.ro (lt_of_get h.reg), hk.ob h.fo (lt_of_get h.frm)⟩
theorem FrAt.wr {E : Rn} {A : Arena} {o : AV} {p : Prc} {fi R : Nat} {regs : List Int} {low : Int} (h : FrAt E A o p fi R regs low) (regs' : List Int) : FrAt E (A.set R (some (regs'.map vw))) o p fi R regs' low :=
  ⟨by rw [List.getElem?_set_ne h.ne]; exact h.frm, by simp [lt_of_get h.reg], h.rk, h.fk, h.ne, h.ro, h.fo⟩
theorem FrAt.push {E : Rn} {A : Arena} {o : AV} {p : Prc} {fi R : Nat} {regs : List Int} {low : Int} (h : FrAt E A o p fi R regs low) (B : Arena) : FrAt E (A ++ B) o p fi R regs low :=
  ⟨by rw [List.getElem?_append_left (lt_of_get h.frm)]; exact h.frm, by rw [List.getElem?_append_left (lt_of_get h.reg)]; exact h.reg, h.rk, h.fk, h.ne, h.ro, h.fo⟩
section
variable {d : Nat} {H : Heap}
theorem get42 {A : Arena} {R n lim : Nat} {regs : List Int} {k : Int} (hR : A[R]? = some (some (regs.map vw))) (hn : n = regs.length) (h0 : 0 ≤ k) (h1 : k < n) : evCall Try.prog C (d + 1) lim 42 [.agg [.sl 0 R 0 n 1], vi k] (A :: H) = some (vw (rg regs k), A :: H) := by
  rw [evCall_pureEq (fi := fi42) rfl rfl (b42 _ _ _ _ _)]
  unfold s42
  have hb := bx_agg (cs := [.sl 1 R 0 n 1]) (A := []) (H := A :: H) rfl
  have hi := inB_yes (k := .i64) (x := k) (n := n) h0 h1
  have hj := join_of hR
  have hg : (regs.map vw)[k.toNat]? = some (vw (rg regs k)) := by
    rw [List.getElem?_map, List.getElem?_eq_getElem (by omega)]
    unfold rg
    rw [List.getD_eq_getElem?_getD, List.getElem?_eq_getElem (by omega)]
    rfl
  simp -implicitDefEqProofs [hb, hi, hj, hg]
theorem set61 {A : Arena} {R n : Nat} {regs : List Int} {k v : Int} (hR : A[R]? = some (some (regs.map vw))) (hn : n = regs.length) (h0 : 0 ≤ k) (h1 : k < n) :
    evCall Try.prog C (d + 1) 1 61 [.agg [.sl 0 R 0 n 1], vi k, vw v] (A :: H) = some (.tup [], (A.set R (some ((wr regs k v).map vw)) ++ [some [.sl 0 R 0 n 1]]) :: H) := by
  rw [evCall_inEq (fi := fi61) rfl rfl (b61 _ _ _ _ _ _)]
  unfold s61
  have hb := bx_agg (cs := [.sl 0 R 0 n 1]) (A := A) (H := H) rfl
  have hi := inB_yes (k := .i64) (x := k) (n := n) h0 h1
  have hlt := lt_of_get hR
  have hst := stA_leaf (lim := 1) (A := A ++ [some [.sl 0 R 0 n 1]]) (H := H) (i := R) (o := k.toNat) (v := vw v) (c := regs.map vw) (by decide) rfl (by rw [List.getElem?_append_left hlt, hR]; rfl) (by simp; omega)
  rw [List.set_append_left _ _ hlt, ← List.map_set] at hst
  simp -implicitDefEqProofs [hb, hi, hst, wr]
theorem stop39 {E : Rn} {A : Arena} {s : Ms} {o : AV} {e e' : Int} {F dp : Nat} (h : RunAt E A s o e F dp) : evCall Try.prog C (d + 1) 1 39 [.ptr 0 E.ri 0, vi e'] (A :: H) = some (vb false, A.set E.ri (some (E.cells s o e' F dp)) :: H) := by
  rw [evCall_inEq (fi := fi39) rfl rfl (b39 _ _ _ _ _)]
  unfold s39
  have hst := stA_leaf (lim := 1) (A := A) (H := H) (i := E.ri) (o := 11) (v := vi e') (c := E.cells s o e F dp) (by decide) rfl (join_of h.run) (by simp [Rn.cells])
  have hc : (E.cells s o e F dp).set 11 (vi e') = E.cells s o e' F dp := rfl
  rw [hc] at hst
  simp -implicitDefEqProofs [hst]
theorem step40 {E : Rn} {A : Arena} {s : Ms} {o : AV} {F dp : Nat} (h : RunAt E A s o 0 F dp) (hF : F < 1000000000) : evCall Try.prog C (d + 2) 1 40 [.ptr 0 E.ri 0] (A :: H) =
    some (vb (decide (F ≠ 0)), A.set E.ri (some (if F = 0 then E.cells s o 16 0 dp else E.cells s o 0 (F - 1) dp)) :: H) := by
  rw [evCall_inEq (fi := fi40) rfl rfl (b40 _ _ _ _)]
  unfold s40
  have hj := join_of h.run
  have h12 : (E.cells s o 0 F dp)[12]? = some (vi F) := rfl
  have hs := stop39 (d := d) (H := H) (e' := 16) h
  by_cases hz : F = 0
  · subst hz
    simp -implicitDefEqProofs [hj, h12, hs, abin_eql]
  · have hst := stA_leaf (lim := 1) (A := A) (H := H) (i := E.ri) (o := 12) (v := vi ((F : Int) - 1)) (c := E.cells s o 0 F dp) (by decide) rfl hj (by simp [Rn.cells])
    have hc : (E.cells s o 0 F dp).set 12 (vi ((F : Int) - 1)) = E.cells s o 0 (F - 1) dp := by
      rw [show (F : Int) - 1 = ((F - 1 : Nat) : Int) by omega]
      rfl
    rw [hc] at hst
    have w := wrap_ok ((F : Int) - 1) (by omega) (by omega)
    have hz' : (F : Int) ≠ 0 := by omega
    simp -implicitDefEqProofs [hj, h12, abin_eql, hz, hz', abin_sub, w, hst]
end
end Go.Ev.Try

/- The program's memory: places, loads, stores, inputs. -/
set_option maxRecDepth 100000
namespace Go.Ev.Try
open Go Go.Ev Go.Proofs
theorem wrap_y (n : Int) : IntKind.u8.wrap n = n % 256 := by
  simp [IntKind.wrap, IntKind.bits, IntKind.signed]
section
variable {d : Nat} {H : Heap}
theorem place75 {E : Rn} {A : Arena} {s : Ms} {o : AV} {F dp : Nat} (h : RunAt E A s o 0 F dp) {a z : Int} (ha : W a) (hz : z = 1 ∨ z = 4) : evCall Try.prog C (d + 2) 1 75 [.ptr 0 E.ri 0, vw a, vi z] (A :: H) =
    some (match memAt a z with
      | some n => (.tup [vi n, vb true], A :: H)
      | none => (.tup [vi 0, vb false], A.set E.ri (some (E.cells s o 12 F dp)) :: H)) := by
  rw [evCall_inEq (fi := fi75) rfl rfl (b75 _ _ _ _ _ _)]
  unfold s75
  have hs := stop39 (d := d) (H := H) (e' := 12) h
  obtain ⟨a0, a1⟩ := ha
  have w0 := wrap_ok a (by omega) (by omega)
  have w1 := wrap_ok (a - 268435456) (by omega) (by omega)
  have w2 := wrap_ok (65536 - z) (by omega) (by omega)
  unfold memAt
  by_cases c1 : a - 268435456 < 0
  · have e : (a < 268435456 ∨ 65536 - z < a - 268435456 ∨ z = 4 ∧ a % 4 ≠ 0) = True := by simp; omega
    simp only [e, if_true]
    simp -implicitDefEqProofs [w0, w1, w2, abin_sub, abin_lss, c1, hs]
  · by_cases c2 : 65536 - z < a - 268435456
    · have e : (a < 268435456 ∨ 65536 - z < a - 268435456 ∨ z = 4 ∧ a % 4 ≠ 0) = True := by simp; omega
      simp only [e, if_true]
      simp -implicitDefEqProofs [w0, w1, w2, abin_sub, abin_lss, c1, hs, abin_gtr, c2]
    · have hm : (a - 268435456).tmod z = (a - 268435456) % z := Int.tmod_eq_emod_of_nonneg (by omega)
      have hrem := fun t => abin_rem Try.prog t .i64 (a - 268435456) z (by omega)
      rw [hm] at hrem
      by_cases c3 : (a - 268435456) % z = 0
      · have e : (a < 268435456 ∨ 65536 - z < a - 268435456 ∨ z = 4 ∧ a % 4 ≠ 0) = False := by
          simp only [eq_iff_iff, iff_false]
          rcases hz with rfl | rfl <;> omega
        simp only [e, if_false]
        simp -implicitDefEqProofs [w0, w1, w2, abin_sub, abin_lss, c1, hs, abin_gtr, c2, hrem, abin_neq, c3]
      · have e : (a < 268435456 ∨ 65536 - z < a - 268435456 ∨ z = 4 ∧ a % 4 ≠ 0) = True := by
          simp only [eq_iff_iff, iff_true]
          rcases hz with rfl | rfl <;> omega
        simp only [e, if_true]
        simp -implicitDefEqProofs [w0, w1, w2, abin_sub, abin_lss, c1, hs, abin_gtr, c2, hrem, abin_neq, c3]
/-- A byte shifted and put in. -/
theorem or_shl {x b : Int} {k : Nat} (hk : k ≤ 3) (hx0 : 0 ≤ x) (hx1 : x < 256 ^ k) (hb0 : 0 ≤ b) (hb1 : b < 256) : orW x (IntKind.u32.wrap (b * 2 ^ (8 * k))) = x + 256 ^ k * b := by
  obtain ⟨x, rfl⟩ : ∃ n : Nat, x = n := ⟨x.toNat, by omega⟩
  obtain ⟨b, rfl⟩ : ∃ n : Nat, b = n := ⟨b.toNat, by omega⟩
  have hp : (256 : Nat) ^ k = 2 ^ (8 * k) := by rw [Nat.pow_mul]
  have hpi : (256 : Int) ^ k = ((2 ^ (8 * k) : Nat) : Int) := by rw [← hp]; simp
  rw [hpi] at hx1 ⊢
  have hx1' : x < 2 ^ (8 * k) := by exact_mod_cast hx1
  have hle : (2 : Nat) ^ (8 * k) ≤ 2 ^ 24 := Nat.pow_le_pow_right (by decide) (by omega)
  have hbb : b * 2 ^ (8 * k) < 4294967296 := by
    have : b * 2 ^ (8 * k) ≤ 255 * 2 ^ 24 := Nat.mul_le_mul (by omega) hle
    omega
  have hc : (b : Int) * 2 ^ (8 * k) = ((b * 2 ^ (8 * k) : Nat) : Int) := by rw [Int.natCast_mul, Int.natCast_pow]; rfl
  have e4 : x ||| b * 2 ^ (8 * k) = x + b * 2 ^ (8 * k) := by
    have := Nat.shiftLeft_add_eq_or_of_lt hx1' b
    rw [Nat.shiftLeft_eq] at this
    rw [Nat.or_comm, ← this, Nat.add_comm]
  have e5 : ((2 ^ (8 * k) : Nat) : Int) * (b : Int) = ((b * 2 ^ (8 * k) : Nat) : Int) := by rw [Int.natCast_mul, Int.mul_comm]
  have hsum : x + b * 2 ^ (8 * k) < 4294967296 := by
    rcases Nat.lt_or_ge k 3 with h3 | h3
    · have h16 : (2 : Nat) ^ (8 * k) ≤ 2 ^ 16 := Nat.pow_le_pow_right (by decide) (by omega)
      have : b * 2 ^ (8 * k) ≤ 255 * 2 ^ 16 := Nat.mul_le_mul (by omega) h16
      omega
    · obtain rfl : k = 3 := by omega
      have h24 : (2 : Nat) ^ (8 * 3) = 16777216 := by decide
      rw [h24] at hx1' ⊢
      omega
  have key : ∀ y : Nat, y < 4294967296 → (BitVec.ofInt IntKind.u32.bits (y : Int)).toNat = y := by
    intro y hy
    show (BitVec.ofInt 32 (y : Int)).toNat = y
    rw [BitVec.ofInt_natCast, BitVec.toNat_ofNat]
    omega
  rw [hc, e5]
  generalize b * 2 ^ (8 * k) = y at *
  have hw : IntKind.u32.wrap (y : Int) = y := by rw [wrap_u]; omega
  rw [hw]
  unfold orW
  have e3 : (BitVec.ofInt IntKind.u32.bits (x : Int) ||| BitVec.ofInt IntKind.u32.bits (y : Int)).toNat = x ||| y := by
    rw [BitVec.toNat_or, key x (by omega), key y hbb]
  rw [e3, e4, wrap_u]
  omega
end
theorem ixS_nat {s l b o n z : Nat} {k : Int} (h0 : 0 ≤ k) (h1 : k < n) : ixS s (.sl l b o n z) (vi k) = some (.ptr l b (o + k.toNat * s)) := by rw [ixS_sl, inB_yes h0 h1]; rfl
theorem rg_map {l : List Int} {k : Int} (f : Int → AV) (h0 : 0 ≤ k) (h1 : k < l.length) : (l.map f)[k.toNat]? = some (f (rg l k)) := by
  rw [List.getElem?_map, List.getElem?_eq_getElem (by omega)]
  unfold rg
  rw [List.getD_eq_getElem?_getD, List.getElem?_eq_getElem (by omega)]
  rfl
theorem shl_u {b : Int} {k : Nat} (hk : k ≤ 3) (t : TypeId) : abin Try.prog .shl t (vw b) (vi (8 * (k : Int))) = some (vw (IntKind.u32.wrap (b * 2 ^ (8 * k)))) := by
  have h1 : ¬ ((8 * (k : Int)) < 0) := by omega
  have h2 : min ((8 * (k : Int)).toNat) IntKind.u32.bits = 8 * k := by
    have : (8 * (k : Int)).toNat = 8 * k := by omega
    rw [this]
    simp [IntKind.bits]
    omega
  simp only [abin, shOp, h1, decide_false, cond_false, h2, Option.map_some]
theorem shr_u {b : Int} {k : Nat} (hk : k ≤ 3) (t : TypeId) : abin Try.prog .shr t (vw b) (vi (8 * (k : Int))) = some (vw (b / 256 ^ k)) := by
  have h1 : ¬ ((8 * (k : Int)) < 0) := by omega
  have h2 : min ((8 * (k : Int)).toNat) IntKind.u32.bits = 8 * k := by
    have : (8 * (k : Int)).toNat = 8 * k := by omega
    rw [this]
    simp [IntKind.bits]
    omega
  have h3 : b.fdiv (2 ^ (8 * k)) = b / 256 ^ k := by
    rw [Int.fdiv_eq_ediv_of_nonneg _ (Int.le_of_lt (Int.pow_pos (by decide))), Int.pow_mul]
    rfl
  simp only [abin, shOp, h1, decide_false, cond_false, h2, h3, Option.map_some]
section
variable {d : Nat} {H : Heap}
theorem load_loop {E : Rn} {A : Arena} {s : Ms} {o : AV} {e : Int} {F dp : Nat} (h : RunAt E A s o e F dp) {n : Int} {z : Nat} (hz : z ≤ 4) (h0 : 0 ≤ n) (h1 : n + z ≤ 65536) (call : ACall) :
    iterN LB (s62.l0 call 1) [.ptr 0 E.ri 0, vi n, vw 0, vi z, vi 0] (A :: H) = some (.exit 0, [vw (ldW s.mem n z)], A :: H) := by
  refine gives_eq (iter_gives (Inv := fun k st H' => st = [.ptr 0 E.ri 0, vi n, vw (ldW s.mem n k), vi z, vi k] ∧ H' = A :: H) z (big_lt (by omega)) (fun k hk st H' hi => ?_) ⟨rfl, rfl⟩)
  obtain ⟨rfl, rfl⟩ := hi
  rcases Nat.lt_or_ge k z with hlt | hge
  · left
    have hj := join_of h.run
    have h4 : (E.cells s o e F dp)[4]? = some (.sl 0 E.mi 0 65536 1) := rfl
    have hm := join_of h.mem
    have hi : (k : Int) < z := by omega
    have w1 := wrap_ok (n + k) (by omega) (by omega)
    have w2 := wrap_ok (8 * (k : Int)) (by omega) (by omega)
    have w3 := wrap_ok ((k : Int) + 1) (by omega) (by omega)
    have hix := ixS_nat (s := 1) (l := 0) (b := E.mi) (o := 0) (n := 65536) (z := 1) (k := n + k) (by omega) (by simp; omega)
    have hr := rg_map (l := s.mem) (k := n + k) vy (by omega) (by rw [h.ok.len]; simp; omega)
    have hb := rg_byte h.ok.byte (n + k)
    have wb : IntKind.u32.wrap (rg s.mem (n + k)) = rg s.mem (n + k) := by rw [wrap_u]; omega
    have hl := ldW_bound h.ok.byte n k
    have hor := or_shl (k := k) (by omega) hl.1 hl.2 hb.1 hb.2
    have hsh := shl_u (b := rg s.mem (n + k)) (k := k) (by omega)
    have hnext : ldW s.mem n (k + 1) = ldW s.mem n k + 256 ^ k * rg s.mem (n + k) := rfl
    rw [← hnext] at hor
    simp only [Nat.zero_add, Nat.mul_one] at hix
    refine ⟨_, _, hlt, ?_, rfl, rfl⟩
    unfold s62.l0
    simp -implicitDefEqProofs [abin_lss, hi, hj, h4, abin_add, w1, hix, hm, hr, wb, abin_mul, w2, hsh, abin_or, hor, w3]
  · right
    obtain rfl : k = z := by omega
    refine ⟨_, ?_, ?_, rfl⟩
    · unfold s62.l0
      simp -implicitDefEqProofs [abin_lss]
    · simp
theorem load62 {E : Rn} {A : Arena} {s : Ms} {o : AV} {F dp : Nat} (h : RunAt E A s o 0 F dp) {a z : Int} (ha : W a) (hz : z = 1 ∨ z = 4) : evCall Try.prog C (d + 3) 1 62 [.ptr 0 E.ri 0, vw a, vi z] (A :: H) =
    some (match memAt a z with
      | some n => (.tup [vw (ldW s.mem n z.toNat), vb true], A :: H)
      | none => (.tup [vw 0, vb false], A.set E.ri (some (E.cells s o 12 F dp)) :: H)) := by
  rw [evCall_inEq (fi := fi62) rfl rfl (b62 _ _ _ _ _ _)]
  unfold s62
  have hp := place75 (d := d) (H := H) h ha hz
  cases hm : memAt a z with
  | none =>
    rw [hm] at hp
    simp -implicitDefEqProofs [hp]
  | some n =>
    rw [hm] at hp
    obtain ⟨_, hn0, hn1⟩ := memAt_some hz hm
    obtain ⟨y, rfl⟩ : ∃ y : Nat, z = y := ⟨z.toNat, by omega⟩
    have hl := load_loop (H := H) h (n := n) (z := y) (by omega) hn0 hn1 (evCall Try.prog C (d + 2) 1)
    unfold lp
    simp -implicitDefEqProofs [hp, hl, bnd_eq]
theorem store_loop {E : Rn} {A : Arena} {s : Ms} {o : AV} {e : Int} {F dp : Nat} (hE : PlOk E) (h : RunAt E A s o e F dp) {n v : Int} {z : Nat} (hz : z ≤ 4) (h0 : 0 ≤ n) (h1 : n + z ≤ 65536) (call : ACall) :
    iterN LB (s63.l0 call 1) [.ptr 0 E.ri 0, vw v, vi n, vi z, vi 0] (A :: H) = some (.exit 0, [], A.set E.mi (some ((stW s.mem n v z).map vy)) :: H) := by
  refine gives_eq (iter_gives (Inv := fun k st H' => st = [.ptr 0 E.ri 0, vw v, vi n, vi z, vi k] ∧ H' = A.set E.mi (some ((stW s.mem n v k).map vy)) :: H) z (big_lt (by omega)) (fun k hk st H' hi => ?_) ⟨rfl, ?_⟩)
  · obtain ⟨rfl, rfl⟩ := hi
    have hlm := lt_of_get h.mem
    rcases Nat.lt_or_ge k z with hlt | hge
    · left
      have hj : ((A.set E.mi (some ((stW s.mem n v k).map vy)))[E.ri]?).join = some (E.cells s o e F dp) := by rw [List.getElem?_set_ne (Ne.symm hE.rm)]; exact join_of h.run
      have h4 : (E.cells s o e F dp)[4]? = some (.sl 0 E.mi 0 65536 1) := rfl
      have hi : (k : Int) < z := by omega
      have w1 := wrap_ok (n + k) (by omega) (by omega)
      have w2 := wrap_ok (8 * (k : Int)) (by omega) (by omega)
      have w3 := wrap_ok ((k : Int) + 1) (by omega) (by omega)
      have hix := ixS_nat (s := 1) (l := 0) (b := E.mi) (o := 0) (n := 65536) (z := 1) (k := n + k) (by omega) (by simp; omega)
      have hsh := shr_u (b := v) (k := k) (by omega)
      simp only [Nat.zero_add, Nat.mul_one] at hix
      have hst := stA_leaf (lim := 1) (A := A.set E.mi (some ((stW s.mem n v k).map vy))) (H := H) (i := E.mi) (o := (n + k).toNat) (v := vy (v / 256 ^ k % 256)) (c := (stW s.mem n v k).map vy) (by decide) rfl (by simp [hlm]) (by simp [stW_len, h.ok.len]; omega)
      rw [List.set_set, ← List.map_set] at hst
      have hnext : (stW s.mem n v k).set (n + k).toNat (v / 256 ^ k % 256) = stW s.mem n v (k + 1) := rfl
      rw [hnext] at hst
      refine ⟨_, _, hlt, ?_, rfl, rfl⟩
      unfold s63.l0
      simp -implicitDefEqProofs [abin_lss, hi, hj, h4, abin_add, w1, hix, abin_mul, w2, hsh, wrap_y, hst, w3]
    · right
      obtain rfl : k = z := by omega
      refine ⟨_, ?_, ?_, rfl⟩
      · unfold s63.l0
        simp -implicitDefEqProofs [abin_lss]
      · simp
  · have : A.set E.mi (some (s.mem.map vy)) = A := by
      apply List.ext_getElem?
      intro i
      rw [List.getElem?_set]
      split
      · rename_i h2
        subst h2
        simp [lt_of_get h.mem, h.mem]
        have := h.mem
        rw [List.getElem?_eq_getElem (lt_of_get h.mem)] at this
        exact (Option.some.inj this).symm
      · rfl
    rw [show stW s.mem n v 0 = s.mem from rfl, this]
theorem store63 {E : Rn} {A : Arena} {s : Ms} {o : AV} {F dp : Nat} (hE : PlOk E) (h : RunAt E A s o 0 F dp) {a z v : Int} (ha : W a) (hz : z = 1 ∨ z = 4) : evCall Try.prog C (d + 3) 1 63 [.ptr 0 E.ri 0, vw a, vi z, vw v] (A :: H) =
    some (match memAt a z with
      | some n => (vb true, A.set E.mi (some ((stW s.mem n v z.toNat).map vy)) :: H)
      | none => (vb false, A.set E.ri (some (E.cells s o 12 F dp)) :: H)) := by
  rw [evCall_inEq (fi := fi63) rfl rfl (b63 _ _ _ _ _ _ _)]
  unfold s63
  have hp := place75 (d := d) (H := H) h ha hz
  cases hm : memAt a z with
  | none =>
    rw [hm] at hp
    simp -implicitDefEqProofs [hp]
  | some n =>
    rw [hm] at hp
    obtain ⟨_, hn0, hn1⟩ := memAt_some hz hm
    obtain ⟨y, rfl⟩ : ∃ y : Nat, z = y := ⟨z.toNat, by omega⟩
    have hl := store_loop (H := H) hE h (n := n) (v := v) (z := y) (by omega) hn0 hn1 (evCall Try.prog C (d + 2) 1)
    unfold lp
    simp -implicitDefEqProofs [hp, hl, bnd_eq]
theorem input65 {E : Rn} {A : Arena} {s : Ms} {o : AV} {e : Int} {F dp : Nat} (hI : InOk E.inputs) (h : RunAt E A s o e F dp) (hn : s.ins < 1000000) : evCall Try.prog C (d + 1) 1 65 [.ptr 0 E.ri 0] (A :: H) =
    some (vw (inW E.inputs s.ins), A.set E.ri (some (E.cells ⟨s.mem, s.out, s.ins + 1⟩ o e F dp)) :: H) := by
  rw [evCall_inEq (fi := fi65) rfl rfl (b65 _ _ _ _)]
  unfold s65
  have hj := join_of h.run
  have hlt := lt_of_get h.run
  have h9 : (E.cells s o e F dp)[9]? = some (vi s.ins) := rfl
  have h9' : (E.cells ⟨s.mem, s.out, s.ins + 1⟩ o e F dp)[9]? = some (vi (s.ins + 1 : Nat)) := rfl
  have h7' : (E.cells ⟨s.mem, s.out, s.ins + 1⟩ o e F dp)[7]? = some (.d (seqD E.inl E.inputs wD)) := rfl
  have hst := stA_leaf (lim := 1) (A := A) (H := H) (i := E.ri) (o := 9) (v := vi (s.ins + 1 : Nat)) (c := E.cells s o e F dp) (by decide) rfl hj (by simp [Rn.cells])
  have hc : (E.cells s o e F dp).set 9 (vi (s.ins + 1 : Nat)) = E.cells ⟨s.mem, s.out, s.ins + 1⟩ o e F dp := rfl
  rw [hc] at hst
  have hy := show (List.set A E.ri (some (E.cells ⟨s.mem, s.out, s.ins + 1⟩ o e F dp)))[E.ri]? = some (some (E.cells ⟨s.mem, s.out, s.ins + 1⟩ o e F dp)) by simp [hlt]
  have w1 : IntKind.i64.wrap ((s.ins : Int) + 1) = ((s.ins + 1 : Nat) : Int) := wrap_ok _ (by omega) (by omega)
  have w2 : IntKind.i64.wrap (((s.ins + 1 : Nat) : Int) - 1) = s.ins := by rw [show ((s.ins + 1 : Nat) : Int) - 1 = s.ins by omega]; exact wrap_ok _ (by omega) (by omega)
  have hl := seq_len E.inl E.inputs wD
  generalize E.cells s o e F dp = X at *
  generalize E.cells ⟨s.mem, s.out, s.ins + 1⟩ o e F dp = Y at *
  have ht : ((s.ins + 1 : Nat) : Int) = s.ins + 1 := by omega
  generalize ((s.ins + 1 : Nat) : Int) = t at *
  by_cases c : (E.inputs.length : Int) < t
  · have hv : inW E.inputs s.ins = 0 := by
      unfold inW
      rw [List.getD_eq_getElem?_getD, List.getElem?_eq_none (by omega)]
      rfl
    rw [hv]
    simp -implicitDefEqProofs [hj, h9, abin_add, w1, hst, hy, h9', h7', hl, abin_gtr, c]
  · obtain ⟨x, hx⟩ : ∃ x, E.inputs[s.ins]? = some x := ⟨_, List.getElem?_eq_getElem (by omega)⟩
    obtain ⟨p, hp, hp2⟩ := seq_one (nl := E.inl) (f := fun n => D.int .u32 n) hx
    have hp' : ixS 1 (.d (seqD E.inl E.inputs wD)) (vi s.ins) = some p := hp
    have hv : inW E.inputs s.ins = x := by
      unfold inW
      rw [List.getD_eq_getElem?_getD, hx]
      rfl
    rw [hv]
    simp -implicitDefEqProofs [hj, h9, abin_add, w1, hst, hy, h9', h7', hl, abin_gtr, c, abin_sub, w2, hp', hp2]
end
end Go.Ev.Try

/- The program's instructions that are no calls (printed by genRnE.py). -/
set_option maxRecDepth 100000
namespace Go.Ev.Try
open Go Go.Ev Go.Proofs
/-- What an instruction comes to in memory. -/
structure InsAt (E : Rn) (A A' : Arena) (H : Heap) (o o' : AV) (p : Prc) (fi R : Nat) (low : Int) (F dp : Nat) (s : Ms) (z : Option (AV × Heap)) (x : Option (List Int × Ms)) : Prop where
  keep : Keep (R :: E.X) A A' o o'
  good : ∀ r' s', x = some (r', s') → z = some (vb true, A' :: H) ∧ RunAt E A' s' o' 0 F dp ∧ FrAt E A' o' p fi R r' low
  bad : x = none → z = some (vb false, A' :: H) ∧ RunAt E A' s o' 12 F dp
/-- The memory changes. -/
theorem RunAt.memAt' {E : Rn} {A : Arena} {s : Ms} {o : AV} {e : Int} {F dp : Nat} (hE : PlOk E) (h : RunAt E A s o e F dp) (mem : List Int) (hl : mem.length = 65536) (hb : ∀ x ∈ mem, 0 ≤ x ∧ x < 256) : RunAt E (A.set E.mi (some (mem.map vy))) ⟨mem, s.out, s.ins⟩ o e F dp :=
  ⟨by rw [List.getElem?_set_ne (Ne.symm hE.rm)]; exact h.run, by simp [lt_of_get h.mem], h.out.move fun j _ hj _ => List.getElem?_set_ne (by have := hE.m; omega), fun hg => ⟨(h.glob hg).1, by rw [List.getElem?_set_ne hE.ma]; exact (h.glob hg).2⟩, by simp [h.k0], ⟨hl, hb⟩⟩
/-- An output more. -/
theorem RunAt.outAt' {E : Rn} {A A2 : Arena} {s : Ms} {o o' : AV} {e : Int} {F dp : Nat} {x : Int} (hE : PlOk E) (h : RunAt E A s o e F dp) (hk : Keep [] A A2 o o') (ho : OutAt E.k0 A2 o' (s.out.map vw ++ [vw x]) (s.out.length + 1) 1) :
    RunAt E (A2.set E.ri (some (E.cells ⟨s.mem, s.out ++ [x], s.ins⟩ o' e F dp))) ⟨s.mem, s.out ++ [x], s.ins⟩ o' e F dp := by
  have g : ∀ j c, j < E.k0 → A[j]? = some c → A2[j]? = some c := fun j c hj hc => hk.get (by simp) (outAt_k0 h.out hj) hc
  refine ⟨by simp [lt_of_get (g _ _ hE.r h.run)], by rw [List.getElem?_set_ne hE.rm]; exact g _ _ hE.m h.mem, ?_, fun hg => ⟨(h.glob hg).1, by rw [List.getElem?_set_ne hE.ra]; exact g _ _ hE.a (h.glob hg).2⟩, by have := hk.len; have := h.k0; simp; omega, ⟨h.ok.len, h.ok.byte⟩⟩
  have := ho.move (A' := A2.set E.ri (some (E.cells ⟨s.mem, s.out ++ [x], s.ins⟩ o' e F dp))) fun j _ hj _ => List.getElem?_set_ne (by have := hE.r; omega)
  simpa using this
section
variable {d : Nat} {H : Heap}
/-- A register is set. -/
theorem InsAt.set {E : Rn} {A A1 : Arena} {o : AV} {p : Prc} {fi R : Nat} {regs : List Int} {low : Int} {F dp : Nat} {s : Ms} {z : Option (AV × Heap)} {k v : Int} (hE : PlOk E) (h : RunAt E A1 s o 0 F dp) (hf : FrAt E A1 o p fi R regs low)
    (hk : Keep (R :: E.X) A A1 o o) (B : Arena) (hz : z = some (vb true, (A1.set R (some ((wr regs k v).map vw)) ++ B) :: H)) : ∃ A' o', InsAt E A A' H o o' p fi R low F dp s z (some (wr regs k v, s)) := by
  refine ⟨A1.set R (some ((wr regs k v).map vw)) ++ B, o, (hk.trans (Keep.set (j := R) (by simp))).trans (Keep.push _ _ B _), fun r' s' e => ?_, fun e => by cases e⟩
  cases e
  exact ⟨hz, (h.setReg hE _ hf.rk hf.ro).push hE B, (hf.wr _).push B⟩
variable {E : Rn} {A : Arena} {s : Ms} {o : AV} {p : Prc} {fi R : Nat} {regs : List Int} {low : Int} {F dp : Nat} {i : Ins}

theorem ins41_1 (hE : PlOk E) (hM : MdOk E.m) (hI : InOk E.inputs) (h : RunAt E A s o 0 F dp) (hf : FrAt E A o p fi R regs low) (hr : RegsOk p regs) (hi : insOk E.m p i = true) (hw : W i.num) (hlo : 0 ≤ low) (hhi : low ≤ 65536) (hsm : Small p.objs) (hin : s.ins < 1000000) (hol : s.out.length < 1000000) (hop : i.op = 1) :
    ∃ A' o', InsAt E A A' H o o' p fi R low F dp s (evCall Try.prog C (d + 5) 1 41 [.ptr 0 E.ri 0, .ptr 0 fi 0, .agg ((iD i).map .d)] (A :: H)) (insP E.m E.inputs p low i regs s) := by
  have hx : insP E.m E.inputs p low i regs s = some (wr regs i.d i.num, s) := by simp [insP, hop]
  rw [hx]
  have hb := bx_data (r := iD i) (A := A) (H := H)
  have h1 := h.push hE [some ((iD i).map AV.d)]
  have hf1 := hf.push [some ((iD i).map AV.d)]
  have hq : (A ++ [some ((iD i).map AV.d)])[A.length]? = some (some ((iD i).map AV.d)) := by simp
  have hk := Keep.push (R :: E.X) A [some ((iD i).map AV.d)] o
  generalize hA1 : A ++ [some ((iD i).map AV.d)] = A1 at *
  have hrg := ins_regs hi (by omega)
  have hl := hr.len
  have hn : p.regs.toNat = regs.length := by omega
  have hd := regOk_t (show regOk p i.d true = true by have := hrg.1; rwa [hop] at this)
  have wa : ∀ k, W (rg regs k) := rg_w hr.w
  have j1 := join_of hf1.frm
  have j2 := join_of hq
  have hcut : cut (frCells R p low) 0 1 = some [.sl 0 R 0 p.regs.toNat 1] := rfl
  have x0 : (iD i)[0]? = some (.int .i64 i.op) := rfl
  have x1 : (iD i)[1]? = some (.int .i64 i.d) := rfl
  have x8 : (iD i)[8]? = some (.int .u32 i.num) := rfl
  refine InsAt.set hE h1 hf1 hk [some [.sl 0 R 0 p.regs.toNat 1]] ?_
  have hset := set61 (d := d + 3) (H := H) (k := i.d) (v := i.num) hf1.reg hn hd.1 (by omega)
  rw [evCall_inEq (fi := fi41) rfl rfl (b41 _ _ _ _ _ _)]
  unfold s41
  generalize iD i = I at *
  simp -implicitDefEqProofs [hb, j1, j2, hcut, abin_eql, hop, x0, x1, x8, hset]
theorem ins41_2 (hE : PlOk E) (hM : MdOk E.m) (hI : InOk E.inputs) (h : RunAt E A s o 0 F dp) (hf : FrAt E A o p fi R regs low) (hr : RegsOk p regs) (hi : insOk E.m p i = true) (hw : W i.num) (hlo : 0 ≤ low) (hhi : low ≤ 65536) (hsm : Small p.objs) (hin : s.ins < 1000000) (hol : s.out.length < 1000000) (hop : i.op = 2) :
    ∃ A' o', InsAt E A A' H o o' p fi R low F dp s (evCall Try.prog C (d + 5) 1 41 [.ptr 0 E.ri 0, .ptr 0 fi 0, .agg ((iD i).map .d)] (A :: H)) (insP E.m E.inputs p low i regs s) := by
  have hx : insP E.m E.inputs p low i regs s = some (wr regs i.d (rg regs i.a), s) := by simp [insP, hop]
  rw [hx]
  have hb := bx_data (r := iD i) (A := A) (H := H)
  have h1 := h.push hE [some ((iD i).map AV.d)]
  have hf1 := hf.push [some ((iD i).map AV.d)]
  have hq : (A ++ [some ((iD i).map AV.d)])[A.length]? = some (some ((iD i).map AV.d)) := by simp
  have hk := Keep.push (R :: E.X) A [some ((iD i).map AV.d)] o
  generalize hA1 : A ++ [some ((iD i).map AV.d)] = A1 at *
  have hrg := ins_regs hi (by omega)
  have hl := hr.len
  have hn : p.regs.toNat = regs.length := by omega
  have hd := regOk_t (show regOk p i.d true = true by have := hrg.1; rwa [hop] at this)
  have ha := regOk_t (show regOk p i.a true = true by have := hrg.2.1; rwa [hop] at this)
  have ga := fun d lim => get42 (d := d) (H := H) (lim := lim) (k := i.a) hf1.reg hn ha.1 (by omega)
  have wa : ∀ k, W (rg regs k) := rg_w hr.w
  have j1 := join_of hf1.frm
  have j2 := join_of hq
  have hcut : cut (frCells R p low) 0 1 = some [.sl 0 R 0 p.regs.toNat 1] := rfl
  have x0 : (iD i)[0]? = some (.int .i64 i.op) := rfl
  have x1 : (iD i)[1]? = some (.int .i64 i.d) := rfl
  have x2 : (iD i)[2]? = some (.int .i64 i.a) := rfl
  refine InsAt.set hE h1 hf1 hk [some [.sl 0 R 0 p.regs.toNat 1]] ?_
  have hset := set61 (d := d + 3) (H := H) (k := i.d) (v := rg regs i.a) hf1.reg hn hd.1 (by omega)
  rw [evCall_inEq (fi := fi41) rfl rfl (b41 _ _ _ _ _ _)]
  unfold s41
  generalize iD i = I at *
  simp -implicitDefEqProofs [hb, j1, j2, hcut, abin_eql, hop, x0, x1, x2, ga, hset]
theorem ins41_3 (hE : PlOk E) (hM : MdOk E.m) (hI : InOk E.inputs) (h : RunAt E A s o 0 F dp) (hf : FrAt E A o p fi R regs low) (hr : RegsOk p regs) (hi : insOk E.m p i = true) (hw : W i.num) (hlo : 0 ≤ low) (hhi : low ≤ 65536) (hsm : Small p.objs) (hin : s.ins < 1000000) (hol : s.out.length < 1000000) (hop : i.op = 3) :
    ∃ A' o', InsAt E A A' H o o' p fi R low F dp s (evCall Try.prog C (d + 5) 1 41 [.ptr 0 E.ri 0, .ptr 0 fi 0, .agg ((iD i).map .d)] (A :: H)) (insP E.m E.inputs p low i regs s) := by
  have hx : insP E.m E.inputs p low i regs s = some (wr regs i.d (fnW i.fn (rg regs i.a) (rg regs i.b)), s) := by simp [insP, hop]
  rw [hx]
  have hb := bx_data (r := iD i) (A := A) (H := H)
  have h1 := h.push hE [some ((iD i).map AV.d)]
  have hf1 := hf.push [some ((iD i).map AV.d)]
  have hq : (A ++ [some ((iD i).map AV.d)])[A.length]? = some (some ((iD i).map AV.d)) := by simp
  have hk := Keep.push (R :: E.X) A [some ((iD i).map AV.d)] o
  generalize hA1 : A ++ [some ((iD i).map AV.d)] = A1 at *
  have hrg := ins_regs hi (by omega)
  have hl := hr.len
  have hn : p.regs.toNat = regs.length := by omega
  have hd := regOk_t (show regOk p i.d true = true by have := hrg.1; rwa [hop] at this)
  have ha := regOk_t (show regOk p i.a true = true by have := hrg.2.1; rwa [hop] at this)
  have ga := fun d lim => get42 (d := d) (H := H) (lim := lim) (k := i.a) hf1.reg hn ha.1 (by omega)
  have hb2 := regOk_t (show regOk p i.b true = true by have := hrg.2.2.1; rwa [hop] at this)
  have gb := fun d lim => get42 (d := d) (H := H) (lim := lim) (k := i.b) hf1.reg hn hb2.1 (by omega)
  have wa : ∀ k, W (rg regs k) := rg_w hr.w
  have j1 := join_of hf1.frm
  have j2 := join_of hq
  have hcut : cut (frCells R p low) 0 1 = some [.sl 0 R 0 p.regs.toNat 1] := rfl
  have x0 : (iD i)[0]? = some (.int .i64 i.op) := rfl
  have x1 : (iD i)[1]? = some (.int .i64 i.d) := rfl
  have x2 : (iD i)[2]? = some (.int .i64 i.a) := rfl
  have x3 : (iD i)[3]? = some (.int .i64 i.b) := rfl
  have x4 : (iD i)[4]? = some (.int .i64 i.fn) := rfl
  refine InsAt.set hE h1 hf1 hk [some [.sl 0 R 0 p.regs.toNat 1]] ?_
  have hset := set61 (d := d + 3) (H := H) (k := i.d) (v := fnW i.fn (rg regs i.a) (rg regs i.b)) hf1.reg hn hd.1 (by omega)
  have hfn := fun H => fn12 (d := d) (lim := 1) (H := H) (fn := i.fn) (wa i.a) (wa i.b)
  rw [evCall_inEq (fi := fi41) rfl rfl (b41 _ _ _ _ _ _)]
  unfold s41
  generalize iD i = I at *
  simp -implicitDefEqProofs [hb, j1, j2, hcut, abin_eql, hop, x0, x1, x2, x3, x4, ga, gb, hfn, hset]
theorem ins41_4 (hE : PlOk E) (hM : MdOk E.m) (hI : InOk E.inputs) (h : RunAt E A s o 0 F dp) (hf : FrAt E A o p fi R regs low) (hr : RegsOk p regs) (hi : insOk E.m p i = true) (hw : W i.num) (hlo : 0 ≤ low) (hhi : low ≤ 65536) (hsm : Small p.objs) (hin : s.ins < 1000000) (hol : s.out.length < 1000000) (hop : i.op = 4) :
    ∃ A' o', InsAt E A A' H o o' p fi R low F dp s (evCall Try.prog C (d + 5) 1 41 [.ptr 0 E.ri 0, .ptr 0 fi 0, .agg ((iD i).map .d)] (A :: H)) (insP E.m E.inputs p low i regs s) := by
  have hx : insP E.m E.inputs p low i regs s = some (wr regs i.d (fnW i.fn (rg regs i.a) 0), s) := by simp [insP, hop]
  rw [hx]
  have hb := bx_data (r := iD i) (A := A) (H := H)
  have h1 := h.push hE [some ((iD i).map AV.d)]
  have hf1 := hf.push [some ((iD i).map AV.d)]
  have hq : (A ++ [some ((iD i).map AV.d)])[A.length]? = some (some ((iD i).map AV.d)) := by simp
  have hk := Keep.push (R :: E.X) A [some ((iD i).map AV.d)] o
  generalize hA1 : A ++ [some ((iD i).map AV.d)] = A1 at *
  have hrg := ins_regs hi (by omega)
  have hl := hr.len
  have hn : p.regs.toNat = regs.length := by omega
  have hd := regOk_t (show regOk p i.d true = true by have := hrg.1; rwa [hop] at this)
  have ha := regOk_t (show regOk p i.a true = true by have := hrg.2.1; rwa [hop] at this)
  have ga := fun d lim => get42 (d := d) (H := H) (lim := lim) (k := i.a) hf1.reg hn ha.1 (by omega)
  have wa : ∀ k, W (rg regs k) := rg_w hr.w
  have j1 := join_of hf1.frm
  have j2 := join_of hq
  have hcut : cut (frCells R p low) 0 1 = some [.sl 0 R 0 p.regs.toNat 1] := rfl
  have x0 : (iD i)[0]? = some (.int .i64 i.op) := rfl
  have x1 : (iD i)[1]? = some (.int .i64 i.d) := rfl
  have x2 : (iD i)[2]? = some (.int .i64 i.a) := rfl
  have x4 : (iD i)[4]? = some (.int .i64 i.fn) := rfl
  refine InsAt.set hE h1 hf1 hk [some [.sl 0 R 0 p.regs.toNat 1]] ?_
  have hset := set61 (d := d + 3) (H := H) (k := i.d) (v := fnW i.fn (rg regs i.a) 0) hf1.reg hn hd.1 (by omega)
  have hfn := fun H => fn12 (d := d) (lim := 1) (H := H) (fn := i.fn) (wa i.a) (show W 0 from ⟨by decide, by decide⟩)
  rw [evCall_inEq (fi := fi41) rfl rfl (b41 _ _ _ _ _ _)]
  unfold s41
  generalize iD i = I at *
  simp -implicitDefEqProofs [hb, j1, j2, hcut, abin_eql, hop, x0, x1, x2, x4, ga, hfn, hset]
theorem ins41_5 (hE : PlOk E) (hM : MdOk E.m) (hI : InOk E.inputs) (h : RunAt E A s o 0 F dp) (hf : FrAt E A o p fi R regs low) (hr : RegsOk p regs) (hi : insOk E.m p i = true) (hw : W i.num) (hlo : 0 ≤ low) (hhi : low ≤ 65536) (hsm : Small p.objs) (hin : s.ins < 1000000) (hol : s.out.length < 1000000) (hop : i.op = 5) :
    ∃ A' o', InsAt E A A' H o o' p fi R low F dp s (evCall Try.prog C (d + 5) 1 41 [.ptr 0 E.ri 0, .ptr 0 fi 0, .agg ((iD i).map .d)] (A :: H)) (insP E.m E.inputs p low i regs s) := by
  have hx : insP E.m E.inputs p low i regs s = (memAt (addrOf regs i) i.size).map fun n => (wr regs i.d (ldW s.mem n i.size.toNat), s) := by simp [insP, hop]
  rw [hx]
  have hb := bx_data (r := iD i) (A := A) (H := H)
  have h1 := h.push hE [some ((iD i).map AV.d)]
  have hf1 := hf.push [some ((iD i).map AV.d)]
  have hq : (A ++ [some ((iD i).map AV.d)])[A.length]? = some (some ((iD i).map AV.d)) := by simp
  have hk := Keep.push (R :: E.X) A [some ((iD i).map AV.d)] o
  generalize hA1 : A ++ [some ((iD i).map AV.d)] = A1 at *
  have hrg := ins_regs hi (by omega)
  have hl := hr.len
  have hn : p.regs.toNat = regs.length := by omega
  have hd := regOk_t (show regOk p i.d true = true by have := hrg.1; rwa [hop] at this)
  have ha := regOk_t (show regOk p i.a true = true by have := hrg.2.1; rwa [hop] at this)
  have ga := fun d lim => get42 (d := d) (H := H) (lim := lim) (k := i.a) hf1.reg hn ha.1 (by omega)
  have wa : ∀ k, W (rg regs k) := rg_w hr.w
  have j1 := join_of hf1.frm
  have j2 := join_of hq
  have hcut : cut (frCells R p low) 0 1 = some [.sl 0 R 0 p.regs.toNat 1] := rfl
  have x0 : (iD i)[0]? = some (.int .i64 i.op) := rfl
  have x1 : (iD i)[1]? = some (.int .i64 i.d) := rfl
  have x2 : (iD i)[2]? = some (.int .i64 i.a) := rfl
  have x6 : (iD i)[6]? = some (.int .i64 i.off) := rfl
  have x7 : (iD i)[7]? = some (.int .i64 i.size) := rfl
  have hz := size_of hrg.2.2.2 (by omega)
  have hwo : IntKind.u32.wrap (rg regs i.a + IntKind.u32.wrap i.off) = addrOf regs i := by rw [wrap_u, wrap_u]; unfold addrOf; omega
  have hwa : W (addrOf regs i) := w_mod _
  have hld := load62 (d := d + 1) (H := H) h1 hwa hz
  cases hm : memAt (addrOf regs i) i.size with
  | none =>
    rw [hm] at hld
    refine ⟨_, o, hk.trans (Keep.set (j := E.ri) (c := some (E.cells s o 12 F dp)) (by simp [Rn.X])), fun _ _ e => (by cases e), fun _ => ⟨?_, h1.cellsAt hE⟩⟩
    rw [evCall_inEq (fi := fi41) rfl rfl (b41 _ _ _ _ _ _)]
    unfold s41
    generalize iD i = I at *
    simp -implicitDefEqProofs [hb, j1, j2, hcut, abin_eql, hop, x0, x1, x2, x6, x7, ga, abin_add, hwo, hld]
  | some n =>
    rw [hm] at hld
    rw [Option.map_some]
    refine InsAt.set hE h1 hf1 hk [some [.sl 0 R 0 p.regs.toNat 1]] ?_
    have hset := set61 (d := d + 3) (H := H) (k := i.d) (v := ldW s.mem n i.size.toNat) hf1.reg hn hd.1 (by omega)
    rw [evCall_inEq (fi := fi41) rfl rfl (b41 _ _ _ _ _ _)]
    unfold s41
    generalize iD i = I at *
    simp -implicitDefEqProofs [hb, j1, j2, hcut, abin_eql, hop, x0, x1, x2, x6, x7, ga, abin_add, hwo, hld, hset]
theorem ins41_6 (hE : PlOk E) (hM : MdOk E.m) (hI : InOk E.inputs) (h : RunAt E A s o 0 F dp) (hf : FrAt E A o p fi R regs low) (hr : RegsOk p regs) (hi : insOk E.m p i = true) (hw : W i.num) (hlo : 0 ≤ low) (hhi : low ≤ 65536) (hsm : Small p.objs) (hin : s.ins < 1000000) (hol : s.out.length < 1000000) (hop : i.op = 6) :
    ∃ A' o', InsAt E A A' H o o' p fi R low F dp s (evCall Try.prog C (d + 5) 1 41 [.ptr 0 E.ri 0, .ptr 0 fi 0, .agg ((iD i).map .d)] (A :: H)) (insP E.m E.inputs p low i regs s) := by
  have hx : insP E.m E.inputs p low i regs s = (memAt (addrOf regs i) i.size).map fun n => (regs, ⟨stW s.mem n (rg regs i.b) i.size.toNat, s.out, s.ins⟩) := by simp [insP, hop]
  rw [hx]
  have hb := bx_data (r := iD i) (A := A) (H := H)
  have h1 := h.push hE [some ((iD i).map AV.d)]
  have hf1 := hf.push [some ((iD i).map AV.d)]
  have hq : (A ++ [some ((iD i).map AV.d)])[A.length]? = some (some ((iD i).map AV.d)) := by simp
  have hk := Keep.push (R :: E.X) A [some ((iD i).map AV.d)] o
  generalize hA1 : A ++ [some ((iD i).map AV.d)] = A1 at *
  have hrg := ins_regs hi (by omega)
  have hl := hr.len
  have hn : p.regs.toNat = regs.length := by omega
  have ha := regOk_t (show regOk p i.a true = true by have := hrg.2.1; rwa [hop] at this)
  have ga := fun d lim => get42 (d := d) (H := H) (lim := lim) (k := i.a) hf1.reg hn ha.1 (by omega)
  have hb2 := regOk_t (show regOk p i.b true = true by have := hrg.2.2.1; rwa [hop] at this)
  have gb := fun d lim => get42 (d := d) (H := H) (lim := lim) (k := i.b) hf1.reg hn hb2.1 (by omega)
  have wa : ∀ k, W (rg regs k) := rg_w hr.w
  have j1 := join_of hf1.frm
  have j2 := join_of hq
  have hcut : cut (frCells R p low) 0 1 = some [.sl 0 R 0 p.regs.toNat 1] := rfl
  have x0 : (iD i)[0]? = some (.int .i64 i.op) := rfl
  have x2 : (iD i)[2]? = some (.int .i64 i.a) := rfl
  have x3 : (iD i)[3]? = some (.int .i64 i.b) := rfl
  have x6 : (iD i)[6]? = some (.int .i64 i.off) := rfl
  have x7 : (iD i)[7]? = some (.int .i64 i.size) := rfl
  have hz := size_of hrg.2.2.2 (by omega)
  have hwo : IntKind.u32.wrap (rg regs i.a + IntKind.u32.wrap i.off) = addrOf regs i := by rw [wrap_u, wrap_u]; unfold addrOf; omega
  have hwa : W (addrOf regs i) := w_mod _
  have hst := store63 (d := d + 1) (H := H) (v := rg regs i.b) hE h1 hwa hz
  cases hm : memAt (addrOf regs i) i.size with
  | none =>
    rw [hm] at hst
    refine ⟨_, o, hk.trans (Keep.set (j := E.ri) (c := some (E.cells s o 12 F dp)) (by simp [Rn.X])), fun _ _ e => (by cases e), fun _ => ⟨?_, h1.cellsAt hE⟩⟩
    rw [evCall_inEq (fi := fi41) rfl rfl (b41 _ _ _ _ _ _)]
    unfold s41
    generalize iD i = I at *
    simp -implicitDefEqProofs [hb, j1, j2, hcut, abin_eql, hop, x0, x2, x3, x6, x7, ga, gb, abin_add, hwo, hst]
  | some n =>
    rw [hm] at hst
    refine ⟨_, o, hk.trans (Keep.set (j := E.mi) (c := some ((stW s.mem n (rg regs i.b) i.size.toNat).map vy)) (by simp [Rn.X])), fun _ _ e => ?_, fun e => by cases e⟩
    cases e
    refine ⟨?_, h1.memAt' hE _ (by simp [stW_len, h1.ok.len]) (stW_byte h1.ok.byte _ _ _), hf1.keep hE (Keep.set (by simp [Rn.X]))⟩
    rw [evCall_inEq (fi := fi41) rfl rfl (b41 _ _ _ _ _ _)]
    unfold s41
    generalize iD i = I at *
    simp -implicitDefEqProofs [hb, j1, j2, hcut, abin_eql, hop, x0, x2, x3, x6, x7, ga, gb, abin_add, hwo, hst]
theorem ins41_7 (hE : PlOk E) (hM : MdOk E.m) (hI : InOk E.inputs) (h : RunAt E A s o 0 F dp) (hf : FrAt E A o p fi R regs low) (hr : RegsOk p regs) (hi : insOk E.m p i = true) (hw : W i.num) (hlo : 0 ≤ low) (hhi : low ≤ 65536) (hsm : Small p.objs) (hin : s.ins < 1000000) (hol : s.out.length < 1000000) (hop : i.op = 7) :
    ∃ A' o', InsAt E A A' H o o' p fi R low F dp s (evCall Try.prog C (d + 5) 1 41 [.ptr 0 E.ri 0, .ptr 0 fi 0, .agg ((iD i).map .d)] (A :: H)) (insP E.m E.inputs p low i regs s) := by
  have hx : insP E.m E.inputs p low i regs s = some (wr regs i.d ((268435456 + low + plAt p.objs i.obj.toNat + i.off) % 4294967296), s) := by simp [insP, hop]
  rw [hx]
  have hb := bx_data (r := iD i) (A := A) (H := H)
  have h1 := h.push hE [some ((iD i).map AV.d)]
  have hf1 := hf.push [some ((iD i).map AV.d)]
  have hq : (A ++ [some ((iD i).map AV.d)])[A.length]? = some (some ((iD i).map AV.d)) := by simp
  have hk := Keep.push (R :: E.X) A [some ((iD i).map AV.d)] o
  generalize hA1 : A ++ [some ((iD i).map AV.d)] = A1 at *
  have hrg := ins_regs hi (by omega)
  have hl := hr.len
  have hn : p.regs.toNat = regs.length := by omega
  have hd := regOk_t (show regOk p i.d true = true by have := hrg.1; rwa [hop] at this)
  have wa : ∀ k, W (rg regs k) := rg_w hr.w
  have j1 := join_of hf1.frm
  have j2 := join_of hq
  have hcut : cut (frCells R p low) 0 1 = some [.sl 0 R 0 p.regs.toNat 1] := rfl
  have x0 : (iD i)[0]? = some (.int .i64 i.op) := rfl
  have x1 : (iD i)[1]? = some (.int .i64 i.d) := rfl
  have x5 : (iD i)[5]? = some (.int .i64 i.obj) := rfl
  have x6 : (iD i)[6]? = some (.int .i64 i.off) := rfl
  have hrs := hrg.2.2.2
  simp only [restOk, hop, offOk] at hrs
  simp at hrs
  obtain ⟨n, hn2⟩ : ∃ n : Nat, i.obj = n := ⟨i.obj.toNat, by omega⟩
  rw [hn2] at hrs
  have hlt : n < p.objs.length := by omega
  rw [hn2, Int.toNat_natCast]
  obtain ⟨q, hq1, hq2⟩ := plV_read hlt
  have hpl := plAt_ok hsm.2 n
  have hol' := hsm.1
  have w1 := wrap_ok (268435456 + low) (by omega) (by omega)
  have w2 := wrap_ok (268435456 + low + plAt p.objs n) (by omega) (by omega)
  have w3 := wrap_ok (268435456 + low + plAt p.objs n + i.off) (by omega) (by omega)
  rw [hn2] at x5
  have f8 : (frCells R p low)[8]? = some (vi low) := rfl
  have f7 : (frCells R p low)[7]? = some (plV p.objs) := rfl
  have hup : (plV p.objs).up 0 = plV p.objs := up_zero _
  refine InsAt.set hE h1 hf1 hk [some [.sl 0 R 0 p.regs.toNat 1]] ?_
  have hset := set61 (d := d + 3) (H := H) (k := i.d) (v := (268435456 + low + plAt p.objs n + i.off) % 4294967296) hf1.reg hn hd.1 (by omega)
  rw [evCall_inEq (fi := fi41) rfl rfl (b41 _ _ _ _ _ _)]
  unfold s41
  generalize iD i = I at *
  simp -implicitDefEqProofs [hb, j1, j2, hcut, abin_eql, hop, x0, x1, x5, x6, f7, f8, hq1, hq2, abin_add, w1, w2, w3, wrap_u, hset]
theorem ins41_8 (hE : PlOk E) (hM : MdOk E.m) (hI : InOk E.inputs) (h : RunAt E A s o 0 F dp) (hf : FrAt E A o p fi R regs low) (hr : RegsOk p regs) (hi : insOk E.m p i = true) (hw : W i.num) (hlo : 0 ≤ low) (hhi : low ≤ 65536) (hsm : Small p.objs) (hin : s.ins < 1000000) (hol : s.out.length < 1000000) (hop : i.op = 8) :
    ∃ A' o', InsAt E A A' H o o' p fi R low F dp s (evCall Try.prog C (d + 5) 1 41 [.ptr 0 E.ri 0, .ptr 0 fi 0, .agg ((iD i).map .d)] (A :: H)) (insP E.m E.inputs p low i regs s) := by
  have hx : insP E.m E.inputs p low i regs s = some (wr regs i.d ((268439552 + plAt E.m.globs i.obj.toNat + i.off) % 4294967296), s) := by simp [insP, hop]
  rw [hx]
  have hb := bx_data (r := iD i) (A := A) (H := H)
  have h1 := h.push hE [some ((iD i).map AV.d)]
  have hf1 := hf.push [some ((iD i).map AV.d)]
  have hq : (A ++ [some ((iD i).map AV.d)])[A.length]? = some (some ((iD i).map AV.d)) := by simp
  have hk := Keep.push (R :: E.X) A [some ((iD i).map AV.d)] o
  generalize hA1 : A ++ [some ((iD i).map AV.d)] = A1 at *
  have hrg := ins_regs hi (by omega)
  have hl := hr.len
  have hn : p.regs.toNat = regs.length := by omega
  have hd := regOk_t (show regOk p i.d true = true by have := hrg.1; rwa [hop] at this)
  have wa : ∀ k, W (rg regs k) := rg_w hr.w
  have j1 := join_of hf1.frm
  have j2 := join_of hq
  have hcut : cut (frCells R p low) 0 1 = some [.sl 0 R 0 p.regs.toNat 1] := rfl
  have x0 : (iD i)[0]? = some (.int .i64 i.op) := rfl
  have x1 : (iD i)[1]? = some (.int .i64 i.d) := rfl
  have x5 : (iD i)[5]? = some (.int .i64 i.obj) := rfl
  have x6 : (iD i)[6]? = some (.int .i64 i.off) := rfl
  have hrs := hrg.2.2.2
  simp only [restOk, hop, offOk] at hrs
  simp at hrs
  obtain ⟨n, hn2⟩ : ∃ n : Nat, i.obj = n := ⟨i.obj.toNat, by omega⟩
  rw [hn2] at hrs
  have hlt : n < E.m.globs.length := by omega
  rw [hn2, Int.toNat_natCast]
  obtain ⟨hg1, hg2⟩ := h1.glob (by omega)
  have hpl := plAt_ok hM.smallG.2 n
  have hol' := hM.smallG.1
  have j3 := join_of hg2
  have j4 := join_of h1.run
  have c5 : (E.cells s o 0 F dp)[5]? = some (.sl 0 E.ai 0 E.m.globs.length 1) := by rw [← hg1]; rfl
  have hat : (atCells E.m)[n]? = some (vi (4096 + plAt E.m.globs n)) := by unfold atCells; simp [hlt]
  have hix := inB_nat (k := .i64) (x := n) (n := E.m.globs.length) hlt
  have w1 := wrap_ok (268435456 + (4096 + plAt E.m.globs n)) (by omega) (by omega)
  have w2 := wrap_ok (268435456 + (4096 + plAt E.m.globs n) + i.off) (by omega) (by omega)
  have e3 : (268435456 + (4096 + plAt E.m.globs n) + i.off) % 4294967296 = (268439552 + plAt E.m.globs n + i.off) % 4294967296 := by omega
  rw [hn2] at x5
  refine InsAt.set hE h1 hf1 hk [some [.sl 0 R 0 p.regs.toNat 1]] ?_
  have hset := set61 (d := d + 3) (H := H) (k := i.d) (v := (268439552 + plAt E.m.globs n + i.off) % 4294967296) hf1.reg hn hd.1 (by omega)
  rw [evCall_inEq (fi := fi41) rfl rfl (b41 _ _ _ _ _ _)]
  unfold s41
  generalize iD i = I at *
  simp -implicitDefEqProofs [hb, j1, j2, hcut, abin_eql, hop, x0, x1, x5, x6, j3, j4, c5, hat, hix, abin_add, w1, w2, wrap_u, e3, hset]
theorem ins41_10 (hE : PlOk E) (hM : MdOk E.m) (hI : InOk E.inputs) (h : RunAt E A s o 0 F dp) (hf : FrAt E A o p fi R regs low) (hr : RegsOk p regs) (hi : insOk E.m p i = true) (hw : W i.num) (hlo : 0 ≤ low) (hhi : low ≤ 65536) (hsm : Small p.objs) (hin : s.ins < 1000000) (hol : s.out.length < 1000000) (hop : i.op = 10) :
    ∃ A' o', InsAt E A A' H o o' p fi R low F dp s (evCall Try.prog C (d + 5) 1 41 [.ptr 0 E.ri 0, .ptr 0 fi 0, .agg ((iD i).map .d)] (A :: H)) (insP E.m E.inputs p low i regs s) := by
  have hx : insP E.m E.inputs p low i regs s = some (regs, ⟨s.mem, s.out ++ [rg regs i.a], s.ins⟩) := by simp [insP, hop]
  rw [hx]
  have hb := bx_data (r := iD i) (A := A) (H := H)
  have h1 := h.push hE [some ((iD i).map AV.d)]
  have hf1 := hf.push [some ((iD i).map AV.d)]
  have hq : (A ++ [some ((iD i).map AV.d)])[A.length]? = some (some ((iD i).map AV.d)) := by simp
  have hk := Keep.push (R :: E.X) A [some ((iD i).map AV.d)] o
  generalize hA1 : A ++ [some ((iD i).map AV.d)] = A1 at *
  have hrg := ins_regs hi (by omega)
  have hl := hr.len
  have hn : p.regs.toNat = regs.length := by omega
  have ha := regOk_t (show regOk p i.a true = true by have := hrg.2.1; rwa [hop] at this)
  have ga := fun d lim => get42 (d := d) (H := H) (lim := lim) (k := i.a) hf1.reg hn ha.1 (by omega)
  have wa : ∀ k, W (rg regs k) := rg_w hr.w
  have j1 := join_of hf1.frm
  have j2 := join_of hq
  have hcut : cut (frCells R p low) 0 1 = some [.sl 0 R 0 p.regs.toNat 1] := rfl
  have x0 : (iD i)[0]? = some (.int .i64 i.op) := rfl
  have x2 : (iD i)[2]? = some (.int .i64 i.a) := rfl
  have j4 := join_of h1.run
  have c8 : (E.cells s o 0 F dp)[8]? = some o := rfl
  obtain ⟨o', A2, happ, ho2, hk2⟩ := out_app (H := H) (bytes := 4) (x := vw (rg regs i.a)) h1.out h1.k0 rfl (by omega) (by omega)
  have hbl := bldS_onev (z := vw 0) (v := vw (rg regs i.a)) (A := A1) (H := H) rfl
  have hr2 := hk2.get (by simp) (outAt_k0 h1.out hE.r) h1.run
  have hst := stA_leaf (lim := 1) (A := A2) (H := H) (i := E.ri) (o := 8) (v := o') (c := E.cells s o 0 F dp) (by decide) ho2.leaf (join_of hr2) (by simp [Rn.cells])
  have hc : (E.cells s o 0 F dp).set 8 o' = E.cells ⟨s.mem, s.out ++ [rg regs i.a], s.ins⟩ o' 0 F dp := rfl
  rw [hc] at hst
  have jr := getB_of' (H := H) (show (A1 ++ [some [vw (rg regs i.a)]])[E.ri]? = some (some (E.cells s o 0 F dp)) by rw [List.getElem?_append_left (lt_of_get h1.run)]; exact h1.run)
  have hk2' := hk2.mono (Y := R :: E.X) (fun j hj => by simp at hj)
  have hk3 := hk2.mono (Y := E.X) (fun j hj => by simp at hj)
  have hr1 : RunAt E A2 ⟨s.mem, s.out ++ [rg regs i.a], s.ins⟩ o' 0 F dp → True := fun _ => trivial
  refine ⟨A2.set E.ri (some (E.cells ⟨s.mem, s.out ++ [rg regs i.a], s.ins⟩ o' 0 F dp)), o', (hk.trans hk2').trans (Keep.set (by simp [Rn.X])), fun _ _ e => ?_, fun e => by cases e⟩
  cases e
  refine ⟨?_, h1.outAt' hE hk2 ho2, (hf1.keep hE hk3).keep hE (Keep.set (by simp [Rn.X]))⟩
  have hoj : (upN 0 [o])[0]? = some o := rfl
  rw [evCall_inEq (fi := fi41) rfl rfl (b41 _ _ _ _ _ _)]
  unfold s41
  generalize iD i = I at *
  simp -implicitDefEqProofs [hb, j1, j2, hcut, abin_eql, hop, x0, x2, ga, j4, c8, hbl, jr, happ, hst]
theorem ins41_11 (hE : PlOk E) (hM : MdOk E.m) (hI : InOk E.inputs) (h : RunAt E A s o 0 F dp) (hf : FrAt E A o p fi R regs low) (hr : RegsOk p regs) (hi : insOk E.m p i = true) (hw : W i.num) (hlo : 0 ≤ low) (hhi : low ≤ 65536) (hsm : Small p.objs) (hin : s.ins < 1000000) (hol : s.out.length < 1000000) (hop : i.op = 11) :
    ∃ A' o', InsAt E A A' H o o' p fi R low F dp s (evCall Try.prog C (d + 5) 1 41 [.ptr 0 E.ri 0, .ptr 0 fi 0, .agg ((iD i).map .d)] (A :: H)) (insP E.m E.inputs p low i regs s) := by
  have hx : insP E.m E.inputs p low i regs s = some (wr regs i.d (inW E.inputs s.ins), ⟨s.mem, s.out, s.ins + 1⟩) := by simp [insP, hop]
  rw [hx]
  have hb := bx_data (r := iD i) (A := A) (H := H)
  have h1 := h.push hE [some ((iD i).map AV.d)]
  have hf1 := hf.push [some ((iD i).map AV.d)]
  have hq : (A ++ [some ((iD i).map AV.d)])[A.length]? = some (some ((iD i).map AV.d)) := by simp
  have hk := Keep.push (R :: E.X) A [some ((iD i).map AV.d)] o
  generalize hA1 : A ++ [some ((iD i).map AV.d)] = A1 at *
  have hrg := ins_regs hi (by omega)
  have hl := hr.len
  have hn : p.regs.toNat = regs.length := by omega
  have hd := regOk_t (show regOk p i.d true = true by have := hrg.1; rwa [hop] at this)
  have wa : ∀ k, W (rg regs k) := rg_w hr.w
  have j1 := join_of hf1.frm
  have j2 := join_of hq
  have hcut : cut (frCells R p low) 0 1 = some [.sl 0 R 0 p.regs.toNat 1] := rfl
  have x0 : (iD i)[0]? = some (.int .i64 i.op) := rfl
  have x1 : (iD i)[1]? = some (.int .i64 i.d) := rfl
  have hinp := input65 (d := d + 3) (H := H) hI h1 hin
  have h2 := h1.cellsAt hE (e' := 0) (F' := F) (dp' := dp) (n' := s.ins + 1)
  have hk2 := Keep.set (X := E.X) (A := A1) (o := o) (j := E.ri) (c := some (E.cells ⟨s.mem, s.out, s.ins + 1⟩ o 0 F dp)) (by simp [Rn.X])
  have hf2 := hf1.keep hE hk2
  have hq2 : (A1.set E.ri (some (E.cells ⟨s.mem, s.out, s.ins + 1⟩ o 0 F dp)))[A.length]? = some (some ((iD i).map AV.d)) := by rw [List.getElem?_set_ne (by have := lt_of_get h.run; omega)]; exact hq
  have hk3 := hk.trans (hk2.mono (Y := R :: E.X) (fun j hj => List.mem_cons_of_mem _ hj))
  generalize A1.set E.ri (some (E.cells ⟨s.mem, s.out, s.ins + 1⟩ o 0 F dp)) = A2 at *
  have hset := set61 (d := d + 3) (H := H) (k := i.d) (v := inW E.inputs s.ins) hf2.reg hn hd.1 (by omega)
  refine ⟨A2.set R (some ((wr regs i.d (inW E.inputs s.ins)).map vw)) ++ [some [.sl 0 R 0 p.regs.toNat 1]], o, (hk3.trans (Keep.set (j := R) (by simp))).trans (Keep.push _ _ _ _), fun _ _ e => ?_, fun e => by cases e⟩
  cases e
  refine ⟨?_, (h2.setReg hE _ hf2.rk hf2.ro).push hE _, (hf2.wr _).push _⟩
  have k1 := join_of hf2.frm
  have k2 := join_of hq2
  rw [evCall_inEq (fi := fi41) rfl rfl (b41 _ _ _ _ _ _)]
  unfold s41
  generalize iD i = I at *
  simp -implicitDefEqProofs [hb, j1, j2, hcut, abin_eql, hop, x0, x1, hinp, k1, k2, hset]
theorem ins41_12 (hE : PlOk E) (hM : MdOk E.m) (hI : InOk E.inputs) (h : RunAt E A s o 0 F dp) (hf : FrAt E A o p fi R regs low) (hr : RegsOk p regs) (hi : insOk E.m p i = true) (hw : W i.num) (hlo : 0 ≤ low) (hhi : low ≤ 65536) (hsm : Small p.objs) (hin : s.ins < 1000000) (hol : s.out.length < 1000000) (hop : i.op = 12) :
    ∃ A' o', InsAt E A A' H o o' p fi R low F dp s (evCall Try.prog C (d + 5) 1 41 [.ptr 0 E.ri 0, .ptr 0 fi 0, .agg ((iD i).map .d)] (A :: H)) (insP E.m E.inputs p low i regs s) := by
  have hx : insP E.m E.inputs p low i regs s = some (regs, s) := by simp [insP, hop]
  rw [hx]
  have hb := bx_data (r := iD i) (A := A) (H := H)
  have h1 := h.push hE [some ((iD i).map AV.d)]
  have hf1 := hf.push [some ((iD i).map AV.d)]
  have hq : (A ++ [some ((iD i).map AV.d)])[A.length]? = some (some ((iD i).map AV.d)) := by simp
  have hk := Keep.push (R :: E.X) A [some ((iD i).map AV.d)] o
  generalize hA1 : A ++ [some ((iD i).map AV.d)] = A1 at *
  have hrg := ins_regs hi (by omega)
  have hl := hr.len
  have hn : p.regs.toNat = regs.length := by omega
  have wa : ∀ k, W (rg regs k) := rg_w hr.w
  have j1 := join_of hf1.frm
  have j2 := join_of hq
  have hcut : cut (frCells R p low) 0 1 = some [.sl 0 R 0 p.regs.toNat 1] := rfl
  have x0 : (iD i)[0]? = some (.int .i64 i.op) := rfl
  refine ⟨A1, o, hk, fun _ _ e => ?_, fun e => by cases e⟩
  cases e
  refine ⟨?_, h1, hf1⟩
  rw [evCall_inEq (fi := fi41) rfl rfl (b41 _ _ _ _ _ _)]
  unfold s41
  generalize iD i = I at *
  simp -implicitDefEqProofs [hb, j1, j2, hcut, abin_eql, hop, x0]
/-- Any instruction that is no call. -/
theorem ins41 (hE : PlOk E) (hM : MdOk E.m) (hI : InOk E.inputs) (h : RunAt E A s o 0 F dp) (hf : FrAt E A o p fi R regs low) (hr : RegsOk p regs) (hi : insOk E.m p i = true) (hw : W i.num) (hlo : 0 ≤ low) (hhi : low ≤ 65536) (hsm : Small p.objs) (hin : s.ins < 1000000) (hol : s.out.length < 1000000) (h9 : i.op ≠ 9) :
    ∃ A' o', InsAt E A A' H o o' p fi R low F dp s (evCall Try.prog C (d + 5) 1 41 [.ptr 0 E.ri 0, .ptr 0 fi 0, .agg ((iD i).map .d)] (A :: H)) (insP E.m E.inputs p low i regs s) := by
  have := ins_ops hi
  have hc : i.op = 1 ∨ i.op = 2 ∨ i.op = 3 ∨ i.op = 4 ∨ i.op = 5 ∨ i.op = 6 ∨ i.op = 7 ∨ i.op = 8 ∨ i.op = 10 ∨ i.op = 11 ∨ i.op = 12 := by omega
  rcases hc with c | c | c | c | c | c | c | c | c | c | c
  · exact ins41_1 hE hM hI h hf hr hi hw hlo hhi hsm hin hol c
  · exact ins41_2 hE hM hI h hf hr hi hw hlo hhi hsm hin hol c
  · exact ins41_3 hE hM hI h hf hr hi hw hlo hhi hsm hin hol c
  · exact ins41_4 hE hM hI h hf hr hi hw hlo hhi hsm hin hol c
  · exact ins41_5 hE hM hI h hf hr hi hw hlo hhi hsm hin hol c
  · exact ins41_6 hE hM hI h hf hr hi hw hlo hhi hsm hin hol c
  · exact ins41_7 hE hM hI h hf hr hi hw hlo hhi hsm hin hol c
  · exact ins41_8 hE hM hI h hf hr hi hw hlo hhi hsm hin hol c
  · exact ins41_10 hE hM hI h hf hr hi hw hlo hhi hsm hin hol c
  · exact ins41_11 hE hM hI h hf hr hi hw hlo hhi hsm hin hol c
  · exact ins41_12 hE hM hI h hf hr hi hw hlo hhi hsm hin hol c
end
end Go.Ev.Try
