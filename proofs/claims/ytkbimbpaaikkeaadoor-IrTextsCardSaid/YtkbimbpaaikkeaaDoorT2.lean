import Derived.Test.YtkbimbpaaikkeaaDoorT1
set_option linter.unusedSimpArgs false
set_option linter.unusedVariables false
/- That the evaluator comes to the plain texts. -/
namespace Go.Ev.Tryd
open Go Go.Ev Go.Proofs

theorem b12 (call : ACall) (lim : Nat) (a0 : AV) (H : Heap) : evBody Tryd.prog call (pureOf C) lim fi12 [a0] H = s12 call lim a0 H := by kernel_rfl
theorem b6 (call : ACall) (lim : Nat) (a0 : AV) (H : Heap) : evBody Tryd.prog call (pureOf C) lim fi6 [a0] H = s6 call lim a0 H := by kernel_rfl
theorem b40 (call : ACall) (lim : Nat) (a0 : AV) (H : Heap) : evBody Tryd.prog call (pureOf C) lim fi40 [a0] H = s40 call lim a0 H := by kernel_rfl
theorem b29 (call : ACall) (lim : Nat) (a0 a1 : AV) (H : Heap) : evBody Tryd.prog call (pureOf C) lim fi29 [a0, a1] H = s29 call lim a0 a1 H := by kernel_rfl
theorem b32 (call : ACall) (lim : Nat) (a0 : AV) (H : Heap) : evBody Tryd.prog call (pureOf C) lim fi32 [a0] H = s32 call lim a0 H := by kernel_rfl
theorem b31 (call : ACall) (lim : Nat) (a0 : AV) (H : Heap) : evBody Tryd.prog call (pureOf C) lim fi31 [a0] H = s31 call lim a0 H := by kernel_rfl
theorem b13 (call : ACall) (lim : Nat) (a0 : AV) (H : Heap) : evBody Tryd.prog call (pureOf C) lim fi13 [a0] H = s13 call lim a0 H := by kernel_rfl
theorem b24 (call : ACall) (lim : Nat) (a0 : AV) (H : Heap) : evBody Tryd.prog call (pureOf C) lim fi24 [a0] H = s24 call lim a0 H := by kernel_rfl
theorem b15 (call : ACall) (lim : Nat) (a0 : AV) (H : Heap) : evBody Tryd.prog call (pureOf C) lim fi15 [a0] H = s15 call lim a0 H := by kernel_rfl
theorem b36 (call : ACall) (lim : Nat) (a0 : AV) (H : Heap) : evBody Tryd.prog call (pureOf C) lim fi36 [a0] H = s36 call lim a0 H := by kernel_rfl
theorem b16 (call : ACall) (lim : Nat) (a0 : AV) (H : Heap) : evBody Tryd.prog call (pureOf C) lim fi16 [a0] H = s16 call lim a0 H := by kernel_rfl
theorem b49 (call : ACall) (lim : Nat) (a0 : AV) (H : Heap) : evBody Tryd.prog call (pureOf C) lim fi49 [a0] H = s49 call lim a0 H := by kernel_rfl
theorem b42 (call : ACall) (lim : Nat) (a0 : AV) (H : Heap) : evBody Tryd.prog call (pureOf C) lim fi42 [a0] H = s42 call lim a0 H := by kernel_rfl
theorem b44 (call : ACall) (lim : Nat) (a0 a1 a2 : AV) (H : Heap) : evBody Tryd.prog call (pureOf C) lim fi44 [a0, a1, a2] H = s44 call lim a0 a1 a2 H := by kernel_rfl
theorem b43 (call : ACall) (lim : Nat) (a0 a1 : AV) (H : Heap) : evBody Tryd.prog call (pureOf C) lim fi43 [a0, a1] H = s43 call lim a0 a1 H := by kernel_rfl
theorem b45 (call : ACall) (lim : Nat) (a0 : AV) (H : Heap) : evBody Tryd.prog call (pureOf C) lim fi45 [a0] H = s45 call lim a0 H := by kernel_rfl
theorem b37 (call : ACall) (lim : Nat) (a0 a1 : AV) (H : Heap) : evBody Tryd.prog call (pureOf C) lim fi37 [a0, a1] H = s37 call lim a0 a1 H := by kernel_rfl
theorem b46 (call : ACall) (lim : Nat) (a0 a1 : AV) (H : Heap) : evBody Tryd.prog call (pureOf C) lim fi46 [a0, a1] H = s46 call lim a0 a1 H := by kernel_rfl
theorem b38 (call : ACall) (lim : Nat) (a0 a1 : AV) (H : Heap) : evBody Tryd.prog call (pureOf C) lim fi38 [a0, a1] H = s38 call lim a0 a1 H := by kernel_rfl
theorem b26 (call : ACall) (lim : Nat) (a0 : AV) (H : Heap) : evBody Tryd.prog call (pureOf C) lim fi26 [a0] H = s26 call lim a0 H := by kernel_rfl
theorem b10 (call : ACall) (lim : Nat) (a0 a1 : AV) (H : Heap) : evBody Tryd.prog call (pureOf C) lim fi10 [a0, a1] H = s10 call lim a0 a1 H := by kernel_rfl
theorem b8 (call : ACall) (lim : Nat) (a0 : AV) (H : Heap) : evBody Tryd.prog call (pureOf C) lim fi8 [a0] H = s8 call lim a0 H := by kernel_rfl
theorem b7 (call : ACall) (lim : Nat) (H : Heap) : evBody Tryd.prog call (pureOf C) lim fi7 [] H = s7 call lim H := by kernel_rfl
theorem b25 (call : ACall) (lim : Nat) (a0 a1 : AV) (H : Heap) : evBody Tryd.prog call (pureOf C) lim fi25 [a0, a1] H = s25 call lim a0 a1 H := by kernel_rfl
theorem b39 (call : ACall) (lim : Nat) (a0 a1 a2 : AV) (H : Heap) : evBody Tryd.prog call (pureOf C) lim fi39 [a0, a1, a2] H = s39 call lim a0 a1 a2 H := by kernel_rfl
theorem b27 (call : ACall) (lim : Nat) (a0 a1 : AV) (H : Heap) : evBody Tryd.prog call (pureOf C) lim fi27 [a0, a1] H = s27 call lim a0 a1 H := by kernel_rfl
theorem b35 (call : ACall) (lim : Nat) (a0 : AV) (H : Heap) : evBody Tryd.prog call (pureOf C) lim fi35 [a0] H = s35 call lim a0 H := by kernel_rfl
theorem b28 (call : ACall) (lim : Nat) (a0 a1 a2 : AV) (H : Heap) : evBody Tryd.prog call (pureOf C) lim fi28 [a0, a1, a2] H = s28 call lim a0 a1 a2 H := by kernel_rfl
theorem b11 (call : ACall) (lim : Nat) (a0 a1 : AV) (H : Heap) : evBody Tryd.prog call (pureOf C) lim fi11 [a0, a1] H = s11 call lim a0 a1 H := by kernel_rfl
theorem b9 (call : ACall) (lim : Nat) (a0 : AV) (H : Heap) : evBody Tryd.prog call (pureOf C) lim fi9 [a0] H = s9 call lim a0 H := by kernel_rfl
theorem b3 (call : ACall) (lim : Nat) (a0 a1 : AV) (H : Heap) : evBody Tryd.prog call (pureOf C) lim fi3 [a0, a1] H = s3 call lim a0 a1 H := by kernel_rfl
theorem b33 (call : ACall) (lim : Nat) (a0 : AV) (H : Heap) : evBody Tryd.prog call (pureOf C) lim fi33 [a0] H = s33 call lim a0 H := by kernel_rfl
theorem b34 (call : ACall) (lim : Nat) (a0 : AV) (H : Heap) : evBody Tryd.prog call (pureOf C) lim fi34 [a0] H = s34 call lim a0 H := by kernel_rfl
theorem b14 (call : ACall) (lim : Nat) (a0 : AV) (H : Heap) : evBody Tryd.prog call (pureOf C) lim fi14 [a0] H = s14 call lim a0 H := by kernel_rfl
theorem b4 (call : ACall) (lim : Nat) (a0 : AV) (H : Heap) : evBody Tryd.prog call (pureOf C) lim fi4 [a0] H = s4 call lim a0 H := by kernel_rfl
theorem b17 (call : ACall) (lim : Nat) (a0 : AV) (H : Heap) : evBody Tryd.prog call (pureOf C) lim fi17 [a0] H = s17 call lim a0 H := by kernel_rfl
theorem b19 (call : ACall) (lim : Nat) (a0 : AV) (H : Heap) : evBody Tryd.prog call (pureOf C) lim fi19 [a0] H = s19 call lim a0 H := by kernel_rfl
theorem b20 (call : ACall) (lim : Nat) (a0 : AV) (H : Heap) : evBody Tryd.prog call (pureOf C) lim fi20 [a0] H = s20 call lim a0 H := by kernel_rfl
theorem b18 (call : ACall) (lim : Nat) (a0 a1 : AV) (H : Heap) : evBody Tryd.prog call (pureOf C) lim fi18 [a0, a1] H = s18 call lim a0 a1 H := by kernel_rfl
theorem b21 (call : ACall) (lim : Nat) (a0 : AV) (H : Heap) : evBody Tryd.prog call (pureOf C) lim fi21 [a0] H = s21 call lim a0 H := by kernel_rfl
theorem b22 (call : ACall) (lim : Nat) (a0 : AV) (H : Heap) : evBody Tryd.prog call (pureOf C) lim fi22 [a0] H = s22 call lim a0 H := by kernel_rfl
theorem b23 (call : ACall) (lim : Nat) (a0 : AV) (H : Heap) : evBody Tryd.prog call (pureOf C) lim fi23 [a0] H = s23 call lim a0 H := by kernel_rfl
theorem b5 (call : ACall) (lim : Nat) (a0 a1 : AV) (H : Heap) : evBody Tryd.prog call (pureOf C) lim fi5 [a0, a1] H = s5 call lim a0 a1 H := by kernel_rfl
end Go.Ev.Tryd
