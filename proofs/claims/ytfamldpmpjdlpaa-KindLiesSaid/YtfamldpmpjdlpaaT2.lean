import Derived.Test.YtfamldpmpjdlpaaT1
set_option linter.unusedSimpArgs false
set_option linter.unusedVariables false
/- That the evaluator comes to the plain texts. -/
namespace Go.Ev.Try
open Go Go.Ev Go.Proofs

theorem b8 (μ : Nat) (call : ACall) (lim : Nat) (a0 : AV) (H : Heap) : evBody Try.prog call (pureOf (C μ)) lim fi8 [a0] H = s8 call lim a0 H := by kernel_rfl
theorem b10 (μ : Nat) (call : ACall) (lim : Nat) (H : Heap) : evBody Try.prog call (pureOf (C μ)) lim fi10 [] H = s10 call lim H := by kernel_rfl
theorem b45 (μ : Nat) (call : ACall) (lim : Nat) (a0 a1 : AV) (H : Heap) : evBody Try.prog call (pureOf (C μ)) lim fi45 [a0, a1] H = s45 call lim a0 a1 H := by kernel_rfl
theorem b43 (μ : Nat) (call : ACall) (lim : Nat) (a0 a1 : AV) (H : Heap) : evBody Try.prog call (pureOf (C μ)) lim fi43 [a0, a1] H = s43 call lim a0 a1 H := by kernel_rfl
theorem b35 (μ : Nat) (call : ACall) (lim : Nat) (a0 a1 : AV) (H : Heap) : evBody Try.prog call (pureOf (C μ)) lim fi35 [a0, a1] H = s35 call lim a0 a1 H := by kernel_rfl
theorem b44 (μ : Nat) (call : ACall) (lim : Nat) (a0 a1 : AV) (H : Heap) : evBody Try.prog call (pureOf (C μ)) lim fi44 [a0, a1] H = s44 call lim a0 a1 H := by kernel_rfl
theorem b34 (μ : Nat) (call : ACall) (lim : Nat) (a0 a1 : AV) (H : Heap) : evBody Try.prog call (pureOf (C μ)) lim fi34 [a0, a1] H = s34 call lim a0 a1 H := by kernel_rfl
theorem b27 (μ : Nat) (call : ACall) (lim : Nat) (a0 a1 : AV) (H : Heap) : evBody Try.prog call (pureOf (C μ)) lim fi27 [a0, a1] H = s27 call lim a0 a1 H := by kernel_rfl
theorem b51 (μ : Nat) (call : ACall) (lim : Nat) (a0 a1 : AV) (H : Heap) : evBody Try.prog call (pureOf (C μ)) lim fi51 [a0, a1] H = s51 call lim a0 a1 H := by kernel_rfl
theorem b46 (μ : Nat) (call : ACall) (lim : Nat) (a0 a1 : AV) (H : Heap) : evBody Try.prog call (pureOf (C μ)) lim fi46 [a0, a1] H = s46 call lim a0 a1 H := by kernel_rfl
theorem b47 (μ : Nat) (call : ACall) (lim : Nat) (a0 : AV) (H : Heap) : evBody Try.prog call (pureOf (C μ)) lim fi47 [a0] H = s47 call lim a0 H := by kernel_rfl
theorem b33 (μ : Nat) (call : ACall) (lim : Nat) (a0 a1 : AV) (H : Heap) : evBody Try.prog call (pureOf (C μ)) lim fi33 [a0, a1] H = s33 call lim a0 a1 H := by kernel_rfl
theorem b48 (μ : Nat) (call : ACall) (lim : Nat) (a0 a1 : AV) (H : Heap) : evBody Try.prog call (pureOf (C μ)) lim fi48 [a0, a1] H = s48 call lim a0 a1 H := by kernel_rfl
theorem b21 (μ : Nat) (call : ACall) (lim : Nat) (a0 a1 : AV) (H : Heap) : evBody Try.prog call (pureOf (C μ)) lim fi21 [a0, a1] H = s21 call lim a0 a1 H := by kernel_rfl
theorem b49 (μ : Nat) (call : ACall) (lim : Nat) (a0 a1 : AV) (H : Heap) : evBody Try.prog call (pureOf (C μ)) lim fi49 [a0, a1] H = s49 call lim a0 a1 H := by kernel_rfl
theorem b50 (μ : Nat) (call : ACall) (lim : Nat) (a0 a1 : AV) (H : Heap) : evBody Try.prog call (pureOf (C μ)) lim fi50 [a0, a1] H = s50 call lim a0 a1 H := by kernel_rfl
theorem b38 (μ : Nat) (call : ACall) (lim : Nat) (a0 a1 : AV) (H : Heap) : evBody Try.prog call (pureOf (C μ)) lim fi38 [a0, a1] H = s38 call lim a0 a1 H := by kernel_rfl
theorem b36 (μ : Nat) (call : ACall) (lim : Nat) (a0 : AV) (H : Heap) : evBody Try.prog call (pureOf (C μ)) lim fi36 [a0] H = s36 call lim a0 H := by kernel_rfl
theorem b22 (μ : Nat) (call : ACall) (lim : Nat) (a0 a1 : AV) (H : Heap) : evBody Try.prog call (pureOf (C μ)) lim fi22 [a0, a1] H = s22 call lim a0 a1 H := by kernel_rfl
theorem b40 (μ : Nat) (call : ACall) (lim : Nat) (a0 a1 : AV) (H : Heap) : evBody Try.prog call (pureOf (C μ)) lim fi40 [a0, a1] H = s40 call lim a0 a1 H := by kernel_rfl
theorem b39 (μ : Nat) (call : ACall) (lim : Nat) (a0 a1 a2 a3 : AV) (H : Heap) : evBody Try.prog call (pureOf (C μ)) lim fi39 [a0, a1, a2, a3] H = s39 call lim a0 a1 a2 a3 H := by kernel_rfl
theorem b28 (μ : Nat) (call : ACall) (lim : Nat) (a0 a1 a2 : AV) (H : Heap) : evBody Try.prog call (pureOf (C μ)) lim fi28 [a0, a1, a2] H = s28 call lim a0 a1 a2 H := by kernel_rfl
theorem b18 (μ : Nat) (call : ACall) (lim : Nat) (a0 a1 a2 : AV) (H : Heap) : evBody Try.prog call (pureOf (C μ)) lim fi18 [a0, a1, a2] H = s18 call lim a0 a1 a2 H := by kernel_rfl
theorem b14 (μ : Nat) (call : ACall) (lim : Nat) (a0 a1 a2 : AV) (H : Heap) : evBody Try.prog call (pureOf (C μ)) lim fi14 [a0, a1, a2] H = s14 call lim a0 a1 a2 H := by kernel_rfl
theorem b9 (μ : Nat) (call : ACall) (lim : Nat) (H : Heap) : evBody Try.prog call (pureOf (C μ)) lim fi9 [] H = s9 call lim H := by kernel_rfl
theorem b12 (μ : Nat) (call : ACall) (lim : Nat) (H : Heap) : evBody Try.prog call (pureOf (C μ)) lim fi12 [] H = s12 call lim H := by kernel_rfl
theorem b13 (μ : Nat) (call : ACall) (lim : Nat) (a0 a1 : AV) (H : Heap) : evBody Try.prog call (pureOf (C μ)) lim fi13 [a0, a1] H = s13 call lim a0 a1 H := by kernel_rfl
theorem b19 (μ : Nat) (call : ACall) (lim : Nat) (a0 a1 : AV) (H : Heap) : evBody Try.prog call (pureOf (C μ)) lim fi19 [a0, a1] H = s19 call lim a0 a1 H := by kernel_rfl
theorem b41 (μ : Nat) (call : ACall) (lim : Nat) (a0 a1 : AV) (H : Heap) : evBody Try.prog call (pureOf (C μ)) lim fi41 [a0, a1] H = s41 call lim a0 a1 H := by kernel_rfl
theorem b29 (μ : Nat) (call : ACall) (lim : Nat) (a0 a1 : AV) (H : Heap) : evBody Try.prog call (pureOf (C μ)) lim fi29 [a0, a1] H = s29 call lim a0 a1 H := by kernel_rfl
theorem b24 (μ : Nat) (call : ACall) (lim : Nat) (a0 a1 : AV) (H : Heap) : evBody Try.prog call (pureOf (C μ)) lim fi24 [a0, a1] H = s24 call lim a0 a1 H := by kernel_rfl
theorem b37 (μ : Nat) (call : ACall) (lim : Nat) (a0 a1 : AV) (H : Heap) : evBody Try.prog call (pureOf (C μ)) lim fi37 [a0, a1] H = s37 call lim a0 a1 H := by kernel_rfl
theorem b23 (μ : Nat) (call : ACall) (lim : Nat) (a0 a1 : AV) (H : Heap) : evBody Try.prog call (pureOf (C μ)) lim fi23 [a0, a1] H = s23 call lim a0 a1 H := by kernel_rfl
theorem b30 (μ : Nat) (call : ACall) (lim : Nat) (a0 a1 a2 : AV) (H : Heap) : evBody Try.prog call (pureOf (C μ)) lim fi30 [a0, a1, a2] H = s30 call lim a0 a1 a2 H := by kernel_rfl
theorem b17 (μ : Nat) (call : ACall) (lim : Nat) (a0 a1 : AV) (H : Heap) : evBody Try.prog call (pureOf (C μ)) lim fi17 [a0, a1] H = s17 call lim a0 a1 H := by kernel_rfl
theorem b31 (μ : Nat) (call : ACall) (lim : Nat) (a0 a1 : AV) (H : Heap) : evBody Try.prog call (pureOf (C μ)) lim fi31 [a0, a1] H = s31 call lim a0 a1 H := by kernel_rfl
theorem b42 (μ : Nat) (call : ACall) (lim : Nat) (a0 a1 : AV) (H : Heap) : evBody Try.prog call (pureOf (C μ)) lim fi42 [a0, a1] H = s42 call lim a0 a1 H := by kernel_rfl
theorem b32 (μ : Nat) (call : ACall) (lim : Nat) (a0 a1 a2 : AV) (H : Heap) : evBody Try.prog call (pureOf (C μ)) lim fi32 [a0, a1, a2] H = s32 call lim a0 a1 a2 H := by kernel_rfl
theorem b11 (μ : Nat) (call : ACall) (lim : Nat) (a0 a1 a2 : AV) (H : Heap) : evBody Try.prog call (pureOf (C μ)) lim (fi11 μ) [a0, a1, a2] H = s11 call lim a0 a1 a2 H := by kernel_rfl
theorem b15 (μ : Nat) (call : ACall) (lim : Nat) (a0 : AV) (H : Heap) : evBody Try.prog call (pureOf (C μ)) lim fi15 [a0] H = s15 call lim a0 H := by kernel_rfl
theorem b3 (call : ACall) (lim : Nat) (a0 a1 a2 : AV) (H : Heap) : evBody Try.prog call (pureOf (C 2)) lim fi3 [a0, a1, a2] H = s3 call lim a0 a1 a2 H := by kernel_rfl
theorem b16 (μ : Nat) (call : ACall) (lim : Nat) (a0 a1 : AV) (H : Heap) : evBody Try.prog call (pureOf (C μ)) lim fi16 [a0, a1] H = s16 call lim a0 a1 H := by kernel_rfl
theorem b4 (call : ACall) (lim : Nat) (a0 a1 a2 : AV) (H : Heap) : evBody Try.prog call (pureOf (C 2)) lim fi4 [a0, a1, a2] H = s4 call lim a0 a1 a2 H := by kernel_rfl
theorem b20 (μ : Nat) (call : ACall) (lim : Nat) (a0 a1 : AV) (H : Heap) : evBody Try.prog call (pureOf (C μ)) lim fi20 [a0, a1] H = s20 call lim a0 a1 H := by kernel_rfl
theorem b5 (call : ACall) (lim : Nat) (a0 : AV) (H : Heap) : evBody Try.prog call (pureOf (C 2)) lim fi5 [a0] H = s5 call lim a0 H := by kernel_rfl
theorem b25 (μ : Nat) (call : ACall) (lim : Nat) (a0 a1 : AV) (H : Heap) : evBody Try.prog call (pureOf (C μ)) lim fi25 [a0, a1] H = s25 call lim a0 a1 H := by kernel_rfl
theorem b26 (μ : Nat) (call : ACall) (lim : Nat) (a0 a1 : AV) (H : Heap) : evBody Try.prog call (pureOf (C μ)) lim fi26 [a0, a1] H = s26 call lim a0 a1 H := by kernel_rfl
theorem b6 (call : ACall) (lim : Nat) (a0 : AV) (H : Heap) : evBody Try.prog call (pureOf (C 2)) lim fi6 [a0] H = s6 call lim a0 H := by kernel_rfl
theorem b7 (call : ACall) (lim : Nat) (a0 a1 : AV) (H : Heap) : evBody Try.prog call (pureOf (C 0)) lim fi7 [a0, a1] H = s7 call lim a0 a1 H := by kernel_rfl
end Go.Ev.Try
