import Derived.Test.YtkbimbpaaikkeaaT1
set_option linter.unusedSimpArgs false
set_option linter.unusedVariables false
/- That the evaluator comes to the plain texts. -/
namespace Go.Ev.Try
open Go Go.Ev Go.Proofs

theorem b17 (call : ACall) (lim : Nat) (a0 : AV) (H : Heap) : evBody Try.prog call (pureOf C) lim fi17 [a0] H = s17 call lim a0 H := by kernel_rfl
theorem b7 (call : ACall) (lim : Nat) (a0 : AV) (H : Heap) : evBody Try.prog call (pureOf C) lim fi7 [a0] H = s7 call lim a0 H := by kernel_rfl
theorem b37 (call : ACall) (lim : Nat) (a0 : AV) (H : Heap) : evBody Try.prog call (pureOf C) lim fi37 [a0] H = s37 call lim a0 H := by kernel_rfl
theorem b72 (call : ACall) (lim : Nat) (a0 : AV) (H : Heap) : evBody Try.prog call (pureOf C) lim fi72 [a0] H = s72 call lim a0 H := by kernel_rfl
theorem b78 (call : ACall) (lim : Nat) (a0 : AV) (H : Heap) : evBody Try.prog call (pureOf C) lim fi78 [a0] H = s78 call lim a0 H := by kernel_rfl
theorem b85 (call : ACall) (lim : Nat) (a0 : AV) (H : Heap) : evBody Try.prog call (pureOf C) lim fi85 [a0] H = s85 call lim a0 H := by kernel_rfl
theorem b84 (call : ACall) (lim : Nat) (a0 : AV) (H : Heap) : evBody Try.prog call (pureOf C) lim fi84 [a0] H = s84 call lim a0 H := by kernel_rfl
theorem b79 (call : ACall) (lim : Nat) (a0 : AV) (H : Heap) : evBody Try.prog call (pureOf C) lim fi79 [a0] H = s79 call lim a0 H := by kernel_rfl
theorem b81 (call : ACall) (lim : Nat) (a0 a1 a2 : AV) (H : Heap) : evBody Try.prog call (pureOf C) lim fi81 [a0, a1, a2] H = s81 call lim a0 a1 a2 H := by kernel_rfl
theorem b80 (call : ACall) (lim : Nat) (a0 a1 : AV) (H : Heap) : evBody Try.prog call (pureOf C) lim fi80 [a0, a1] H = s80 call lim a0 a1 H := by kernel_rfl
theorem b82 (call : ACall) (lim : Nat) (a0 : AV) (H : Heap) : evBody Try.prog call (pureOf C) lim fi82 [a0] H = s82 call lim a0 H := by kernel_rfl
theorem b73 (call : ACall) (lim : Nat) (a0 a1 : AV) (H : Heap) : evBody Try.prog call (pureOf C) lim fi73 [a0, a1] H = s73 call lim a0 a1 H := by kernel_rfl
theorem b83 (call : ACall) (lim : Nat) (a0 a1 : AV) (H : Heap) : evBody Try.prog call (pureOf C) lim fi83 [a0, a1] H = s83 call lim a0 a1 H := by kernel_rfl
theorem b74 (call : ACall) (lim : Nat) (a0 a1 : AV) (H : Heap) : evBody Try.prog call (pureOf C) lim fi74 [a0, a1] H = s74 call lim a0 a1 H := by kernel_rfl
theorem b60 (call : ACall) (lim : Nat) (a0 : AV) (H : Heap) : evBody Try.prog call (pureOf C) lim fi60 [a0] H = s60 call lim a0 H := by kernel_rfl
theorem b38 (call : ACall) (lim : Nat) (a0 a1 : AV) (H : Heap) : evBody Try.prog call (pureOf C) lim fi38 [a0, a1] H = s38 call lim a0 a1 H := by kernel_rfl
theorem b18 (call : ACall) (lim : Nat) (a0 : AV) (H : Heap) : evBody Try.prog call (pureOf C) lim fi18 [a0] H = s18 call lim a0 H := by kernel_rfl
theorem b35 (call : ACall) (lim : Nat) (a0 : AV) (H : Heap) : evBody Try.prog call (pureOf C) lim fi35 [a0] H = s35 call lim a0 H := by kernel_rfl
theorem b14 (call : ACall) (lim : Nat) (a0 : AV) (H : Heap) : evBody Try.prog call (pureOf C) lim fi14 [a0] H = s14 call lim a0 H := by kernel_rfl
theorem b39 (call : ACall) (lim : Nat) (a0 a1 : AV) (H : Heap) : evBody Try.prog call (pureOf C) lim fi39 [a0, a1] H = s39 call lim a0 a1 H := by kernel_rfl
theorem b40 (call : ACall) (lim : Nat) (a0 : AV) (H : Heap) : evBody Try.prog call (pureOf C) lim fi40 [a0] H = s40 call lim a0 H := by kernel_rfl
theorem b61 (call : ACall) (lim : Nat) (a0 a1 a2 : AV) (H : Heap) : evBody Try.prog call (pureOf C) lim fi61 [a0, a1, a2] H = s61 call lim a0 a1 a2 H := by kernel_rfl
theorem b42 (call : ACall) (lim : Nat) (a0 a1 : AV) (H : Heap) : evBody Try.prog call (pureOf C) lim fi42 [a0, a1] H = s42 call lim a0 a1 H := by kernel_rfl
theorem b23 (call : ACall) (lim : Nat) (a0 a1 : AV) (H : Heap) : evBody Try.prog call (pureOf C) lim fi23 [a0, a1] H = s23 call lim a0 a1 H := by kernel_rfl
theorem b24 (call : ACall) (lim : Nat) (a0 a1 : AV) (H : Heap) : evBody Try.prog call (pureOf C) lim fi24 [a0, a1] H = s24 call lim a0 a1 H := by kernel_rfl
theorem b25 (call : ACall) (lim : Nat) (a0 a1 : AV) (H : Heap) : evBody Try.prog call (pureOf C) lim fi25 [a0, a1] H = s25 call lim a0 a1 H := by kernel_rfl
theorem b48 (call : ACall) (lim : Nat) (a0 a1 a2 : AV) (H : Heap) : evBody Try.prog call (pureOf C) lim fi48 [a0, a1, a2] H = s48 call lim a0 a1 a2 H := by kernel_rfl
theorem b49 (call : ACall) (lim : Nat) (a0 a1 : AV) (H : Heap) : evBody Try.prog call (pureOf C) lim fi49 [a0, a1] H = s49 call lim a0 a1 H := by kernel_rfl
theorem b26 (call : ACall) (lim : Nat) (a0 a1 : AV) (H : Heap) : evBody Try.prog call (pureOf C) lim fi26 [a0, a1] H = s26 call lim a0 a1 H := by kernel_rfl
theorem b50 (call : ACall) (lim : Nat) (a0 a1 : AV) (H : Heap) : evBody Try.prog call (pureOf C) lim fi50 [a0, a1] H = s50 call lim a0 a1 H := by kernel_rfl
theorem b27 (call : ACall) (lim : Nat) (a0 a1 : AV) (H : Heap) : evBody Try.prog call (pureOf C) lim fi27 [a0, a1] H = s27 call lim a0 a1 H := by kernel_rfl
theorem b28 (call : ACall) (lim : Nat) (a0 a1 : AV) (H : Heap) : evBody Try.prog call (pureOf C) lim fi28 [a0, a1] H = s28 call lim a0 a1 H := by kernel_rfl
theorem b29 (call : ACall) (lim : Nat) (a0 a1 : AV) (H : Heap) : evBody Try.prog call (pureOf C) lim fi29 [a0, a1] H = s29 call lim a0 a1 H := by kernel_rfl
theorem b30 (call : ACall) (lim : Nat) (a0 : AV) (H : Heap) : evBody Try.prog call (pureOf C) lim fi30 [a0] H = s30 call lim a0 H := by kernel_rfl
theorem b51 (call : ACall) (lim : Nat) (a0 : AV) (H : Heap) : evBody Try.prog call (pureOf C) lim fi51 [a0] H = s51 call lim a0 H := by kernel_rfl
theorem b31 (call : ACall) (lim : Nat) (a0 a1 : AV) (H : Heap) : evBody Try.prog call (pureOf C) lim fi31 [a0, a1] H = s31 call lim a0 a1 H := by kernel_rfl
theorem b12 (call : ACall) (lim : Nat) (a0 a1 a2 : AV) (H : Heap) : evBody Try.prog call (pureOf C) lim fi12 [a0, a1, a2] H = s12 call lim a0 a1 a2 H := by kernel_rfl
theorem b75 (call : ACall) (lim : Nat) (a0 a1 a2 : AV) (H : Heap) : evBody Try.prog call (pureOf C) lim fi75 [a0, a1, a2] H = s75 call lim a0 a1 a2 H := by kernel_rfl
theorem b62 (call : ACall) (lim : Nat) (a0 a1 a2 : AV) (H : Heap) : evBody Try.prog call (pureOf C) lim fi62 [a0, a1, a2] H = s62 call lim a0 a1 a2 H := by kernel_rfl
theorem b63 (call : ACall) (lim : Nat) (a0 a1 a2 a3 : AV) (H : Heap) : evBody Try.prog call (pureOf C) lim fi63 [a0, a1, a2, a3] H = s63 call lim a0 a1 a2 a3 H := by kernel_rfl
theorem b64 (call : ACall) (lim : Nat) (a0 a1 a2 : AV) (H : Heap) : evBody Try.prog call (pureOf C) lim fi64 [a0, a1, a2] H = s64 call lim a0 a1 a2 H := by kernel_rfl
theorem b65 (call : ACall) (lim : Nat) (a0 : AV) (H : Heap) : evBody Try.prog call (pureOf C) lim fi65 [a0] H = s65 call lim a0 H := by kernel_rfl
theorem b41 (call : ACall) (lim : Nat) (a0 a1 a2 : AV) (H : Heap) : evBody Try.prog call (pureOf C) lim fi41 [a0, a1, a2] H = s41 call lim a0 a1 a2 H := by kernel_rfl
theorem b19 (call : ACall) (lim : Nat) (a0 a1 a2 a3 : AV) (H : Heap) : evBody Try.prog call (pureOf C) lim fi19 [a0, a1, a2, a3] H = s19 call lim a0 a1 a2 a3 H := by kernel_rfl
theorem b10 (call : ACall) (lim : Nat) (a0 a1 a2 : AV) (H : Heap) : evBody Try.prog call (pureOf C) lim fi10 [a0, a1, a2] H = s10 call lim a0 a1 a2 H := by kernel_rfl
theorem b8 (call : ACall) (lim : Nat) (H : Heap) : evBody Try.prog call (pureOf C) lim fi8 [] H = s8 call lim H := by kernel_rfl
theorem b43 (call : ACall) (lim : Nat) (a0 a1 : AV) (H : Heap) : evBody Try.prog call (pureOf C) lim fi43 [a0, a1] H = s43 call lim a0 a1 H := by kernel_rfl
theorem b76 (call : ACall) (lim : Nat) (a0 a1 a2 : AV) (H : Heap) : evBody Try.prog call (pureOf C) lim fi76 [a0, a1, a2] H = s76 call lim a0 a1 a2 H := by kernel_rfl
theorem b66 (call : ACall) (lim : Nat) (a0 a1 : AV) (H : Heap) : evBody Try.prog call (pureOf C) lim fi66 [a0, a1] H = s66 call lim a0 a1 H := by kernel_rfl
theorem b77 (call : ACall) (lim : Nat) (a0 : AV) (H : Heap) : evBody Try.prog call (pureOf C) lim fi77 [a0] H = s77 call lim a0 H := by kernel_rfl
theorem b67 (call : ACall) (lim : Nat) (a0 a1 a2 : AV) (H : Heap) : evBody Try.prog call (pureOf C) lim fi67 [a0, a1, a2] H = s67 call lim a0 a1 a2 H := by kernel_rfl
theorem b44 (call : ACall) (lim : Nat) (a0 a1 : AV) (H : Heap) : evBody Try.prog call (pureOf C) lim fi44 [a0, a1] H = s44 call lim a0 a1 H := by kernel_rfl
theorem b20 (call : ACall) (lim : Nat) (a0 : AV) (H : Heap) : evBody Try.prog call (pureOf C) lim fi20 [a0] H = s20 call lim a0 H := by kernel_rfl
theorem b36 (call : ACall) (lim : Nat) (a0 : AV) (H : Heap) : evBody Try.prog call (pureOf C) lim fi36 [a0] H = s36 call lim a0 H := by kernel_rfl
theorem b15 (call : ACall) (lim : Nat) (a0 : AV) (H : Heap) : evBody Try.prog call (pureOf C) lim fi15 [a0] H = s15 call lim a0 H := by kernel_rfl
theorem b21 (call : ACall) (lim : Nat) (a0 a1 a2 a3 : AV) (H : Heap) : evBody Try.prog call (pureOf C) lim fi21 [a0, a1, a2, a3] H = s21 call lim a0 a1 a2 a3 H := by kernel_rfl
theorem b68 (call : ACall) (lim : Nat) (a0 a1 : AV) (H : Heap) : evBody Try.prog call (pureOf C) lim fi68 [a0, a1] H = s68 call lim a0 a1 H := by kernel_rfl
theorem b45 (call : ACall) (lim : Nat) (a0 a1 a2 : AV) (H : Heap) : evBody Try.prog call (pureOf C) lim fi45 [a0, a1, a2] H = s45 call lim a0 a1 a2 H := by kernel_rfl
theorem b52 (call : ACall) (lim : Nat) (a0 : AV) (H : Heap) : evBody Try.prog call (pureOf C) lim fi52 [a0] H = s52 call lim a0 H := by kernel_rfl
theorem b53 (call : ACall) (lim : Nat) (a0 : AV) (H : Heap) : evBody Try.prog call (pureOf C) lim fi53 [a0] H = s53 call lim a0 H := by kernel_rfl
theorem b47 (call : ACall) (lim : Nat) (a0 : AV) (H : Heap) : evBody Try.prog call (pureOf C) lim fi47 [a0] H = s47 call lim a0 H := by kernel_rfl
theorem b32 (call : ACall) (lim : Nat) (a0 a1 : AV) (H : Heap) : evBody Try.prog call (pureOf C) lim fi32 [a0, a1] H = s32 call lim a0 a1 H := by kernel_rfl
theorem b33 (call : ACall) (lim : Nat) (a0 a1 : AV) (H : Heap) : evBody Try.prog call (pureOf C) lim fi33 [a0, a1] H = s33 call lim a0 a1 H := by kernel_rfl
theorem b54 (call : ACall) (lim : Nat) (a0 a1 : AV) (H : Heap) : evBody Try.prog call (pureOf C) lim fi54 [a0, a1] H = s54 call lim a0 a1 H := by kernel_rfl
theorem b55 (call : ACall) (lim : Nat) (a0 a1 : AV) (H : Heap) : evBody Try.prog call (pureOf C) lim fi55 [a0, a1] H = s55 call lim a0 a1 H := by kernel_rfl
theorem b70 (call : ACall) (lim : Nat) (a0 a1 : AV) (H : Heap) : evBody Try.prog call (pureOf C) lim fi70 [a0, a1] H = s70 call lim a0 a1 H := by kernel_rfl
theorem b56 (call : ACall) (lim : Nat) (a0 a1 : AV) (H : Heap) : evBody Try.prog call (pureOf C) lim fi56 [a0, a1] H = s56 call lim a0 a1 H := by kernel_rfl
theorem b71 (call : ACall) (lim : Nat) (a0 : AV) (H : Heap) : evBody Try.prog call (pureOf C) lim fi71 [a0] H = s71 call lim a0 H := by kernel_rfl
theorem b57 (call : ACall) (lim : Nat) (a0 a1 : AV) (H : Heap) : evBody Try.prog call (pureOf C) lim fi57 [a0, a1] H = s57 call lim a0 a1 H := by kernel_rfl
theorem b58 (call : ACall) (lim : Nat) (a0 a1 : AV) (H : Heap) : evBody Try.prog call (pureOf C) lim fi58 [a0, a1] H = s58 call lim a0 a1 H := by kernel_rfl
theorem b59 (call : ACall) (lim : Nat) (a0 : AV) (H : Heap) : evBody Try.prog call (pureOf C) lim fi59 [a0] H = s59 call lim a0 H := by kernel_rfl
theorem b34 (call : ACall) (lim : Nat) (a0 a1 a2 : AV) (H : Heap) : evBody Try.prog call (pureOf C) lim fi34 [a0, a1, a2] H = s34 call lim a0 a1 a2 H := by kernel_rfl
theorem b13 (call : ACall) (lim : Nat) (a0 a1 a2 : AV) (H : Heap) : evBody Try.prog call (pureOf C) lim fi13 [a0, a1, a2] H = s13 call lim a0 a1 a2 H := by kernel_rfl
theorem b69 (call : ACall) (lim : Nat) (a0 a1 a2 : AV) (H : Heap) : evBody Try.prog call (pureOf C) lim fi69 [a0, a1, a2] H = s69 call lim a0 a1 a2 H := by kernel_rfl
theorem b46 (call : ACall) (lim : Nat) (a0 a1 a2 : AV) (H : Heap) : evBody Try.prog call (pureOf C) lim fi46 [a0, a1, a2] H = s46 call lim a0 a1 a2 H := by kernel_rfl
theorem b22 (call : ACall) (lim : Nat) (a0 : AV) (H : Heap) : evBody Try.prog call (pureOf C) lim fi22 [a0] H = s22 call lim a0 H := by kernel_rfl
theorem b11 (call : ACall) (lim : Nat) (a0 a1 a2 : AV) (H : Heap) : evBody Try.prog call (pureOf C) lim fi11 [a0, a1, a2] H = s11 call lim a0 a1 a2 H := by kernel_rfl
theorem b16 (call : ACall) (lim : Nat) (a0 a1 : AV) (H : Heap) : evBody Try.prog call (pureOf C) lim fi16 [a0, a1] H = s16 call lim a0 a1 H := by kernel_rfl
theorem b9 (call : ACall) (lim : Nat) (a0 a1 : AV) (H : Heap) : evBody Try.prog call (pureOf C) lim fi9 [a0, a1] H = s9 call lim a0 a1 H := by kernel_rfl
theorem b3 (call : ACall) (lim : Nat) (a0 a1 a2 : AV) (H : Heap) : evBody Try.prog call (pureOf C) lim fi3 [a0, a1, a2] H = s3 call lim a0 a1 a2 H := by kernel_rfl
theorem b4 (call : ACall) (lim : Nat) (a0 a1 a2 : AV) (H : Heap) : evBody Try.prog call (pureOf C) lim fi4 [a0, a1, a2] H = s4 call lim a0 a1 a2 H := by kernel_rfl
theorem b5 (call : ACall) (lim : Nat) (a0 : AV) (H : Heap) : evBody Try.prog call (pureOf C) lim fi5 [a0] H = s5 call lim a0 H := by kernel_rfl
end Go.Ev.Try
