import Derived.Test.YtfamldpmpjdlpaaProg
import Derived.Test.YtfamldpmpjdlpaaE2
import Derived.KernelRfl
set_option linter.unusedSimpArgs false
set_option linter.unusedVariables false
/- The functions' plain texts, written by a program (gen.py) out of the loaded program. -/
set_option linter.unusedVariables false
namespace Go.Ev.Try
open Go Go.Ev Go.Proofs
/-! #### rushlight/rushlightlaw08.Few -/
noncomputable def fi8 : FI := ⟨51, 0, [.tmp 2], (.seq (rgn Try.f8.body 0) (.seq (.seq (rgn Try.f8.body 1) (.cond (.tmp 7) (.seq (rgn Try.f8.body 2) .ret) .skip)) (.seq (.seq (rgn Try.f8.body 3) (.block 0 (.loop ⟨[0, 3], some [2], [(0, [])]⟩ (.seq (.seq (rgn Try.f8.body 4) (.cond (.tmp 11) .skip (.exit 0))) (.seq (.block 1 (.seq (.seq (rgn Try.f8.body 6) (.cond (.tmp 29) (.seq (rgn Try.f8.body 7) .ret) .skip)) (.seq (rgn Try.f8.body 8) (.block 2 (.loop ⟨[0, 3, 4], some [2], [(2, [0, 3])]⟩ (.seq (.seq (rgn Try.f8.body 9) (.cond (.tmp 37) .skip (.exit 2))) (.seq (.block 3 (.seq (rgn Try.f8.body 11) (.cond (.tmp 50) (.seq (rgn Try.f8.body 12) .ret) .skip))) (rgn Try.f8.body 10)))))))) (rgn Try.f8.body 5)))))) (.seq (rgn Try.f8.body 13) .ret))))⟩
theorem fits8 : Fits Try.prog 8 fi8 Try.f8 := ⟨by kernel_rfl, by kernel_rfl, by kernel_rfl, by kernel_rfl, by kernel_rfl⟩
set_option maxRecDepth 100000 in
/-- A round: what is kept: [0, 3, 4]. -/
noncomputable def s8.l0 (call : ACall) (lim : Nat) (v20 : List AV) (h21 : Heap) : Option Res :=
 pu (ixS 5 (v20.getD 0 .junk) (v20.getD 1 .junk)) h21 fun r22 =>
 pu (fa 4 r22.1) r22.2 fun r23 =>
 pu (ld r23.2 r23.1) r23.2 fun r24 =>
 pu (lnS r24.1) r24.2 fun r25 =>
 pu (abin Try.prog .lss 3 (v20.getD 2 .junk) r25.1) r25.2 fun r26 =>
 cn (asB r26.1)
 (pu (ixS 5 (v20.getD 0 .junk) (v20.getD 1 .junk)) r26.2 fun r27 =>
 pu (fa 4 r27.1) r27.2 fun r28 =>
 pu (ld r28.2 r28.1) r28.2 fun r29 =>
 pu (ixS 3 r29.1 (v20.getD 2 .junk)) r29.2 fun r30 =>
 pu (fa 0 r30.1) r30.2 fun r31 =>
 pu (ld r31.2 r31.1) r31.2 fun r32 =>
 pu (lnStr r32.1) r32.2 fun r33 =>
 pu (abin Try.prog .gtr 3 r33.1 (.d (.int .i64 100))) r33.2 fun r34 =>
 cn (asB r34.1)
 (some (.ret, [.d (.bool false)], r34.2))
 (pu (abin Try.prog .add 3 (v20.getD 2 .junk) (.d (.int .i64 1))) r34.2 fun r35 =>
 some (.normal, [(v20.getD 0 .junk), (v20.getD 1 .junk), r35.1], r35.2)))
 (some (.exit 2, [(v20.getD 0 .junk), (v20.getD 1 .junk)], r26.2))
set_option maxRecDepth 100000 in
/-- A round: what is kept: [0, 3]. -/
noncomputable def s8.l1 (call : ACall) (lim : Nat) (v3 : List AV) (h4 : Heap) : Option Res :=
 pu (lnS (v3.getD 0 .junk)) h4 fun r5 =>
 pu (abin Try.prog .lss 3 (v3.getD 1 .junk) r5.1) r5.2 fun r6 =>
 cn (asB r6.1)
 (pu (ixS 5 (v3.getD 0 .junk) (v3.getD 1 .junk)) r6.2 fun r7 =>
 pu (fa 3 r7.1) r7.2 fun r8 =>
 pu (ld r8.2 r8.1) r8.2 fun r9 =>
 pu (lnStr r9.1) r9.2 fun r10 =>
 pu (abin Try.prog .gtr 3 r10.1 (.d (.int .i64 100))) r10.2 fun r11 =>
 gd (yv r11.1) false (some ((v3.getD 0 .junk), r11.2)) r11.2 fun r12 =>
 gd (yv r11.1) false (some ((v3.getD 1 .junk), r12.2)) r12.2 fun r13 =>
 gd (yv r11.1) false (pm (ixS 5 r12.1 r13.1) r13.2) r13.2 fun r14 =>
 gd (yv r11.1) false (pm (fa 4 r14.1) r14.2) r14.2 fun r15 =>
 gd (yv r11.1) false (pm (ld r15.2 r15.1) r15.2) r15.2 fun r16 =>
 gd (yv r11.1) false (pm (lnS r16.1) r16.2) r16.2 fun r17 =>
 gd (yv r11.1) false (pm (abin Try.prog .gtr 3 r17.1 (.d (.int .i64 12))) r17.2) r17.2 fun r18 =>
 bi (pk r11.1 (.d (.bool true)) r18.1 r18.2) fun r19 =>
 cn (asB r19.1)
 (some (.ret, [.d (.bool false)], r19.2))
 (lp (s8.l0 call lim) [(v3.getD 0 .junk), (v3.getD 1 .junk), .d (.int .i64 0)] r19.2 fun j36 =>
 dsp j36.1 none (some (.ret, [(gv j36 0)], j36.2.2)) [(2, pu (abin Try.prog .add 3 (gv j36 1) (.d (.int .i64 1))) j36.2.2 fun r37 =>
 some (.normal, [(gv j36 0), r37.1], r37.2))]))
 (some (.exit 0, [], r6.2))
set_option maxRecDepth 100000 in
noncomputable def s8 (call : ACall) (lim : Nat) (a0 : AV) (H : Heap) : Option Res :=
 pu (lnS a0) H fun r1 =>
 pu (abin Try.prog .gtr 3 r1.1 (.d (.int .i64 30))) r1.2 fun r2 =>
 cn (asB r2.1)
 (rt (.d (.bool false)) r2.2)
 (lp (s8.l1 call lim) [a0, .d (.int .i64 0)] r2.2 fun j38 =>
 dsp j38.1 none (rt (gv j38 0) j38.2.2) [(0, rt (.d (.bool true)) j38.2.2)])

/-! #### rushlight/kind.New -/
noncomputable def fi10 : FI := ⟨9, 2, [.tmp 0], (.seq (rgn Try.f10.body 0) (.seq (rgn Try.f10.body 1) .ret))⟩
theorem fits10 : Fits Try.prog 10 fi10 Try.f10 := ⟨by kernel_rfl, by kernel_rfl, by kernel_rfl, by kernel_rfl, by kernel_rfl⟩
set_option maxRecDepth 100000 in
noncomputable def s10 (call : ACall) (lim : Nat) (H : Heap) : Option Res :=
 pu (bld [(0, 5), (5, 1), (6, 1), (7, 1)] [.d (.int .i64 0), .d (.int .i64 0), .d (.int .i64 0), .d (.str ⟨#[]⟩), .d (.seq true 0 []), .d (.int .i64 0), .d (.int .i64 0), .d (.bool false)] []) H fun r1 =>
 pu (bld [(0, 1), (1, 1), (2, 1), (3, 1), (4, 1)] [.d (.int .i64 0), .d (.int .i64 0), .d (.int .i64 0), .d (.str ⟨#[]⟩), .d (.seq true 0 [])] [(0, .d (.int .i64 1))]) r1.2 fun r2 =>
 pu (bld [(0, 5), (5, 1), (6, 1), (7, 1)] [.d (.int .i64 0), .d (.int .i64 0), .d (.int .i64 0), .d (.str ⟨#[]⟩), .d (.seq true 0 []), .d (.int .i64 0), .d (.int .i64 0), .d (.bool false)] [(0, r2.1), (1, .d (.int .i64 4)), (2, .d (.int .i64 4))]) r2.2 fun r3 =>
 pu (bld [(0, 1), (1, 1), (2, 1), (3, 1), (4, 1)] [.d (.int .i64 0), .d (.int .i64 0), .d (.int .i64 0), .d (.str ⟨#[]⟩), .d (.seq true 0 [])] [(0, .d (.int .i64 2))]) r3.2 fun r4 =>
 pu (bld [(0, 5), (5, 1), (6, 1), (7, 1)] [.d (.int .i64 0), .d (.int .i64 0), .d (.int .i64 0), .d (.str ⟨#[]⟩), .d (.seq true 0 []), .d (.int .i64 0), .d (.int .i64 0), .d (.bool false)] [(0, r4.1), (1, .d (.int .i64 1)), (2, .d (.int .i64 1))]) r4.2 fun r5 =>
 bi (bldS 8 3 [.d (.int .i64 0), .d (.int .i64 0), .d (.int .i64 0), .d (.str ⟨#[]⟩), .d (.seq true 0 []), .d (.int .i64 0), .d (.int .i64 0), .d (.bool false)] [(0, r1.1), (1, r3.1), (2, r5.1)] r5.2) fun r6 =>
 pu (bld [(0, 1)] [.d (.seq true 0 [])] [(0, r6.1)]) r6.2 fun r7 =>
 bi (bx r7.1 r7.2) fun r8 =>
 rt r8.1 r8.2

/-! #### (*rushlight/kind.Table).named$1 -/
noncomputable def fi45 : FI := ⟨15, 0, [.tmp 3], (.seq (rgn Try.f45.body 0) (.seq (rgn Try.f45.body 1) .ret))⟩
theorem fits45 : Fits Try.prog 45 fi45 Try.f45 := ⟨by kernel_rfl, by kernel_rfl, by kernel_rfl, by kernel_rfl, by kernel_rfl⟩
set_option maxRecDepth 100000 in
noncomputable def s45 (call : ACall) (lim : Nat) (a0 a1 : AV) (H : Heap) : Option Res :=
 bi (bx a0 H) fun r1 =>
 pu (fa 0 r1.1) r1.2 fun r2 =>
 pu (fa 0 r2.1) r2.2 fun r3 =>
 pu (ld r3.2 r3.1) r3.2 fun r4 =>
 pu (abin Try.prog .eql 3 r4.1 (.d (.int .i64 5))) r4.2 fun r5 =>
 gd (yv r5.1) true (pm (fa 0 r1.1) r5.2) r5.2 fun r6 =>
 gd (yv r5.1) true (pm (fa 3 r6.1) r6.2) r6.2 fun r7 =>
 gd (yv r5.1) true (pm (ld r7.2 r7.1) r7.2) r7.2 fun r8 =>
 gd (yv r5.1) true (pm (ld r8.2 a1) r8.2) r8.2 fun r9 =>
 gd (yv r5.1) true (pm (abin Try.prog .eql 9 r8.1 r9.1) r9.2) r9.2 fun r10 =>
 bi (pk r5.1 r10.1 (.d (.bool false)) r10.2) fun r11 =>
 rt r11.1 r11.2

/-! #### slices.IndexFunc[[]rushlight/kind.known,rushlight/kind.known] -/
noncomputable def fi43 : FI := ⟨19, 0, [.tmp 4], (.seq (rgn Try.f43.body 0) (.seq (.seq (rgn Try.f43.body 1) (.block 0 (.loop ⟨[0, 1, 7, 8], some [4], [(0, [])]⟩ (.seq (rgn Try.f43.body 2) (.seq (.cond (.tmp 9) .skip (.exit 0)) (.seq (.block 1 (.seq (rgn Try.f43.body 3) (.seq (rgn Try.f43.body 4) (.cond (.tmp 16) (.seq (rgn Try.f43.body 5) .ret) .skip)))) (rgn Try.f43.body 6))))))) (.seq (rgn Try.f43.body 7) .ret)))⟩
theorem fits43 : Fits Try.prog 43 fi43 Try.f43 := ⟨by kernel_rfl, by kernel_rfl, by kernel_rfl, by kernel_rfl, by kernel_rfl⟩
set_option maxRecDepth 100000 in
/-- A round: what is kept: [0, 1, 7, 8]. -/
noncomputable def s43.l0 (call : ACall) (lim : Nat) (v2 : List AV) (h3 : Heap) : Option Res :=
 pu (abin Try.prog .lss 3 (v2.getD 3 .junk) (v2.getD 2 .junk)) h3 fun r4 =>
 cn (asB r4.1)
 (pu (ixS 8 (v2.getD 0 .junk) (v2.getD 3 .junk)) r4.2 fun r5 =>
 pu (ldA 8 r5.2 r5.1) r5.2 fun r6 =>
 bi (cal call (v2.getD 1 .junk) [r6.1] r6.2) fun r7 =>
 cn (asB r7.1)
 (some (.ret, [(v2.getD 3 .junk)], r7.2))
 (pu (abin Try.prog .add 3 (v2.getD 3 .junk) (.d (.int .i64 1))) r7.2 fun r8 =>
 some (.normal, [(v2.getD 0 .junk), (v2.getD 1 .junk), (v2.getD 2 .junk), r8.1], r8.2)))
 (some (.exit 0, [], r4.2))
set_option maxRecDepth 100000 in
noncomputable def s43 (call : ACall) (lim : Nat) (a0 a1 : AV) (H : Heap) : Option Res :=
 pu (lnS a0) H fun r1 =>
 lp (s43.l0 call lim) [a0, a1, r1.1, .d (.int .i64 0)] r1.2 fun j9 =>
 dsp j9.1 none (rt (gv j9 0) j9.2.2) [(0, rt (.d (.int .i64 (-1))) j9.2.2)]

/-! #### (*rushlight/kind.Table).named -/
noncomputable def fi35 : FI := ⟨11, 0, [.tmp 4], (.seq (rgn Try.f35.body 0) (.seq (rgn Try.f35.body 1) .ret))⟩
theorem fits35 : Fits Try.prog 35 fi35 Try.f35 := ⟨by kernel_rfl, by kernel_rfl, by kernel_rfl, by kernel_rfl, by kernel_rfl⟩
set_option maxRecDepth 100000 in
noncomputable def s35 (call : ACall) (lim : Nat) (a0 a1 : AV) (H : Heap) : Option Res :=
 bi (bx a1 H) fun r1 =>
 pu (anil a0) r1.2 fun r2 =>
 pu (fa 0 r2.1) r2.2 fun r3 =>
 pu (ld r3.2 r3.1) r3.2 fun r4 =>
 bi (call 43 [r4.1, .fn 45 [r1.1]] r4.2) fun r5 =>
 rt r5.1 r5.2

/-! #### (*rushlight/kind.Table).put$1 -/
noncomputable def fi44 : FI := ⟨35, 0, [.tmp 3], (.seq (rgn Try.f44.body 0) (.seq (rgn Try.f44.body 1) .ret))⟩
theorem fits44 : Fits Try.prog 44 fi44 Try.f44 := ⟨by kernel_rfl, by kernel_rfl, by kernel_rfl, by kernel_rfl, by kernel_rfl⟩
set_option maxRecDepth 100000 in
noncomputable def s44 (call : ACall) (lim : Nat) (a0 a1 : AV) (H : Heap) : Option Res :=
 bi (bx a0 H) fun r1 =>
 pu (fa 0 r1.1) r1.2 fun r2 =>
 pu (fa 0 r2.1) r2.2 fun r3 =>
 pu (ld r3.2 r3.1) r3.2 fun r4 =>
 pu (fa 0 a1) r4.2 fun r5 =>
 pu (fa 0 r5.1) r5.2 fun r6 =>
 pu (ld r6.2 r6.1) r6.2 fun r7 =>
 pu (abin Try.prog .eql 3 r4.1 r7.1) r7.2 fun r8 =>
 gd (yv r8.1) true (pm (fa 0 r1.1) r8.2) r8.2 fun r9 =>
 gd (yv r8.1) true (pm (fa 1 r9.1) r9.2) r9.2 fun r10 =>
 gd (yv r8.1) true (pm (ld r10.2 r10.1) r10.2) r10.2 fun r11 =>
 gd (yv r8.1) true (pm (fa 0 a1) r11.2) r11.2 fun r12 =>
 gd (yv r8.1) true (pm (fa 1 r12.1) r12.2) r12.2 fun r13 =>
 gd (yv r8.1) true (pm (ld r13.2 r13.1) r13.2) r13.2 fun r14 =>
 gd (yv r8.1) true (pm (abin Try.prog .eql 3 r11.1 r14.1) r14.2) r14.2 fun r15 =>
 bi (pk r8.1 r15.1 (.d (.bool false)) r15.2) fun r16 =>
 gd (yv r16.1) true (pm (fa 0 r1.1) r16.2) r16.2 fun r17 =>
 gd (yv r16.1) true (pm (fa 2 r17.1) r17.2) r17.2 fun r18 =>
 gd (yv r16.1) true (pm (ld r18.2 r18.1) r18.2) r18.2 fun r19 =>
 gd (yv r16.1) true (pm (fa 0 a1) r19.2) r19.2 fun r20 =>
 gd (yv r16.1) true (pm (fa 2 r20.1) r20.2) r20.2 fun r21 =>
 gd (yv r16.1) true (pm (ld r21.2 r21.1) r21.2) r21.2 fun r22 =>
 gd (yv r16.1) true (pm (abin Try.prog .eql 3 r19.1 r22.1) r22.2) r22.2 fun r23 =>
 bi (pk r16.1 r23.1 (.d (.bool false)) r23.2) fun r24 =>
 gd (yv r24.1) true (pm (fa 0 a1) r24.2) r24.2 fun r25 =>
 gd (yv r24.1) true (pm (fa 0 r25.1) r25.2) r25.2 fun r26 =>
 gd (yv r24.1) true (pm (ld r26.2 r26.1) r26.2) r26.2 fun r27 =>
 gd (yv r24.1) true (pm (abin Try.prog .neq 3 r27.1 (.d (.int .i64 5))) r27.2) r27.2 fun r28 =>
 bi (pk r24.1 r28.1 (.d (.bool false)) r28.2) fun r29 =>
 rt r29.1 r29.2

/-! #### (*rushlight/kind.Table).put -/
noncomputable def fi34 : FI := ⟨40, 2, [.tmp 4, .tmp 5], (.seq (rgn Try.f34.body 0) (.seq (rgn Try.f34.body 1) (.seq (.block 0 (.seq (rgn Try.f34.body 2) (.cond (.tmp 13) (.seq (rgn Try.f34.body 3) .ret) (.seq (rgn Try.f34.body 4) (.cond (.tmp 17) (.seq (rgn Try.f34.body 5) .ret) .skip))))) (.seq (rgn Try.f34.body 6) (.seq (rgn Try.f34.body 7) .ret)))))⟩
theorem fits34 : Fits Try.prog 34 fi34 Try.f34 := ⟨by kernel_rfl, by kernel_rfl, by kernel_rfl, by kernel_rfl, by kernel_rfl⟩
set_option maxRecDepth 100000 in
noncomputable def s34 (call : ACall) (lim : Nat) (a0 a1 : AV) (H : Heap) : Option Res :=
 bi (bx a1 H) fun r1 =>
 pu (anil a0) r1.2 fun r2 =>
 pu (fa 0 r2.1) r2.2 fun r3 =>
 pu (ld r3.2 r3.1) r3.2 fun r4 =>
 bi (call 43 [r4.1, .fn 44 [r1.1]] r4.2) fun r5 =>
 pu (abin Try.prog .geq 3 r5.1 (.d (.int .i64 0))) r5.2 fun r6 =>
 cn (asB r6.1)
 (rt (.tup [r5.1, .d (.int .i64 0)]) r6.2)
 (pu (anil a0) r6.2 fun r7 =>
 pu (fa 0 r7.1) r7.2 fun r8 =>
 pu (ld r8.2 r8.1) r8.2 fun r9 =>
 pu (lnS r9.1) r9.2 fun r10 =>
 pu (abin Try.prog .geq 3 r10.1 (.d (.int .i64 400))) r10.2 fun r11 =>
 cn (asB r11.1)
 (rt (.tup [.d (.int .i64 0), .d (.int .i64 8)]) r11.2)
 (pu (anil a0) r11.2 fun r12 =>
 pu (fa 0 r12.1) r12.2 fun r13 =>
 pu (ld r13.2 r13.1) r13.2 fun r14 =>
 pu (ldA 8 r14.2 r1.1) r14.2 fun r15 =>
 bi (bldS 8 1 [.d (.int .i64 0), .d (.int .i64 0), .d (.int .i64 0), .d (.str ⟨#[]⟩), .d (.seq true 0 []), .d (.int .i64 0), .d (.int .i64 0), .d (.bool false)] [(0, r15.1)] r15.2) fun r16 =>
 ck [again lim (pm (ld r16.2 r13.1) r16.2) r14.1 r16.2] (
 bi (app 8 88 lim r16.2 r14.1 (elS 8 r16.2 r16.1)) fun r17 =>
 pu (anil a0) r17.2 fun r18 =>
 pu (fa 0 r18.1) r18.2 fun r19 =>
 bi (stA 1 lim r19.2 r19.1 r17.1) fun r20 =>
 pu (anil a0) r20.2 fun r21 =>
 pu (fa 0 r21.1) r21.2 fun r22 =>
 pu (ld r22.2 r22.1) r22.2 fun r23 =>
 pu (lnS r23.1) r23.2 fun r24 =>
 pu (abin Try.prog .sub 3 r24.1 (.d (.int .i64 1))) r24.2 fun r25 =>
 rt (.tup [r25.1, .d (.int .i64 0)]) r25.2)))

/-! #### (*rushlight/kind.Table).Open -/
noncomputable def fi27 : FI := ⟨25, 2, [.tmp 4, .tmp 5], (.seq (rgn Try.f27.body 0) (.seq (.block 0 (.seq (rgn Try.f27.body 1) (.cond (.tmp 6) (.seq (rgn Try.f27.body 2) .ret) (.seq (rgn Try.f27.body 3) (.cond (.tmp 13) (.seq (rgn Try.f27.body 4) .ret) .skip))))) (.seq (rgn Try.f27.body 5) .ret)))⟩
theorem fits27 : Fits Try.prog 27 fi27 Try.f27 := ⟨by kernel_rfl, by kernel_rfl, by kernel_rfl, by kernel_rfl, by kernel_rfl⟩
set_option maxRecDepth 100000 in
noncomputable def s27 (call : ACall) (lim : Nat) (a0 a1 : AV) (H : Heap) : Option Res :=
 pu (abin Try.prog .eql 25 a0 .nilptr) H fun r1 =>
 gd (yv r1.1) false (some (a1, r1.2)) r1.2 fun r2 =>
 gd (yv r1.1) false (pm (abin Try.prog .eql 9 r2.1 (.d (.str ⟨#[]⟩))) r2.2) r2.2 fun r3 =>
 bi (pk r1.1 (.d (.bool true)) r3.1 r3.2) fun r4 =>
 cn (asB r4.1)
 (rt (.tup [.d (.int .i64 0), .d (.int .i64 1)]) r4.2)
 (bi (call 35 [a0, a1] r4.2) fun r5 =>
 pu (abin Try.prog .geq 3 r5.1 (.d (.int .i64 0))) r5.2 fun r6 =>
 cn (asB r6.1)
 (rt (.tup [.d (.int .i64 0), .d (.int .i64 6)]) r6.2)
 (pu (bld [(0, 1), (1, 1), (2, 1), (3, 1), (4, 1)] [.d (.int .i64 0), .d (.int .i64 0), .d (.int .i64 0), .d (.str ⟨#[]⟩), .d (.seq true 0 [])] [(0, .d (.int .i64 5)), (3, a1)]) r6.2 fun r7 =>
 pu (bld [(0, 5), (5, 1), (6, 1), (7, 1)] [.d (.int .i64 0), .d (.int .i64 0), .d (.int .i64 0), .d (.str ⟨#[]⟩), .d (.seq true 0 []), .d (.int .i64 0), .d (.int .i64 0), .d (.bool false)] [(0, r7.1), (3, .d (.bool true))]) r7.2 fun r8 =>
 bi (call 34 [a0, r8.1] r8.2) fun r9 =>
 pu (aextract r9.1 0) r9.2 fun r10 =>
 pu (aextract r9.1 1) r10.2 fun r11 =>
 rt (.tup [r10.1, r11.1]) r11.2))

/-! #### slices.IndexFunc[[]rushlight/api.Field,rushlight/api.Field] -/
noncomputable def fi51 : FI := ⟨19, 0, [.tmp 4], (.seq (rgn Try.f51.body 0) (.seq (.seq (rgn Try.f51.body 1) (.block 0 (.loop ⟨[0, 1, 7, 8], some [4], [(0, [])]⟩ (.seq (rgn Try.f51.body 2) (.seq (.cond (.tmp 9) .skip (.exit 0)) (.seq (.block 1 (.seq (rgn Try.f51.body 3) (.seq (rgn Try.f51.body 4) (.cond (.tmp 16) (.seq (rgn Try.f51.body 5) .ret) .skip)))) (rgn Try.f51.body 6))))))) (.seq (rgn Try.f51.body 7) .ret)))⟩
theorem fits51 : Fits Try.prog 51 fi51 Try.f51 := ⟨by kernel_rfl, by kernel_rfl, by kernel_rfl, by kernel_rfl, by kernel_rfl⟩
set_option maxRecDepth 100000 in
/-- A round: what is kept: [0, 1, 7, 8]. -/
noncomputable def s51.l0 (call : ACall) (lim : Nat) (v2 : List AV) (h3 : Heap) : Option Res :=
 pu (abin Try.prog .lss 3 (v2.getD 3 .junk) (v2.getD 2 .junk)) h3 fun r4 =>
 cn (asB r4.1)
 (pu (ixS 3 (v2.getD 0 .junk) (v2.getD 3 .junk)) r4.2 fun r5 =>
 pu (ldA 3 r5.2 r5.1) r5.2 fun r6 =>
 bi (cal call (v2.getD 1 .junk) [r6.1] r6.2) fun r7 =>
 cn (asB r7.1)
 (some (.ret, [(v2.getD 3 .junk)], r7.2))
 (pu (abin Try.prog .add 3 (v2.getD 3 .junk) (.d (.int .i64 1))) r7.2 fun r8 =>
 some (.normal, [(v2.getD 0 .junk), (v2.getD 1 .junk), (v2.getD 2 .junk), r8.1], r8.2)))
 (some (.exit 0, [], r4.2))
set_option maxRecDepth 100000 in
noncomputable def s51 (call : ACall) (lim : Nat) (a0 a1 : AV) (H : Heap) : Option Res :=
 pu (lnS a0) H fun r1 =>
 lp (s51.l0 call lim) [a0, a1, r1.1, .d (.int .i64 0)] r1.2 fun j9 =>
 dsp j9.1 none (rt (gv j9 0) j9.2.2) [(0, rt (.d (.int .i64 (-1))) j9.2.2)]

/-! #### slices.ContainsFunc[[]rushlight/api.Field,rushlight/api.Field] -/
noncomputable def fi46 : FI := ⟨9, 0, [.tmp 4], (.seq (rgn Try.f46.body 0) (.seq (rgn Try.f46.body 1) .ret))⟩
theorem fits46 : Fits Try.prog 46 fi46 Try.f46 := ⟨by kernel_rfl, by kernel_rfl, by kernel_rfl, by kernel_rfl, by kernel_rfl⟩
set_option maxRecDepth 100000 in
noncomputable def s46 (call : ACall) (lim : Nat) (a0 a1 : AV) (H : Heap) : Option Res :=
 bi (call 51 [a0, a1] H) fun r1 =>
 pu (abin Try.prog .geq 3 r1.1 (.d (.int .i64 0))) r1.2 fun r2 =>
 rt r2.1 r2.2

/-! #### (*rushlight/kind.Table).may$1 -/
noncomputable def fi47 : FI := ⟨6, 0, [.tmp 2], (.seq (rgn Try.f47.body 0) (.seq (rgn Try.f47.body 1) .ret))⟩
theorem fits47 : Fits Try.prog 47 fi47 Try.f47 := ⟨by kernel_rfl, by kernel_rfl, by kernel_rfl, by kernel_rfl, by kernel_rfl⟩
set_option maxRecDepth 100000 in
noncomputable def s47 (call : ACall) (lim : Nat) (a0 : AV) (H : Heap) : Option Res :=
 bi (bx a0 H) fun r1 =>
 pu (fa 0 r1.1) r1.2 fun r2 =>
 pu (ld r2.2 r2.1) r2.2 fun r3 =>
 pu (abin Try.prog .eql 9 r3.1 (.d (.str ⟨#[]⟩))) r3.2 fun r4 =>
 rt r4.1 r4.2

/-! #### (*rushlight/kind.Table).has -/
noncomputable def fi33 : FI := ⟨20, 0, [.tmp 4], (.seq (rgn Try.f33.body 0) (.seq (rgn Try.f33.body 1) .ret))⟩
theorem fits33 : Fits Try.prog 33 fi33 Try.f33 := ⟨by kernel_rfl, by kernel_rfl, by kernel_rfl, by kernel_rfl, by kernel_rfl⟩
set_option maxRecDepth 100000 in
noncomputable def s33 (call : ACall) (lim : Nat) (a0 a1 : AV) (H : Heap) : Option Res :=
 pu (abin Try.prog .neq 25 a0 .nilptr) H fun r1 =>
 gd (yv r1.1) true (some (a1, r1.2)) r1.2 fun r2 =>
 gd (yv r1.1) true (pm (abin Try.prog .geq 3 r2.1 (.d (.int .i64 0))) r2.2) r2.2 fun r3 =>
 bi (pk r1.1 r3.1 (.d (.bool false)) r3.2) fun r4 =>
 gd (yv r4.1) true (some (a1, r4.2)) r4.2 fun r5 =>
 gd (yv r4.1) true (some (a0, r5.2)) r5.2 fun r6 =>
 gd (yv r4.1) true (pm (anil r6.1) r6.2) r6.2 fun r7 =>
 gd (yv r4.1) true (pm (fa 0 r7.1) r7.2) r7.2 fun r8 =>
 gd (yv r4.1) true (pm (ld r8.2 r8.1) r8.2) r8.2 fun r9 =>
 gd (yv r4.1) true (pm (lnS r9.1) r9.2) r9.2 fun r10 =>
 gd (yv r4.1) true (pm (abin Try.prog .lss 3 r5.1 r10.1) r10.2) r10.2 fun r11 =>
 bi (pk r4.1 r11.1 (.d (.bool false)) r11.2) fun r12 =>
 rt r12.1 r12.2

/-! #### (*rushlight/kind.Table).may$2 -/
noncomputable def fi48 : FI := ⟨9, 0, [.tmp 3], (.seq (rgn Try.f48.body 0) (.seq (rgn Try.f48.body 1) .ret))⟩
theorem fits48 : Fits Try.prog 48 fi48 Try.f48 := ⟨by kernel_rfl, by kernel_rfl, by kernel_rfl, by kernel_rfl, by kernel_rfl⟩
set_option maxRecDepth 100000 in
noncomputable def s48 (call : ACall) (lim : Nat) (a0 a1 : AV) (H : Heap) : Option Res :=
 bi (bx a0 H) fun r1 =>
 pu (ld r1.2 a1) r1.2 fun r2 =>
 pu (fa 1 r1.1) r2.2 fun r3 =>
 pu (ld r3.2 r3.1) r3.2 fun r4 =>
 bi (call 33 [r2.1, r4.1] r4.2) fun r5 =>
 pu (aun .not r5.1) r5.2 fun r6 =>
 rt r6.1 r6.2

/-! #### (*rushlight/kind.Table).Size -/
noncomputable def fi21 : FI := ⟨17, 0, [.tmp 4], (.seq (rgn Try.f21.body 0) (.seq (.seq (rgn Try.f21.body 1) (.cond (.tmp 8) (.seq (rgn Try.f21.body 2) .ret) .skip)) (.seq (rgn Try.f21.body 3) .ret)))⟩
theorem fits21 : Fits Try.prog 21 fi21 Try.f21 := ⟨by kernel_rfl, by kernel_rfl, by kernel_rfl, by kernel_rfl, by kernel_rfl⟩
set_option maxRecDepth 100000 in
noncomputable def s21 (call : ACall) (lim : Nat) (a0 a1 : AV) (H : Heap) : Option Res :=
 bi (call 33 [a0, a1] H) fun r1 =>
 pu (aun .not r1.1) r1.2 fun r2 =>
 cn (asB r2.1)
 (rt (.d (.int .i64 0)) r2.2)
 (pu (anil a0) r2.2 fun r3 =>
 pu (fa 0 r3.1) r3.2 fun r4 =>
 pu (ld r4.2 r4.1) r4.2 fun r5 =>
 pu (ixS 8 r5.1 a1) r5.2 fun r6 =>
 pu (fa 5 r6.1) r6.2 fun r7 =>
 pu (ld r7.2 r7.1) r7.2 fun r8 =>
 rt r8.1 r8.2)

/-! #### (*rushlight/kind.Table).may$3 -/
noncomputable def fi49 : FI := ⟨9, 0, [.tmp 3], (.seq (rgn Try.f49.body 0) (.seq (rgn Try.f49.body 1) .ret))⟩
theorem fits49 : Fits Try.prog 49 fi49 Try.f49 := ⟨by kernel_rfl, by kernel_rfl, by kernel_rfl, by kernel_rfl, by kernel_rfl⟩
set_option maxRecDepth 100000 in
noncomputable def s49 (call : ACall) (lim : Nat) (a0 a1 : AV) (H : Heap) : Option Res :=
 bi (bx a0 H) fun r1 =>
 pu (ld r1.2 a1) r1.2 fun r2 =>
 pu (fa 1 r1.1) r2.2 fun r3 =>
 pu (ld r3.2 r3.1) r3.2 fun r4 =>
 bi (call 21 [r2.1, r4.1] r4.2) fun r5 =>
 pu (abin Try.prog .eql 3 r5.1 (.d (.int .i64 0))) r5.2 fun r6 =>
 rt r6.1 r6.2

/-! #### (*rushlight/kind.Table).may$4 -/
noncomputable def fi50 : FI := ⟨9, 0, [.tmp 3], (.seq (rgn Try.f50.body 0) (.seq (rgn Try.f50.body 1) .ret))⟩
theorem fits50 : Fits Try.prog 50 fi50 Try.f50 := ⟨by kernel_rfl, by kernel_rfl, by kernel_rfl, by kernel_rfl, by kernel_rfl⟩
set_option maxRecDepth 100000 in
noncomputable def s50 (call : ACall) (lim : Nat) (a0 a1 : AV) (H : Heap) : Option Res :=
 bi (bx a0 H) fun r1 =>
 pu (fa 0 r1.1) r1.2 fun r2 =>
 pu (ld r2.2 r2.1) r2.2 fun r3 =>
 pu (fa 0 a1) r3.2 fun r4 =>
 pu (ld r4.2 r4.1) r4.2 fun r5 =>
 pu (abin Try.prog .eql 9 r3.1 r5.1) r5.2 fun r6 =>
 rt r6.1 r6.2

/-! #### (*rushlight/kind.Table).may -/
noncomputable def fi38 : FI := ⟨36, 0, [.tmp 4], (.seq (rgn Try.f38.body 0) (.seq (.block 0 (.seq (rgn Try.f38.body 1) (.cond (.tmp 7) (.seq (rgn Try.f38.body 2) .ret) (.seq (rgn Try.f38.body 3) (.cond (.tmp 15) (.seq (rgn Try.f38.body 4) .ret) (.seq (rgn Try.f38.body 5) (.cond (.tmp 19) (.seq (rgn Try.f38.body 6) .ret) .skip))))))) (.seq (.seq (rgn Try.f38.body 7) (.block 1 (.loop ⟨[1, 23, 24, 25], some [4], [(1, [])]⟩ (.seq (rgn Try.f38.body 8) (.seq (.cond (.tmp 26) .skip (.exit 1)) (.seq (.block 2 (.seq (rgn Try.f38.body 9) (.seq (rgn Try.f38.body 10) (.cond (.tmp 34) (.seq (rgn Try.f38.body 11) .ret) .skip)))) (rgn Try.f38.body 12))))))) (.seq (rgn Try.f38.body 13) .ret))))⟩
theorem fits38 : Fits Try.prog 38 fi38 Try.f38 := ⟨by kernel_rfl, by kernel_rfl, by kernel_rfl, by kernel_rfl, by kernel_rfl⟩
set_option maxRecDepth 100000 in
/-- A round: what is kept: [1, 23, 24, 25]. -/
noncomputable def s38.l0 (call : ACall) (lim : Nat) (v10 : List AV) (h11 : Heap) : Option Res :=
 pu (abin Try.prog .lss 3 (v10.getD 3 .junk) (v10.getD 2 .junk)) h11 fun r12 =>
 cn (asB r12.1)
 (pu (ixS 3 (v10.getD 1 .junk) (v10.getD 3 .junk)) r12.2 fun r13 =>
 pu (ldA 3 r13.2 r13.1) r13.2 fun r14 =>
 bi (al [.d (.str ⟨#[]⟩), .d (.int .i64 0), .d (.int .i64 0)] r14.2) fun r15 =>
 bi (stA 3 lim r15.2 r15.1 r14.1) fun r16 =>
 pu (slS 3 (v10.getD 0 .junk) none (some (v10.getD 3 .junk))) r16.2 fun r17 =>
 bi (call 46 [r17.1, .fn 50 [r15.1]] r17.2) fun r18 =>
 cn (asB r18.1)
 (some (.ret, [.d (.int .i64 6)], r18.2))
 (pu (abin Try.prog .add 3 (v10.getD 3 .junk) (.d (.int .i64 1))) r18.2 fun r19 =>
 some (.normal, [(v10.getD 0 .junk), (v10.getD 1 .junk), (v10.getD 2 .junk), r19.1], r19.2)))
 (some (.exit 1, [], r12.2))
set_option maxRecDepth 100000 in
noncomputable def s38 (call : ACall) (lim : Nat) (a0 a1 : AV) (H : Heap) : Option Res :=
 bi (bx a0 H) fun r1 =>
 pu (lnS a1) r1.2 fun r2 =>
 pu (abin Try.prog .eql 3 r2.1 (.d (.int .i64 0))) r2.2 fun r3 =>
 gd (yv r3.1) false (some (a1, r3.2)) r3.2 fun r4 =>
 gd (yv r3.1) false (call 46 [r4.1, .fn 47 []] r4.2) r4.2 fun r5 =>
 bi (pk r3.1 (.d (.bool true)) r5.1 r5.2) fun r6 =>
 cn (asB r6.1)
 (rt (.d (.int .i64 1)) r6.2)
 (bi (call 46 [a1, .fn 48 [r1.1]] r6.2) fun r7 =>
 cn (asB r7.1)
 (rt (.d (.int .i64 4)) r7.2)
 (bi (call 46 [a1, .fn 49 [r1.1]] r7.2) fun r8 =>
 cn (asB r8.1)
 (rt (.d (.int .i64 5)) r8.2)
 (pu (lnS a1) r8.2 fun r9 =>
 lp (s38.l0 call lim) [a1, a1, r9.1, .d (.int .i64 0)] r9.2 fun j20 =>
 dsp j20.1 none (rt (gv j20 0) j20.2.2) [(1, rt (.d (.int .i64 0)) j20.2.2)])))

/-! #### slices.Clone[[]rushlight/api.Field,rushlight/api.Field] -/
noncomputable def fi36 : FI := ⟨8, 2, [.tmp 2], (.seq (rgn Try.f36.body 0) (.seq (.seq (rgn Try.f36.body 1) (.cond (.tmp 4) (.seq (rgn Try.f36.body 2) .ret) .skip)) (.seq (rgn Try.f36.body 3) .ret)))⟩
theorem fits36 : Fits Try.prog 36 fi36 Try.f36 := ⟨by kernel_rfl, by kernel_rfl, by kernel_rfl, by kernel_rfl, by kernel_rfl⟩
set_option maxRecDepth 100000 in
noncomputable def s36 (call : ACall) (lim : Nat) (a0 : AV) (H : Heap) : Option Res :=
 pu (abin Try.prog .eql 32 a0 (.d (.seq true 0 []))) H fun r1 =>
 cn (asB r1.1)
 (rt (.d (.seq true 0 [])) r1.2)
 (bi (bldS 3 0 [.d (.str ⟨#[]⟩), .d (.int .i64 0), .d (.int .i64 0)] [] r1.2) fun r2 =>
 bi (app 3 32 lim r2.2 r2.1 (elS 3 r2.2 a0)) fun r3 =>
 rt r3.1 r3.2)

/-! #### (*rushlight/kind.Table).Align -/
noncomputable def fi22 : FI := ⟨17, 0, [.tmp 4], (.seq (rgn Try.f22.body 0) (.seq (.seq (rgn Try.f22.body 1) (.cond (.tmp 8) (.seq (rgn Try.f22.body 2) .ret) .skip)) (.seq (rgn Try.f22.body 3) .ret)))⟩
theorem fits22 : Fits Try.prog 22 fi22 Try.f22 := ⟨by kernel_rfl, by kernel_rfl, by kernel_rfl, by kernel_rfl, by kernel_rfl⟩
set_option maxRecDepth 100000 in
noncomputable def s22 (call : ACall) (lim : Nat) (a0 a1 : AV) (H : Heap) : Option Res :=
 bi (call 33 [a0, a1] H) fun r1 =>
 pu (aun .not r1.1) r1.2 fun r2 =>
 cn (asB r2.1)
 (rt (.d (.int .i64 0)) r2.2)
 (pu (anil a0) r2.2 fun r3 =>
 pu (fa 0 r3.1) r3.2 fun r4 =>
 pu (ld r4.2 r4.1) r4.2 fun r5 =>
 pu (ixS 8 r5.1 a1) r5.2 fun r6 =>
 pu (fa 6 r6.1) r6.2 fun r7 =>
 pu (ld r7.2 r7.1) r7.2 fun r8 =>
 rt r8.1 r8.2)

/-! #### rushlight/kind.up -/
noncomputable def fi40 : FI := ⟨13, 0, [.tmp 4], (.seq (rgn Try.f40.body 0) (.seq (rgn Try.f40.body 1) .ret))⟩
theorem fits40 : Fits Try.prog 40 fi40 Try.f40 := ⟨by kernel_rfl, by kernel_rfl, by kernel_rfl, by kernel_rfl, by kernel_rfl⟩
set_option maxRecDepth 100000 in
noncomputable def s40 (call : ACall) (lim : Nat) (a0 a1 : AV) (H : Heap) : Option Res :=
 pu (abin Try.prog .add 3 a0 a1) H fun r1 =>
 pu (abin Try.prog .sub 3 r1.1 (.d (.int .i64 1))) r1.2 fun r2 =>
 pu (abin Try.prog .quo 3 r2.1 a1) r2.2 fun r3 =>
 pu (abin Try.prog .mul 3 r3.1 a1) r3.2 fun r4 =>
 rt r4.1 r4.2

/-! #### (*rushlight/kind.Table).Struct$1 -/
noncomputable def fi39 : FI := ⟨38, 2, [.tmp 5], (.seq (rgn Try.f39.body 0) (.seq (rgn Try.f39.body 1) (.seq (rgn Try.f39.body 2) (.seq (rgn Try.f39.body 3) (.seq (rgn Try.f39.body 4) .ret)))))⟩
theorem fits39 : Fits Try.prog 39 fi39 Try.f39 := ⟨by kernel_rfl, by kernel_rfl, by kernel_rfl, by kernel_rfl, by kernel_rfl⟩
set_option maxRecDepth 100000 in
noncomputable def s39 (call : ACall) (lim : Nat) (a0 a1 a2 a3 : AV) (H : Heap) : Option Res :=
 pu (ld H a1) H fun r1 =>
 pu (ld r1.2 a2) r1.2 fun r2 =>
 pu (anil a0) r2.2 fun r3 =>
 pu (fa 1 r3.1) r3.2 fun r4 =>
 pu (ld r4.2 r4.1) r4.2 fun r5 =>
 bi (call 22 [r2.1, r5.1] r5.2) fun r6 =>
 bi (call 40 [r1.1, r6.1] r6.2) fun r7 =>
 pu (anil a0) r7.2 fun r8 =>
 pu (fa 2 r8.1) r8.2 fun r9 =>
 bi (stA 1 lim r9.2 r9.1 r7.1) fun r10 =>
 pu (anil a0) r10.2 fun r11 =>
 pu (fa 2 r11.1) r11.2 fun r12 =>
 pu (ld r12.2 r12.1) r12.2 fun r13 =>
 pu (ld r13.2 a2) r13.2 fun r14 =>
 pu (anil a0) r14.2 fun r15 =>
 pu (fa 1 r15.1) r15.2 fun r16 =>
 pu (ld r16.2 r16.1) r16.2 fun r17 =>
 bi (call 21 [r14.1, r17.1] r17.2) fun r18 =>
 pu (abin Try.prog .add 3 r13.1 r18.1) r18.2 fun r19 =>
 bi (stA 1 lim r19.2 a1 r19.1) fun r20 =>
 pu (ld r20.2 a3) r20.2 fun r21 =>
 pu (ld r21.2 a2) r21.2 fun r22 =>
 pu (anil a0) r22.2 fun r23 =>
 pu (fa 1 r23.1) r23.2 fun r24 =>
 pu (ld r24.2 r24.1) r24.2 fun r25 =>
 bi (call 22 [r22.1, r25.1] r25.2) fun r26 =>
 pu (amax r21.1 r26.1) r26.2 fun r27 =>
 bi (stA 1 lim r27.2 a3 r27.1) fun r28 =>
 pu (ld r28.2 a1) r28.2 fun r29 =>
 pu (abin Try.prog .leq 3 r29.1 (.d (.int .i64 32768))) r29.2 fun r30 =>
 rt r30.1 r30.2

/-! #### (*rushlight/kind.Table).Struct -/
noncomputable def fi28 : FI := ⟨84, 2, [.tmp 6, .tmp 7], (.seq (rgn Try.f28.body 0) (.seq (.seq (rgn Try.f28.body 1) (.cond (.tmp 17) (.seq (rgn Try.f28.body 2) .ret) .skip)) (.seq (rgn Try.f28.body 3) (.seq (.seq (rgn Try.f28.body 4) (.cond (.tmp 33) (.seq (rgn Try.f28.body 5) .ret) .skip)) (.seq (.seq (rgn Try.f28.body 6) (.seq (rgn Try.f28.body 7) (.cond (.tmp 38) (.seq (rgn Try.f28.body 8) .ret) .skip))) (.seq (rgn Try.f28.body 9) (.seq (rgn Try.f28.body 10) (.seq (rgn Try.f28.body 11) (.seq (.seq (rgn Try.f28.body 12) (.block 0 (.loop ⟨[3, 8, 10, 11, 12, 13, 44, 45], some [6, 7], [(0, [3, 8, 10, 11, 12])]⟩ (.seq (rgn Try.f28.body 13) (.seq (.cond (.tmp 46) .skip (.exit 0)) (.seq (.block 1 (.seq (rgn Try.f28.body 14) (.seq (rgn Try.f28.body 15) (.cond (.tmp 53) (.seq (rgn Try.f28.body 16) .ret) .skip)))) (rgn Try.f28.body 17))))))) (.seq (.seq (rgn Try.f28.body 18) (.cond (.tmp 58) (.seq (rgn Try.f28.body 19) .ret) .skip)) (.seq (rgn Try.f28.body 20) (.seq (rgn Try.f28.body 21) (.seq (rgn Try.f28.body 22) .ret)))))))))))))⟩
theorem fits28 : Fits Try.prog 28 fi28 Try.f28 := ⟨by kernel_rfl, by kernel_rfl, by kernel_rfl, by kernel_rfl, by kernel_rfl⟩
set_option maxRecDepth 100000 in
/-- A round: what is kept: [3, 8, 10, 11, 12, 13, 44, 45]. -/
noncomputable def s28.l0 (call : ACall) (lim : Nat) (v26 : List AV) (h27 : Heap) : Option Res :=
 pu (abin Try.prog .lss 3 (v26.getD 7 .junk) (v26.getD 6 .junk)) h27 fun r28 =>
 cn (asB r28.1)
 (pu (ixS 3 (v26.getD 2 .junk) (v26.getD 7 .junk)) r28.2 fun r29 =>
 bi (cal call (v26.getD 5 .junk) [r29.1] r29.2) fun r30 =>
 pu (aun .not r30.1) r30.2 fun r31 =>
 cn (asB r31.1)
 (some (.ret, [.d (.int .i64 0), .d (.int .i64 2)], r31.2))
 (pu (abin Try.prog .add 3 (v26.getD 7 .junk) (.d (.int .i64 1))) r31.2 fun r32 =>
 some (.normal, [(v26.getD 0 .junk), (v26.getD 1 .junk), (v26.getD 2 .junk), (v26.getD 3 .junk), (v26.getD 4 .junk), (v26.getD 5 .junk), (v26.getD 6 .junk), r32.1], r32.2)))
 (some (.exit 0, [(v26.getD 0 .junk), (v26.getD 1 .junk), (v26.getD 2 .junk), (v26.getD 3 .junk), (v26.getD 4 .junk)], r28.2))
set_option maxRecDepth 100000 in
noncomputable def s28 (call : ACall) (lim : Nat) (a0 a1 a2 : AV) (H : Heap) : Option Res :=
 bi (bx a0 H) fun r1 =>
 pu (ld r1.2 r1.1) r1.2 fun r2 =>
 pu (abin Try.prog .eql 25 r2.1 .nilptr) r2.2 fun r3 =>
 cn (asB r3.1)
 (rt (.tup [.d (.int .i64 0), .d (.int .i64 1)]) r3.2)
 (pu (ld r3.2 r1.1) r3.2 fun r4 =>
 bi (call 35 [r4.1, a1] r4.2) fun r5 =>
 pu (abin Try.prog .lss 3 r5.1 (.d (.int .i64 0))) r5.2 fun r6 =>
 gd (yv r6.1) false (pm (ld r6.2 r1.1) r6.2) r6.2 fun r7 =>
 gd (yv r6.1) false (pm (anil r7.1) r7.2) r7.2 fun r8 =>
 gd (yv r6.1) false (pm (fa 0 r8.1) r8.2) r8.2 fun r9 =>
 gd (yv r6.1) false (pm (ld r9.2 r9.1) r9.2) r9.2 fun r10 =>
 gd (yv r6.1) false (some (r5.1, r10.2)) r10.2 fun r11 =>
 gd (yv r6.1) false (pm (ixS 8 r10.1 r11.1) r11.2) r11.2 fun r12 =>
 gd (yv r6.1) false (pm (fa 7 r12.1) r12.2) r12.2 fun r13 =>
 gd (yv r6.1) false (pm (ld r13.2 r13.1) r13.2) r13.2 fun r14 =>
 gd (yv r6.1) false (pm (aun .not r14.1) r14.2) r14.2 fun r15 =>
 bi (pk r6.1 (.d (.bool true)) r15.1 r15.2) fun r16 =>
 cn (asB r16.1)
 (rt (.tup [.d (.int .i64 0), .d (.int .i64 4)]) r16.2)
 (pu (ld r16.2 r1.1) r16.2 fun r17 =>
 bi (call 38 [r17.1, a2] r17.2) fun r18 =>
 pu (abin Try.prog .neq 27 r18.1 (.d (.int .i64 0))) r18.2 fun r19 =>
 cn (asB r19.1)
 (rt (.tup [.d (.int .i64 0), r18.1]) r19.2)
 (bi (call 36 [a2] r19.2) fun r20 =>
 bi (al [.d (.int .i64 0)] r20.2) fun r21 =>
 bi (al [.d (.int .i64 0)] r21.2) fun r22 =>
 bi (stA 1 lim r22.2 r21.1 (.d (.int .i64 0))) fun r23 =>
 bi (stA 1 lim r23.2 r22.1 (.d (.int .i64 1))) fun r24 =>
 pu (lnS r20.1) r24.2 fun r25 =>
 lp (s28.l0 call lim) [r1.1, r5.1, r20.1, r21.1, r22.1, .fn 39 [r21.1, r1.1, r22.1], r25.1, .d (.int .i64 0)] r25.2 fun j33 =>
 dsp j33.1 none (rt (.tup [(gv j33 0), (gv j33 1)]) j33.2.2) [(0, pu (ld j33.2.2 (gv j33 3)) j33.2.2 fun r34 =>
 pu (ld r34.2 (gv j33 4)) r34.2 fun r35 =>
 bi (call 40 [r34.1, r35.1] r35.2) fun r36 =>
 pu (abin Try.prog .gtr 3 r36.1 (.d (.int .i64 32768))) r36.2 fun r37 =>
 cn (asB r37.1)
 (rt (.tup [.d (.int .i64 0), .d (.int .i64 2)]) r37.2)
 (pu (ld r37.2 (gv j33 0)) r37.2 fun r38 =>
 pu (anil r38.1) r38.2 fun r39 =>
 pu (fa 0 r39.1) r39.2 fun r40 =>
 pu (ld r40.2 r40.1) r40.2 fun r41 =>
 pu (ixS 8 r41.1 (gv j33 1)) r41.2 fun r42 =>
 pu (ld r42.2 (gv j33 3)) r42.2 fun r43 =>
 pu (ld r43.2 (gv j33 4)) r43.2 fun r44 =>
 bi (call 40 [r43.1, r44.1] r44.2) fun r45 =>
 pu (ld r45.2 (gv j33 4)) r45.2 fun r46 =>
 pu (anil r42.1) r46.2 fun r47 =>
 pu (fa 0 r47.1) r47.2 fun r48 =>
 pu (fa 4 r48.1) r48.2 fun r49 =>
 bi (stA 1 lim r49.2 r49.1 (gv j33 2)) fun r50 =>
 ck [again lim (pm (ld r50.2 (gv j33 4)) r50.2) r46.1 r50.2] (
 pu (anil r42.1) r50.2 fun r51 =>
 pu (fa 5 r51.1) r51.2 fun r52 =>
 bi (stA 1 lim r52.2 r52.1 r45.1) fun r53 =>
 ck [again lim (pm (ld r53.2 (gv j33 4)) r53.2) r46.1 r53.2] (
 pu (anil r42.1) r53.2 fun r54 =>
 pu (fa 6 r54.1) r54.2 fun r55 =>
 bi (stA 1 lim r55.2 r55.1 r46.1) fun r56 =>
 pu (anil r42.1) r56.2 fun r57 =>
 pu (fa 7 r57.1) r57.2 fun r58 =>
 bi (stA 1 lim r58.2 r58.1 (.d (.bool false))) fun r59 =>
 rt (.tup [(gv j33 1), .d (.int .i64 0)]) r59.2))))])))

/-! #### (*rushlight/kind.Table).Field -/
noncomputable def fi18 : FI := ⟨53, 0, [.cell 6 45, .tmp 7], (.seq (rgn Try.f18.body 0) (.seq (.block 0 (.seq (rgn Try.f18.body 1) (.cond (.tmp 10) (.seq (rgn Try.f18.body 2) .ret) (.seq (rgn Try.f18.body 3) (.cond (.tmp 14) (.seq (rgn Try.f18.body 4) .ret) (.seq (rgn Try.f18.body 5) (.cond (.tmp 20) (.seq (rgn Try.f18.body 6) .ret) .skip))))))) (.seq (.seq (rgn Try.f18.body 7) (.block 1 (.loop ⟨[2, 6, 40, 41, 42], some [6, 7], [(1, [6])]⟩ (.seq (rgn Try.f18.body 8) (.seq (.cond (.tmp 43) .skip (.exit 1)) (.seq (.block 2 (.seq (rgn Try.f18.body 9) (.seq (rgn Try.f18.body 10) (.cond (.tmp 49) (.seq (rgn Try.f18.body 11) .ret) .skip)))) (rgn Try.f18.body 12))))))) (.seq (rgn Try.f18.body 13) .ret))))⟩
theorem fits18 : Fits Try.prog 18 fi18 Try.f18 := ⟨by kernel_rfl, by kernel_rfl, by kernel_rfl, by kernel_rfl, by kernel_rfl⟩
set_option maxRecDepth 100000 in
/-- A round: what is kept: [2, 6, 40, 41, 42]. -/
noncomputable def s18.l0 (call : ACall) (lim : Nat) (v27 : List AV) (h28 : Heap) : Option Res :=
 pu (abin Try.prog .lss 3 (v27.getD 4 .junk) (v27.getD 3 .junk)) h28 fun r29 =>
 cn (asB r29.1)
 (pu (ixS 3 (v27.getD 2 .junk) (v27.getD 4 .junk)) r29.2 fun r30 =>
 pu (ldA 3 r30.2 r30.1) r30.2 fun r31 =>
 bi (al [.d (.str ⟨#[]⟩), .d (.int .i64 0), .d (.int .i64 0)] r31.2) fun r32 =>
 bi (stA 3 lim r32.2 r32.1 r31.1) fun r33 =>
 pu (fa 0 r32.1) r33.2 fun r34 =>
 pu (ld r34.2 r34.1) r34.2 fun r35 =>
 pu (abin Try.prog .eql 9 r35.1 (v27.getD 0 .junk)) r35.2 fun r36 =>
 cn (asB r36.1)
 (pu (ldA 3 r36.2 r32.1) r36.2 fun r37 =>
 bi (stA 3 lim r37.2 (v27.getD 1 .junk) r37.1) fun r38 =>
 some (.ret, [(v27.getD 1 .junk), .d (.int .i64 0)], r38.2))
 (pu (abin Try.prog .add 3 (v27.getD 4 .junk) (.d (.int .i64 1))) r36.2 fun r39 =>
 some (.normal, [(v27.getD 0 .junk), (v27.getD 1 .junk), (v27.getD 2 .junk), (v27.getD 3 .junk), r39.1], r39.2)))
 (some (.exit 1, [(v27.getD 1 .junk)], r29.2))
set_option maxRecDepth 100000 in
noncomputable def s18 (call : ACall) (lim : Nat) (a0 a1 a2 : AV) (H : Heap) : Option Res :=
 bi (al [.d (.str ⟨#[]⟩), .d (.int .i64 0), .d (.int .i64 0)] H) fun r1 =>
 pu (abin Try.prog .eql 25 a0 .nilptr) r1.2 fun r2 =>
 cn (asB r2.1)
 (pu (bld [(0, 1), (1, 1), (2, 1)] [.d (.str ⟨#[]⟩), .d (.int .i64 0), .d (.int .i64 0)] []) r2.2 fun r3 =>
 bi (stA 3 lim r3.2 r1.1 r3.1) fun r4 =>
 rs [ldA 3 r4.2 r1.1, some (.d (.int .i64 1))] r4.2)
 (bi (call 33 [a0, a1] r2.2) fun r5 =>
 pu (aun .not r5.1) r5.2 fun r6 =>
 cn (asB r6.1)
 (pu (bld [(0, 1), (1, 1), (2, 1)] [.d (.str ⟨#[]⟩), .d (.int .i64 0), .d (.int .i64 0)] []) r6.2 fun r7 =>
 bi (stA 3 lim r7.2 r1.1 r7.1) fun r8 =>
 rs [ldA 3 r8.2 r1.1, some (.d (.int .i64 4))] r8.2)
 (pu (anil a0) r6.2 fun r9 =>
 pu (fa 0 r9.1) r9.2 fun r10 =>
 pu (ld r10.2 r10.1) r10.2 fun r11 =>
 pu (ixS 8 r11.1 a1) r11.2 fun r12 =>
 pu (fa 0 r12.1) r12.2 fun r13 =>
 pu (fa 0 r13.1) r13.2 fun r14 =>
 pu (ld r14.2 r14.1) r14.2 fun r15 =>
 pu (abin Try.prog .neq 3 r15.1 (.d (.int .i64 5))) r15.2 fun r16 =>
 cn (asB r16.1)
 (pu (bld [(0, 1), (1, 1), (2, 1)] [.d (.str ⟨#[]⟩), .d (.int .i64 0), .d (.int .i64 0)] []) r16.2 fun r17 =>
 bi (stA 3 lim r17.2 r1.1 r17.1) fun r18 =>
 rs [ldA 3 r18.2 r1.1, some (.d (.int .i64 5))] r18.2)
 (pu (anil a0) r16.2 fun r19 =>
 pu (fa 0 r19.1) r19.2 fun r20 =>
 pu (ld r20.2 r20.1) r20.2 fun r21 =>
 pu (ixS 8 r21.1 a1) r21.2 fun r22 =>
 pu (fa 0 r22.1) r22.2 fun r23 =>
 pu (fa 4 r23.1) r23.2 fun r24 =>
 pu (ld r24.2 r24.1) r24.2 fun r25 =>
 pu (lnS r25.1) r25.2 fun r26 =>
 lp (s18.l0 call lim) [a2, r1.1, r25.1, r26.1, .d (.int .i64 0)] r26.2 fun j40 =>
 dsp j40.1 none (rs [ldA 3 j40.2.2 (gv j40 0), some (gv j40 1)] j40.2.2) [(1, pu (bld [(0, 1), (1, 1), (2, 1)] [.d (.str ⟨#[]⟩), .d (.int .i64 0), .d (.int .i64 0)] []) j40.2.2 fun r41 =>
 bi (stA 3 lim r41.2 (gv j40 0) r41.1) fun r42 =>
 rs [ldA 3 r42.2 (gv j40 0), some (.d (.int .i64 4))] r42.2)])))

/-! #### (*rushlight/kind.Table).Array -/
noncomputable def fi14 : FI := ⟨63, 2, [.tmp 6, .tmp 7], (.seq (rgn Try.f14.body 0) (.seq (.block 0 (.seq (rgn Try.f14.body 1) (.cond (.tmp 9) (.seq (rgn Try.f14.body 2) .ret) (.seq (rgn Try.f14.body 3) (.cond (.tmp 12) (.seq (rgn Try.f14.body 4) .ret) (.seq (rgn Try.f14.body 5) (.cond (.tmp 17) (.seq (rgn Try.f14.body 6) .ret) (.seq (rgn Try.f14.body 7) (.cond (.tmp 27) (.seq (rgn Try.f14.body 8) .ret) (.seq (rgn Try.f14.body 9) (.cond (.tmp 30) (.seq (rgn Try.f14.body 10) .ret) .skip))))))))))) (.seq (rgn Try.f14.body 11) (.seq (rgn Try.f14.body 12) .ret))))⟩
theorem fits14 : Fits Try.prog 14 fi14 Try.f14 := ⟨by kernel_rfl, by kernel_rfl, by kernel_rfl, by kernel_rfl, by kernel_rfl⟩
set_option maxRecDepth 100000 in
noncomputable def s14 (call : ACall) (lim : Nat) (a0 a1 a2 : AV) (H : Heap) : Option Res :=
 pu (abin Try.prog .eql 25 a0 .nilptr) H fun r1 =>
 cn (asB r1.1)
 (rt (.tup [.d (.int .i64 0), .d (.int .i64 1)]) r1.2)
 (bi (call 33 [a0, a1] r1.2) fun r2 =>
 pu (aun .not r2.1) r2.2 fun r3 =>
 cn (asB r3.1)
 (rt (.tup [.d (.int .i64 0), .d (.int .i64 4)]) r3.2)
 (pu (anil a0) r3.2 fun r4 =>
 pu (fa 0 r4.1) r4.2 fun r5 =>
 pu (ld r5.2 r5.1) r5.2 fun r6 =>
 pu (ixS 8 r6.1 a1) r6.2 fun r7 =>
 pu (fa 5 r7.1) r7.2 fun r8 =>
 pu (ld r8.2 r8.1) r8.2 fun r9 =>
 pu (abin Try.prog .eql 3 r9.1 (.d (.int .i64 0))) r9.2 fun r10 =>
 cn (asB r10.1)
 (rt (.tup [.d (.int .i64 0), .d (.int .i64 5)]) r10.2)
 (pu (abin Try.prog .lss 3 a2 (.d (.int .i64 1))) r10.2 fun r11 =>
 cn (asB r11.1)
 (rt (.tup [.d (.int .i64 0), .d (.int .i64 1)]) r11.2)
 (pu (anil a0) r11.2 fun r12 =>
 pu (fa 0 r12.1) r12.2 fun r13 =>
 pu (ld r13.2 r13.1) r13.2 fun r14 =>
 pu (ixS 8 r14.1 a1) r14.2 fun r15 =>
 pu (fa 5 r15.1) r15.2 fun r16 =>
 pu (ld r16.2 r16.1) r16.2 fun r17 =>
 pu (abin Try.prog .quo 3 (.d (.int .i64 32768)) r17.1) r17.2 fun r18 =>
 pu (abin Try.prog .gtr 3 a2 r18.1) r18.2 fun r19 =>
 cn (asB r19.1)
 (rt (.tup [.d (.int .i64 0), .d (.int .i64 2)]) r19.2)
 (pu (anil a0) r19.2 fun r20 =>
 pu (fa 0 r20.1) r20.2 fun r21 =>
 pu (ld r21.2 r21.1) r21.2 fun r22 =>
 pu (ixS 8 r22.1 a1) r22.2 fun r23 =>
 pu (ldA 8 r23.2 r23.1) r23.2 fun r24 =>
 bi (al [.d (.int .i64 0), .d (.int .i64 0), .d (.int .i64 0), .d (.str ⟨#[]⟩), .d (.seq true 0 []), .d (.int .i64 0), .d (.int .i64 0), .d (.bool false)] r24.2) fun r25 =>
 bi (stA 8 lim r25.2 r25.1 r24.1) fun r26 =>
 pu (bld [(0, 1), (1, 1), (2, 1), (3, 1), (4, 1)] [.d (.int .i64 0), .d (.int .i64 0), .d (.int .i64 0), .d (.str ⟨#[]⟩), .d (.seq true 0 [])] [(0, .d (.int .i64 4)), (1, a1), (2, a2)]) r26.2 fun r27 =>
 pu (fa 5 r25.1) r27.2 fun r28 =>
 pu (ld r28.2 r28.1) r28.2 fun r29 =>
 pu (abin Try.prog .mul 3 a2 r29.1) r29.2 fun r30 =>
 pu (fa 6 r25.1) r30.2 fun r31 =>
 pu (ld r31.2 r31.1) r31.2 fun r32 =>
 pu (bld [(0, 5), (5, 1), (6, 1), (7, 1)] [.d (.int .i64 0), .d (.int .i64 0), .d (.int .i64 0), .d (.str ⟨#[]⟩), .d (.seq true 0 []), .d (.int .i64 0), .d (.int .i64 0), .d (.bool false)] [(0, r27.1), (1, r30.1), (2, r32.1)]) r32.2 fun r33 =>
 bi (call 34 [a0, r33.1] r33.2) fun r34 =>
 pu (aextract r34.1 0) r34.2 fun r35 =>
 pu (aextract r34.1 1) r35.2 fun r36 =>
 rt (.tup [r35.1, r36.1]) r36.2)))))

/-! #### rushlight/rushlightlaw08.awake -/
noncomputable def fi9 : FI := ⟨72, 0, [.tmp 0], (.seq (rgn Try.f9.body 0) (.seq (rgn Try.f9.body 1) (.seq (rgn Try.f9.body 2) (.seq (rgn Try.f9.body 3) (.seq (rgn Try.f9.body 4) (.seq (rgn Try.f9.body 5) (.seq (rgn Try.f9.body 6) .ret)))))))⟩
theorem fits9 : Fits Try.prog 9 fi9 Try.f9 := ⟨by kernel_rfl, by kernel_rfl, by kernel_rfl, by kernel_rfl, by kernel_rfl⟩
set_option maxRecDepth 100000 in
noncomputable def s9 (call : ACall) (lim : Nat) (H : Heap) : Option Res :=
 bi (call 10 [] H) fun r1 =>
 bi (call 27 [r1.1, .d (.str ⟨#[115]⟩)] r1.2) fun r2 =>
 pu (aextract r2.1 0) r2.2 fun r3 =>
 pu (aextract r2.1 1) r3.2 fun r4 =>
 pu (bld [(0, 1), (1, 1), (2, 1)] [.d (.str ⟨#[]⟩), .d (.int .i64 0), .d (.int .i64 0)] [(0, .d (.str ⟨#[97]⟩)), (1, .d (.int .i64 2))]) r4.2 fun r5 =>
 pu (bld [(0, 1), (1, 1), (2, 1)] [.d (.str ⟨#[]⟩), .d (.int .i64 0), .d (.int .i64 0)] [(0, .d (.str ⟨#[98]⟩)), (1, .d (.int .i64 1))]) r5.2 fun r6 =>
 pu (bld [(0, 1), (1, 1), (2, 1)] [.d (.str ⟨#[]⟩), .d (.int .i64 0), .d (.int .i64 0)] [(0, .d (.str ⟨#[99]⟩)), (1, .d (.int .i64 2))]) r6.2 fun r7 =>
 bi (bldS 3 3 [.d (.str ⟨#[]⟩), .d (.int .i64 0), .d (.int .i64 0)] [(0, r5.1), (1, r6.1), (2, r7.1)] r7.2) fun r8 =>
 bi (call 28 [r1.1, .d (.str ⟨#[115]⟩), r8.1] r8.2) fun r9 =>
 pu (aextract r9.1 0) r9.2 fun r10 =>
 pu (aextract r9.1 1) r10.2 fun r11 =>
 bi (call 18 [r1.1, r10.1, .d (.str ⟨#[99]⟩)] r11.2) fun r12 =>
 pu (aextract r12.1 0) r12.2 fun r13 =>
 pu (aextract r12.1 1) r13.2 fun r14 =>
 bi (al [.d (.str ⟨#[]⟩), .d (.int .i64 0), .d (.int .i64 0)] r14.2) fun r15 =>
 bi (stA 3 lim r15.2 r15.1 r13.1) fun r16 =>
 bi (call 14 [r1.1, .d (.int .i64 2), .d (.int .i64 3)] r16.2) fun r17 =>
 pu (aextract r17.1 0) r17.2 fun r18 =>
 pu (aextract r17.1 1) r18.2 fun r19 =>
 pu (abin Try.prog .eql 27 r4.1 (.d (.int .i64 0))) r19.2 fun r20 =>
 gd (yv r20.1) true (some (r11.1, r20.2)) r20.2 fun r21 =>
 gd (yv r20.1) true (pm (abin Try.prog .eql 27 r21.1 (.d (.int .i64 0))) r21.2) r21.2 fun r22 =>
 bi (pk r20.1 r22.1 (.d (.bool false)) r22.2) fun r23 =>
 gd (yv r23.1) true (some (r14.1, r23.2)) r23.2 fun r24 =>
 gd (yv r23.1) true (pm (abin Try.prog .eql 27 r24.1 (.d (.int .i64 0))) r24.2) r24.2 fun r25 =>
 bi (pk r23.1 r25.1 (.d (.bool false)) r25.2) fun r26 =>
 gd (yv r26.1) true (some (r19.1, r26.2)) r26.2 fun r27 =>
 gd (yv r26.1) true (pm (abin Try.prog .eql 27 r27.1 (.d (.int .i64 0))) r27.2) r27.2 fun r28 =>
 bi (pk r26.1 r28.1 (.d (.bool false)) r28.2) fun r29 =>
 gd (yv r29.1) true (some (r3.1, r29.2)) r29.2 fun r30 =>
 gd (yv r29.1) true (some (r10.1, r30.2)) r30.2 fun r31 =>
 gd (yv r29.1) true (pm (abin Try.prog .eql 3 r30.1 r31.1) r31.2) r31.2 fun r32 =>
 bi (pk r29.1 r32.1 (.d (.bool false)) r32.2) fun r33 =>
 gd (yv r33.1) true (pm (fa 2 r15.1) r33.2) r33.2 fun r34 =>
 gd (yv r33.1) true (pm (ld r34.2 r34.1) r34.2) r34.2 fun r35 =>
 gd (yv r33.1) true (pm (abin Try.prog .eql 3 r35.1 (.d (.int .i64 8))) r35.2) r35.2 fun r36 =>
 bi (pk r33.1 r36.1 (.d (.bool false)) r36.2) fun r37 =>
 gd (yv r37.1) true (some (r1.1, r37.2)) r37.2 fun r38 =>
 gd (yv r37.1) true (some (r10.1, r38.2)) r38.2 fun r39 =>
 gd (yv r37.1) true (call 21 [r38.1, r39.1] r39.2) r39.2 fun r40 =>
 gd (yv r37.1) true (pm (abin Try.prog .eql 3 r40.1 (.d (.int .i64 12))) r40.2) r40.2 fun r41 =>
 bi (pk r37.1 r41.1 (.d (.bool false)) r41.2) fun r42 =>
 gd (yv r42.1) true (some (r1.1, r42.2)) r42.2 fun r43 =>
 gd (yv r42.1) true (some (r18.1, r43.2)) r43.2 fun r44 =>
 gd (yv r42.1) true (call 21 [r43.1, r44.1] r44.2) r44.2 fun r45 =>
 gd (yv r42.1) true (pm (abin Try.prog .eql 3 r45.1 (.d (.int .i64 3))) r45.2) r45.2 fun r46 =>
 bi (pk r42.1 r46.1 (.d (.bool false)) r46.2) fun r47 =>
 rt r47.1 r47.2

/-! #### rushlight/rushlightref08.Begin -/
noncomputable def fi12 : FI := ⟨5, 0, [.tmp 0], (.seq (rgn Try.f12.body 0) (.seq (rgn Try.f12.body 1) .ret))⟩
theorem fits12 : Fits Try.prog 12 fi12 Try.f12 := ⟨by kernel_rfl, by kernel_rfl, by kernel_rfl, by kernel_rfl, by kernel_rfl⟩
set_option maxRecDepth 100000 in
noncomputable def s12 (call : ACall) (lim : Nat) (H : Heap) : Option Res :=
 pu (bld [(0, 1), (1, 1), (2, 1), (3, 1), (4, 1), (5, 1)] [.d (.int .i64 0), .d (.int .i64 0), .d (.int .i64 0), .d (.str ⟨#[]⟩), .d (.seq true 0 []), .d (.bool false)] []) H fun r1 =>
 pu (bld [(0, 1), (1, 1), (2, 1), (3, 1), (4, 1), (5, 1)] [.d (.int .i64 0), .d (.int .i64 0), .d (.int .i64 0), .d (.str ⟨#[]⟩), .d (.seq true 0 []), .d (.bool false)] [(0, .d (.int .i64 1))]) r1.2 fun r2 =>
 pu (bld [(0, 1), (1, 1), (2, 1), (3, 1), (4, 1), (5, 1)] [.d (.int .i64 0), .d (.int .i64 0), .d (.int .i64 0), .d (.str ⟨#[]⟩), .d (.seq true 0 []), .d (.bool false)] [(0, .d (.int .i64 2))]) r2.2 fun r3 =>
 bi (bldS 6 3 [.d (.int .i64 0), .d (.int .i64 0), .d (.int .i64 0), .d (.str ⟨#[]⟩), .d (.seq true 0 []), .d (.bool false)] [(0, r1.1), (1, r2.1), (2, r3.1)] r3.2) fun r4 =>
 rt r4.1 r4.2

/-! #### (*rushlight/kind.Table).Ptr -/
noncomputable def fi13 : FI := ⟨21, 2, [.tmp 4, .tmp 5], (.seq (rgn Try.f13.body 0) (.seq (.block 0 (.seq (rgn Try.f13.body 1) (.cond (.tmp 6) (.seq (rgn Try.f13.body 2) .ret) (.seq (rgn Try.f13.body 3) (.cond (.tmp 9) (.seq (rgn Try.f13.body 4) .ret) .skip))))) (.seq (rgn Try.f13.body 5) .ret)))⟩
theorem fits13 : Fits Try.prog 13 fi13 Try.f13 := ⟨by kernel_rfl, by kernel_rfl, by kernel_rfl, by kernel_rfl, by kernel_rfl⟩
set_option maxRecDepth 100000 in
noncomputable def s13 (call : ACall) (lim : Nat) (a0 a1 : AV) (H : Heap) : Option Res :=
 pu (abin Try.prog .eql 25 a0 .nilptr) H fun r1 =>
 cn (asB r1.1)
 (rt (.tup [.d (.int .i64 0), .d (.int .i64 1)]) r1.2)
 (bi (call 33 [a0, a1] r1.2) fun r2 =>
 pu (aun .not r2.1) r2.2 fun r3 =>
 cn (asB r3.1)
 (rt (.tup [.d (.int .i64 0), .d (.int .i64 4)]) r3.2)
 (pu (bld [(0, 1), (1, 1), (2, 1), (3, 1), (4, 1)] [.d (.int .i64 0), .d (.int .i64 0), .d (.int .i64 0), .d (.str ⟨#[]⟩), .d (.seq true 0 [])] [(0, .d (.int .i64 3)), (1, a1)]) r3.2 fun r4 =>
 pu (bld [(0, 5), (5, 1), (6, 1), (7, 1)] [.d (.int .i64 0), .d (.int .i64 0), .d (.int .i64 0), .d (.str ⟨#[]⟩), .d (.seq true 0 []), .d (.int .i64 0), .d (.int .i64 0), .d (.bool false)] [(0, r4.1), (1, .d (.int .i64 4)), (2, .d (.int .i64 4))]) r4.2 fun r5 =>
 bi (call 34 [a0, r5.1] r5.2) fun r6 =>
 pu (aextract r6.1 0) r6.2 fun r7 =>
 pu (aextract r6.1 1) r7.2 fun r8 =>
 rt (.tup [r7.1, r8.1]) r8.2))

/-! #### rushlight/rushlightref08.Is -/
noncomputable def fi19 : FI := ⟨13, 0, [.tmp 4], (.seq (rgn Try.f19.body 0) (.seq (rgn Try.f19.body 1) .ret))⟩
theorem fits19 : Fits Try.prog 19 fi19 Try.f19 := ⟨by kernel_rfl, by kernel_rfl, by kernel_rfl, by kernel_rfl, by kernel_rfl⟩
set_option maxRecDepth 100000 in
noncomputable def s19 (call : ACall) (lim : Nat) (a0 a1 : AV) (H : Heap) : Option Res :=
 pu (abin Try.prog .geq 3 a1 (.d (.int .i64 0))) H fun r1 =>
 gd (yv r1.1) true (some (a1, r1.2)) r1.2 fun r2 =>
 gd (yv r1.1) true (some (a0, r2.2)) r2.2 fun r3 =>
 gd (yv r1.1) true (pm (lnS r3.1) r3.2) r3.2 fun r4 =>
 gd (yv r1.1) true (pm (abin Try.prog .lss 3 r2.1 r4.1) r4.2) r4.2 fun r5 =>
 bi (pk r1.1 r5.1 (.d (.bool false)) r5.2) fun r6 =>
 rt r6.1 r6.2

/-! #### rushlight/rushlightref08.put -/
noncomputable def fi41 : FI := ⟨76, 0, [.cell 4 30], (.seq (rgn Try.f41.body 0) (.seq (.seq (rgn Try.f41.body 1) (.block 0 (.loop ⟨[0, 3, 4, 5], some [4], [(0, [0, 3, 4])]⟩ (.seq (.seq (rgn Try.f41.body 2) (.cond (.tmp 11) .skip (.exit 0))) (.seq (.block 1 (.seq (rgn Try.f41.body 4) (.cond (.tmp 46) (.seq (rgn Try.f41.body 5) .ret) .skip))) (rgn Try.f41.body 3)))))) (.seq (.seq (rgn Try.f41.body 6) (.cond (.tmp 52) (.seq (rgn Try.f41.body 7) .ret) .skip)) (.seq (rgn Try.f41.body 8) (.seq (.seq (rgn Try.f41.body 9) (.block 2 (.loop ⟨[0, 3, 4, 6, 7], none, [(2, [0, 3, 4, 6])]⟩ (.seq (.seq (rgn Try.f41.body 10) (.cond (.tmp 58) .skip (.exit 2))) (.seq (.block 3 (rgn Try.f41.body 12)) (rgn Try.f41.body 11)))))) (.seq (rgn Try.f41.body 13) (.seq (rgn Try.f41.body 14) .ret)))))))⟩
theorem fits41 : Fits Try.prog 41 fi41 Try.f41 := ⟨by kernel_rfl, by kernel_rfl, by kernel_rfl, by kernel_rfl, by kernel_rfl⟩
set_option maxRecDepth 100000 in
/-- A round: what is kept: [0, 3, 4, 5]. -/
noncomputable def s41.l0 (call : ACall) (lim : Nat) (v3 : List AV) (h4 : Heap) : Option Res :=
 pu (lnS (v3.getD 0 .junk)) h4 fun r5 =>
 pu (abin Try.prog .lss 3 (v3.getD 3 .junk) r5.1) r5.2 fun r6 =>
 cn (asB r6.1)
 (pu (ixS 6 (v3.getD 0 .junk) (v3.getD 3 .junk)) r6.2 fun r7 =>
 pu (fa 0 r7.1) r7.2 fun r8 =>
 pu (ld r8.2 r8.1) r8.2 fun r9 =>
 pu (fa 0 (v3.getD 1 .junk)) r9.2 fun r10 =>
 pu (ld r10.2 r10.1) r10.2 fun r11 =>
 pu (abin Try.prog .eql 3 r9.1 r11.1) r11.2 fun r12 =>
 gd (yv r12.1) true (some ((v3.getD 0 .junk), r12.2)) r12.2 fun r13 =>
 gd (yv r12.1) true (some ((v3.getD 3 .junk), r13.2)) r13.2 fun r14 =>
 gd (yv r12.1) true (pm (ixS 6 r13.1 r14.1) r14.2) r14.2 fun r15 =>
 gd (yv r12.1) true (pm (fa 1 r15.1) r15.2) r15.2 fun r16 =>
 gd (yv r12.1) true (pm (ld r16.2 r16.1) r16.2) r16.2 fun r17 =>
 gd (yv r12.1) true (pm (fa 1 (v3.getD 1 .junk)) r17.2) r17.2 fun r18 =>
 gd (yv r12.1) true (pm (ld r18.2 r18.1) r18.2) r18.2 fun r19 =>
 gd (yv r12.1) true (pm (abin Try.prog .eql 3 r17.1 r19.1) r19.2) r19.2 fun r20 =>
 bi (pk r12.1 r20.1 (.d (.bool false)) r20.2) fun r21 =>
 gd (yv r21.1) true (some ((v3.getD 0 .junk), r21.2)) r21.2 fun r22 =>
 gd (yv r21.1) true (some ((v3.getD 3 .junk), r22.2)) r22.2 fun r23 =>
 gd (yv r21.1) true (pm (ixS 6 r22.1 r23.1) r23.2) r23.2 fun r24 =>
 gd (yv r21.1) true (pm (fa 2 r24.1) r24.2) r24.2 fun r25 =>
 gd (yv r21.1) true (pm (ld r25.2 r25.1) r25.2) r25.2 fun r26 =>
 gd (yv r21.1) true (pm (fa 2 (v3.getD 1 .junk)) r26.2) r26.2 fun r27 =>
 gd (yv r21.1) true (pm (ld r27.2 r27.1) r27.2) r27.2 fun r28 =>
 gd (yv r21.1) true (pm (abin Try.prog .eql 3 r26.1 r28.1) r28.2) r28.2 fun r29 =>
 bi (pk r21.1 r29.1 (.d (.bool false)) r29.2) fun r30 =>
 gd (yv r30.1) true (pm (fa 0 (v3.getD 1 .junk)) r30.2) r30.2 fun r31 =>
 gd (yv r30.1) true (pm (ld r31.2 r31.1) r31.2) r31.2 fun r32 =>
 gd (yv r30.1) true (pm (abin Try.prog .neq 3 r32.1 (.d (.int .i64 5))) r32.2) r32.2 fun r33 =>
 bi (pk r30.1 r33.1 (.d (.bool false)) r33.2) fun r34 =>
 cn (asB r34.1)
 (pu (bld [(0, 1), (1, 1), (2, 1)] [.d (.int .i64 0), .d (.seq true 0 []), .d (.int .i64 0)] [(0, (v3.getD 3 .junk)), (1, (v3.getD 0 .junk))]) r34.2 fun r35 =>
 bi (stA 3 lim r35.2 (v3.getD 2 .junk) r35.1) fun r36 =>
 some (.ret, [(v3.getD 2 .junk)], r36.2))
 (pu (abin Try.prog .add 3 (v3.getD 3 .junk) (.d (.int .i64 1))) r34.2 fun r37 =>
 some (.normal, [(v3.getD 0 .junk), (v3.getD 1 .junk), (v3.getD 2 .junk), r37.1], r37.2)))
 (some (.exit 0, [(v3.getD 0 .junk), (v3.getD 1 .junk), (v3.getD 2 .junk)], r6.2))
set_option maxRecDepth 100000 in
/-- A round: what is kept: [0, 3, 4, 6, 7]. -/
noncomputable def s41.l1 (call : ACall) (lim : Nat) (v43 : List AV) (h44 : Heap) : Option Res :=
 pu (lnS (v43.getD 0 .junk)) h44 fun r45 =>
 pu (abin Try.prog .lss 3 (v43.getD 4 .junk) r45.1) r45.2 fun r46 =>
 cn (asB r46.1)
 (pu (ixS 6 (v43.getD 0 .junk) (v43.getD 4 .junk)) r46.2 fun r47 =>
 pu (ldA 6 r47.2 r47.1) r47.2 fun r48 =>
 bi (bldS 6 1 [.d (.int .i64 0), .d (.int .i64 0), .d (.int .i64 0), .d (.str ⟨#[]⟩), .d (.seq true 0 []), .d (.bool false)] [(0, r48.1)] r48.2) fun r49 =>
 bi (app 6 72 lim r49.2 (v43.getD 3 .junk) (elS 6 r49.2 r49.1)) fun r50 =>
 pu (abin Try.prog .add 3 (v43.getD 4 .junk) (.d (.int .i64 1))) r50.2 fun r51 =>
 some (.normal, [(v43.getD 0 .junk), (v43.getD 1 .junk), (v43.getD 2 .junk), r50.1, r51.1], r51.2))
 (some (.exit 2, [(v43.getD 0 .junk), (v43.getD 1 .junk), (v43.getD 2 .junk), (v43.getD 3 .junk)], r46.2))
set_option maxRecDepth 100000 in
noncomputable def s41 (call : ACall) (lim : Nat) (a0 a1 : AV) (H : Heap) : Option Res :=
 bi (bx a1 H) fun r1 =>
 bi (al [.d (.int .i64 0), .d (.seq true 0 []), .d (.int .i64 0)] r1.2) fun r2 =>
 lp (s41.l0 call lim) [a0, r1.1, r2.1, .d (.int .i64 0)] r2.2 fun j38 =>
 dsp j38.1 none (rs [ldA 3 j38.2.2 (gv j38 0)] j38.2.2) [(0, pu (lnS (gv j38 0)) j38.2.2 fun r39 =>
 pu (abin Try.prog .geq 3 r39.1 (.d (.int .i64 400))) r39.2 fun r40 =>
 cn (asB r40.1)
 (pu (bld [(0, 1), (1, 1), (2, 1)] [.d (.int .i64 0), .d (.seq true 0 []), .d (.int .i64 0)] [(1, (gv j38 0)), (2, .d (.int .i64 8))]) r40.2 fun r41 =>
 bi (stA 3 lim r41.2 (gv j38 2) r41.1) fun r42 =>
 rs [ldA 3 r42.2 (gv j38 2)] r42.2)
 (lp (s41.l1 call lim) [(gv j38 0), (gv j38 1), (gv j38 2), .d (.seq true 0 []), .d (.int .i64 0)] r40.2 fun j52 =>
 dsp j52.1 none none [(2, pu (ldA 6 j52.2.2 (gv j52 1)) j52.2.2 fun r53 =>
 bi (bldS 6 1 [.d (.int .i64 0), .d (.int .i64 0), .d (.int .i64 0), .d (.str ⟨#[]⟩), .d (.seq true 0 []), .d (.bool false)] [(0, r53.1)] r53.2) fun r54 =>
 bi (app 6 72 lim r54.2 (gv j52 3) (elS 6 r54.2 r54.1)) fun r55 =>
 pu (lnS (gv j52 0)) r55.2 fun r56 =>
 pu (bld [(0, 1), (1, 1), (2, 1)] [.d (.int .i64 0), .d (.seq true 0 []), .d (.int .i64 0)] [(0, r56.1), (1, r55.1)]) r56.2 fun r57 =>
 bi (stA 3 lim r57.2 (gv j52 2) r57.1) fun r58 =>
 rs [ldA 3 r58.2 (gv j52 2)] r58.2)]))]

/-! #### rushlight/rushlightref08.Ptr -/
noncomputable def fi29 : FI := ⟨15, 0, [.cell 4 30], (.seq (rgn Try.f29.body 0) (.seq (.seq (rgn Try.f29.body 1) (.cond (.tmp 8) (.seq (rgn Try.f29.body 2) .ret) .skip)) (.seq (rgn Try.f29.body 3) .ret)))⟩
theorem fits29 : Fits Try.prog 29 fi29 Try.f29 := ⟨by kernel_rfl, by kernel_rfl, by kernel_rfl, by kernel_rfl, by kernel_rfl⟩
set_option maxRecDepth 100000 in
noncomputable def s29 (call : ACall) (lim : Nat) (a0 a1 : AV) (H : Heap) : Option Res :=
 bi (al [.d (.int .i64 0), .d (.seq true 0 []), .d (.int .i64 0)] H) fun r1 =>
 bi (call 19 [a0, a1] r1.2) fun r2 =>
 pu (aun .not r2.1) r2.2 fun r3 =>
 cn (asB r3.1)
 (pu (bld [(0, 1), (1, 1), (2, 1)] [.d (.int .i64 0), .d (.seq true 0 []), .d (.int .i64 0)] [(1, a0), (2, .d (.int .i64 4))]) r3.2 fun r4 =>
 bi (stA 3 lim r4.2 r1.1 r4.1) fun r5 =>
 rs [ldA 3 r5.2 r1.1] r5.2)
 (pu (bld [(0, 1), (1, 1), (2, 1), (3, 1), (4, 1), (5, 1)] [.d (.int .i64 0), .d (.int .i64 0), .d (.int .i64 0), .d (.str ⟨#[]⟩), .d (.seq true 0 []), .d (.bool false)] [(0, .d (.int .i64 3)), (1, a1)]) r3.2 fun r6 =>
 bi (call 41 [a0, r6.1] r6.2) fun r7 =>
 bi (stA 3 lim r7.2 r1.1 r7.1) fun r8 =>
 rs [ldA 3 r8.2 r1.1] r8.2)

/-! #### rushlight/rushlightref08.Align -/
noncomputable def fi24 : FI := ⟨75, 0, [.tmp 4], (.seq (rgn Try.f24.body 0) (.seq (.seq (rgn Try.f24.body 1) (.cond (.tmp 25) (.seq (rgn Try.f24.body 2) .ret) .skip)) (.seq (.seq (rgn Try.f24.body 3) (.cond (.tmp 31) (.seq (rgn Try.f24.body 4) .ret) .skip)) (.seq (.seq (rgn Try.f24.body 5) (.cond (.tmp 37) (.seq (rgn Try.f24.body 6) .ret) .skip)) (.seq (.seq (rgn Try.f24.body 7) (.cond (.tmp 50) (.seq (rgn Try.f24.body 8) (.seq (.seq (rgn Try.f24.body 9) (.block 0 (.loop ⟨[0, 1, 5, 6], none, [(0, [5])]⟩ (.seq (.seq (rgn Try.f24.body 10) (.cond (.tmp 58) .skip (.exit 0))) (.seq (.block 1 (rgn Try.f24.body 12)) (rgn Try.f24.body 11)))))) (.seq (rgn Try.f24.body 13) .ret))) .skip)) (.seq (rgn Try.f24.body 14) .ret))))))⟩
theorem fits24 : Fits Try.prog 24 fi24 Try.f24 := ⟨by kernel_rfl, by kernel_rfl, by kernel_rfl, by kernel_rfl, by kernel_rfl⟩
set_option maxRecDepth 100000 in
/-- A round: what is kept: [0, 1, 5, 6]. -/
noncomputable def s24.l0 (call : ACall) (lim : Nat) (v32 : List AV) (h33 : Heap) : Option Res :=
 pu (ixS 6 (v32.getD 0 .junk) (v32.getD 1 .junk)) h33 fun r34 =>
 pu (fa 4 r34.1) r34.2 fun r35 =>
 pu (ld r35.2 r35.1) r35.2 fun r36 =>
 pu (lnS r36.1) r36.2 fun r37 =>
 pu (abin Try.prog .lss 3 (v32.getD 3 .junk) r37.1) r37.2 fun r38 =>
 cn (asB r38.1)
 (pu (ixS 6 (v32.getD 0 .junk) (v32.getD 1 .junk)) r38.2 fun r39 =>
 pu (fa 4 r39.1) r39.2 fun r40 =>
 pu (ld r40.2 r40.1) r40.2 fun r41 =>
 pu (ixS 3 r41.1 (v32.getD 3 .junk)) r41.2 fun r42 =>
 pu (fa 1 r42.1) r42.2 fun r43 =>
 pu (ld r43.2 r43.1) r43.2 fun r44 =>
 bi (call 24 [(v32.getD 0 .junk), r44.1] r44.2) fun r45 =>
 pu (amax (v32.getD 2 .junk) r45.1) r45.2 fun r46 =>
 pu (abin Try.prog .add 3 (v32.getD 3 .junk) (.d (.int .i64 1))) r46.2 fun r47 =>
 some (.normal, [(v32.getD 0 .junk), (v32.getD 1 .junk), r46.1, r47.1], r47.2))
 (some (.exit 0, [(v32.getD 2 .junk)], r38.2))
set_option maxRecDepth 100000 in
noncomputable def s24 (call : ACall) (lim : Nat) (a0 a1 : AV) (H : Heap) : Option Res :=
 bi (call 19 [a0, a1] H) fun r1 =>
 pu (aun .not r1.1) r1.2 fun r2 =>
 gd (yv r2.1) false (some (a0, r2.2)) r2.2 fun r3 =>
 gd (yv r2.1) false (some (a1, r3.2)) r3.2 fun r4 =>
 gd (yv r2.1) false (pm (ixS 6 r3.1 r4.1) r4.2) r4.2 fun r5 =>
 gd (yv r2.1) false (pm (fa 0 r5.1) r5.2) r5.2 fun r6 =>
 gd (yv r2.1) false (pm (ld r6.2 r6.1) r6.2) r6.2 fun r7 =>
 gd (yv r2.1) false (pm (abin Try.prog .eql 3 r7.1 (.d (.int .i64 0))) r7.2) r7.2 fun r8 =>
 bi (pk r2.1 (.d (.bool true)) r8.1 r8.2) fun r9 =>
 gd (yv r9.1) false (some (a0, r9.2)) r9.2 fun r10 =>
 gd (yv r9.1) false (some (a1, r10.2)) r10.2 fun r11 =>
 gd (yv r9.1) false (pm (ixS 6 r10.1 r11.1) r11.2) r11.2 fun r12 =>
 gd (yv r9.1) false (pm (fa 5 r12.1) r12.2) r12.2 fun r13 =>
 gd (yv r9.1) false (pm (ld r13.2 r13.1) r13.2) r13.2 fun r14 =>
 bi (pk r9.1 (.d (.bool true)) r14.1 r14.2) fun r15 =>
 cn (asB r15.1)
 (rt (.d (.int .i64 0)) r15.2)
 (pu (ixS 6 a0 a1) r15.2 fun r16 =>
 pu (fa 0 r16.1) r16.2 fun r17 =>
 pu (ld r17.2 r17.1) r17.2 fun r18 =>
 pu (abin Try.prog .eql 3 r18.1 (.d (.int .i64 2))) r18.2 fun r19 =>
 cn (asB r19.1)
 (rt (.d (.int .i64 1)) r19.2)
 (pu (ixS 6 a0 a1) r19.2 fun r20 =>
 pu (fa 0 r20.1) r20.2 fun r21 =>
 pu (ld r21.2 r21.1) r21.2 fun r22 =>
 pu (abin Try.prog .eql 3 r22.1 (.d (.int .i64 4))) r22.2 fun r23 =>
 cn (asB r23.1)
 (pu (ixS 6 a0 a1) r23.2 fun r24 =>
 pu (fa 1 r24.1) r24.2 fun r25 =>
 pu (ld r25.2 r25.1) r25.2 fun r26 =>
 bi (call 24 [a0, r26.1] r26.2) fun r27 =>
 rt r27.1 r27.2)
 (pu (ixS 6 a0 a1) r23.2 fun r28 =>
 pu (fa 0 r28.1) r28.2 fun r29 =>
 pu (ld r29.2 r29.1) r29.2 fun r30 =>
 pu (abin Try.prog .eql 3 r30.1 (.d (.int .i64 5))) r30.2 fun r31 =>
 cn (asB r31.1)
 (lp (s24.l0 call lim) [a0, a1, .d (.int .i64 1), .d (.int .i64 0)] r31.2 fun j48 =>
 dsp j48.1 none none [(0, rt (gv j48 0) j48.2.2)])
 (rt (.d (.int .i64 4)) r31.2))))

/-! #### rushlight/rushlightref08.next -/
noncomputable def fi37 : FI := ⟨12, 0, [.tmp 4], (.seq (rgn Try.f37.body 0) (.seq (.block 0 (.loop ⟨[0, 1], none, [(0, [0])]⟩ (.seq (.seq (rgn Try.f37.body 1) (.cond (.tmp 8) .skip (.exit 0))) (.block 1 (rgn Try.f37.body 2))))) (.seq (rgn Try.f37.body 3) .ret)))⟩
theorem fits37 : Fits Try.prog 37 fi37 Try.f37 := ⟨by kernel_rfl, by kernel_rfl, by kernel_rfl, by kernel_rfl, by kernel_rfl⟩
set_option maxRecDepth 100000 in
/-- A round: what is kept: [0, 1]. -/
noncomputable def s37.l0 (call : ACall) (lim : Nat) (v1 : List AV) (h2 : Heap) : Option Res :=
 pu (abin Try.prog .rem 3 (v1.getD 0 .junk) (v1.getD 1 .junk)) h2 fun r3 =>
 pu (abin Try.prog .neq 3 r3.1 (.d (.int .i64 0))) r3.2 fun r4 =>
 cn (asB r4.1)
 (pu (abin Try.prog .add 3 (v1.getD 0 .junk) (.d (.int .i64 1))) r4.2 fun r5 =>
 some (.normal, [r5.1, (v1.getD 1 .junk)], r5.2))
 (some (.exit 0, [(v1.getD 0 .junk)], r4.2))
set_option maxRecDepth 100000 in
noncomputable def s37 (call : ACall) (lim : Nat) (a0 a1 : AV) (H : Heap) : Option Res :=
 lp (s37.l0 call lim) [a0, a1] H fun j6 =>
 dsp j6.1 none none [(0, rt (gv j6 0) j6.2.2)]

/-! #### rushlight/rushlightref08.Size -/
noncomputable def fi23 : FI := ⟨92, 0, [.tmp 4], (.seq (rgn Try.f23.body 0) (.seq (.seq (rgn Try.f23.body 1) (.cond (.tmp 26) (.seq (rgn Try.f23.body 2) .ret) .skip)) (.seq (.seq (rgn Try.f23.body 3) (.cond (.tmp 32) (.seq (rgn Try.f23.body 4) .ret) .skip)) (.seq (.seq (rgn Try.f23.body 5) (.cond (.tmp 38) (.seq (rgn Try.f23.body 6) .ret) .skip)) (.seq (.seq (rgn Try.f23.body 7) (.cond (.tmp 57) (.seq (rgn Try.f23.body 8) (.seq (.seq (rgn Try.f23.body 9) (.block 0 (.loop ⟨[0, 1, 5, 6], none, [(0, [0, 1, 5])]⟩ (.seq (.seq (rgn Try.f23.body 10) (.cond (.tmp 65) .skip (.exit 0))) (.seq (.block 1 (.seq (rgn Try.f23.body 12) (rgn Try.f23.body 13))) (rgn Try.f23.body 11)))))) (.seq (rgn Try.f23.body 14) .ret))) .skip)) (.seq (rgn Try.f23.body 15) .ret))))))⟩
theorem fits23 : Fits Try.prog 23 fi23 Try.f23 := ⟨by kernel_rfl, by kernel_rfl, by kernel_rfl, by kernel_rfl, by kernel_rfl⟩
set_option maxRecDepth 100000 in
/-- A round: what is kept: [0, 1, 5, 6]. -/
noncomputable def s23.l0 (call : ACall) (lim : Nat) (v36 : List AV) (h37 : Heap) : Option Res :=
 pu (ixS 6 (v36.getD 0 .junk) (v36.getD 1 .junk)) h37 fun r38 =>
 pu (fa 4 r38.1) r38.2 fun r39 =>
 pu (ld r39.2 r39.1) r39.2 fun r40 =>
 pu (lnS r40.1) r40.2 fun r41 =>
 pu (abin Try.prog .lss 3 (v36.getD 3 .junk) r41.1) r41.2 fun r42 =>
 cn (asB r42.1)
 (pu (ixS 6 (v36.getD 0 .junk) (v36.getD 1 .junk)) r42.2 fun r43 =>
 pu (fa 4 r43.1) r43.2 fun r44 =>
 pu (ld r44.2 r44.1) r44.2 fun r45 =>
 pu (ixS 3 r45.1 (v36.getD 3 .junk)) r45.2 fun r46 =>
 pu (ldA 3 r46.2 r46.1) r46.2 fun r47 =>
 bi (al [.d (.str ⟨#[]⟩), .d (.int .i64 0), .d (.int .i64 0)] r47.2) fun r48 =>
 bi (stA 3 lim r48.2 r48.1 r47.1) fun r49 =>
 pu (fa 1 r48.1) r49.2 fun r50 =>
 pu (ld r50.2 r50.1) r50.2 fun r51 =>
 bi (call 24 [(v36.getD 0 .junk), r51.1] r51.2) fun r52 =>
 bi (call 37 [(v36.getD 2 .junk), r52.1] r52.2) fun r53 =>
 pu (fa 1 r48.1) r53.2 fun r54 =>
 pu (ld r54.2 r54.1) r54.2 fun r55 =>
 bi (call 23 [(v36.getD 0 .junk), r55.1] r55.2) fun r56 =>
 pu (abin Try.prog .add 3 r53.1 r56.1) r56.2 fun r57 =>
 pu (abin Try.prog .add 3 (v36.getD 3 .junk) (.d (.int .i64 1))) r57.2 fun r58 =>
 some (.normal, [(v36.getD 0 .junk), (v36.getD 1 .junk), r57.1, r58.1], r58.2))
 (some (.exit 0, [(v36.getD 0 .junk), (v36.getD 1 .junk), (v36.getD 2 .junk)], r42.2))
set_option maxRecDepth 100000 in
noncomputable def s23 (call : ACall) (lim : Nat) (a0 a1 : AV) (H : Heap) : Option Res :=
 bi (call 19 [a0, a1] H) fun r1 =>
 pu (aun .not r1.1) r1.2 fun r2 =>
 gd (yv r2.1) false (some (a0, r2.2)) r2.2 fun r3 =>
 gd (yv r2.1) false (some (a1, r3.2)) r3.2 fun r4 =>
 gd (yv r2.1) false (pm (ixS 6 r3.1 r4.1) r4.2) r4.2 fun r5 =>
 gd (yv r2.1) false (pm (fa 0 r5.1) r5.2) r5.2 fun r6 =>
 gd (yv r2.1) false (pm (ld r6.2 r6.1) r6.2) r6.2 fun r7 =>
 gd (yv r2.1) false (pm (abin Try.prog .eql 3 r7.1 (.d (.int .i64 0))) r7.2) r7.2 fun r8 =>
 bi (pk r2.1 (.d (.bool true)) r8.1 r8.2) fun r9 =>
 gd (yv r9.1) false (some (a0, r9.2)) r9.2 fun r10 =>
 gd (yv r9.1) false (some (a1, r10.2)) r10.2 fun r11 =>
 gd (yv r9.1) false (pm (ixS 6 r10.1 r11.1) r11.2) r11.2 fun r12 =>
 gd (yv r9.1) false (pm (fa 5 r12.1) r12.2) r12.2 fun r13 =>
 gd (yv r9.1) false (pm (ld r13.2 r13.1) r13.2) r13.2 fun r14 =>
 bi (pk r9.1 (.d (.bool true)) r14.1 r14.2) fun r15 =>
 cn (asB r15.1)
 (rt (.d (.int .i64 0)) r15.2)
 (pu (ixS 6 a0 a1) r15.2 fun r16 =>
 pu (fa 0 r16.1) r16.2 fun r17 =>
 pu (ld r17.2 r17.1) r17.2 fun r18 =>
 pu (abin Try.prog .eql 3 r18.1 (.d (.int .i64 2))) r18.2 fun r19 =>
 cn (asB r19.1)
 (rt (.d (.int .i64 1)) r19.2)
 (pu (ixS 6 a0 a1) r19.2 fun r20 =>
 pu (fa 0 r20.1) r20.2 fun r21 =>
 pu (ld r21.2 r21.1) r21.2 fun r22 =>
 pu (abin Try.prog .eql 3 r22.1 (.d (.int .i64 4))) r22.2 fun r23 =>
 cn (asB r23.1)
 (pu (ixS 6 a0 a1) r23.2 fun r24 =>
 pu (fa 2 r24.1) r24.2 fun r25 =>
 pu (ld r25.2 r25.1) r25.2 fun r26 =>
 pu (ixS 6 a0 a1) r26.2 fun r27 =>
 pu (fa 1 r27.1) r27.2 fun r28 =>
 pu (ld r28.2 r28.1) r28.2 fun r29 =>
 bi (call 23 [a0, r29.1] r29.2) fun r30 =>
 pu (abin Try.prog .mul 3 r26.1 r30.1) r30.2 fun r31 =>
 rt r31.1 r31.2)
 (pu (ixS 6 a0 a1) r23.2 fun r32 =>
 pu (fa 0 r32.1) r32.2 fun r33 =>
 pu (ld r33.2 r33.1) r33.2 fun r34 =>
 pu (abin Try.prog .eql 3 r34.1 (.d (.int .i64 5))) r34.2 fun r35 =>
 cn (asB r35.1)
 (lp (s23.l0 call lim) [a0, a1, .d (.int .i64 0), .d (.int .i64 0)] r35.2 fun j59 =>
 dsp j59.1 none none [(0, bi (call 24 [(gv j59 0), (gv j59 1)] j59.2.2) fun r60 =>
 bi (call 37 [(gv j59 2), r60.1] r60.2) fun r61 =>
 rt r61.1 r61.2)])
 (rt (.d (.int .i64 4)) r35.2))))

/-! #### rushlight/rushlightref08.Array -/
noncomputable def fi30 : FI := ⟨40, 0, [.cell 6 30], (.seq (rgn Try.f30.body 0) (.seq (.seq (rgn Try.f30.body 1) (.cond (.tmp 11) (.seq (rgn Try.f30.body 2) .ret) .skip)) (.seq (rgn Try.f30.body 3) (.seq (.seq (rgn Try.f30.body 4) (.cond (.tmp 18) (.seq (rgn Try.f30.body 5) .ret) .skip)) (.seq (.seq (rgn Try.f30.body 6) (.cond (.tmp 22) (.seq (rgn Try.f30.body 7) .ret) .skip)) (.seq (.seq (rgn Try.f30.body 8) (.cond (.tmp 32) (.seq (rgn Try.f30.body 9) .ret) .skip)) (.seq (rgn Try.f30.body 10) .ret)))))))⟩
theorem fits30 : Fits Try.prog 30 fi30 Try.f30 := ⟨by kernel_rfl, by kernel_rfl, by kernel_rfl, by kernel_rfl, by kernel_rfl⟩
set_option maxRecDepth 100000 in
noncomputable def s30 (call : ACall) (lim : Nat) (a0 a1 a2 : AV) (H : Heap) : Option Res :=
 bi (al [.d (.int .i64 0), .d (.seq true 0 []), .d (.int .i64 0)] H) fun r1 =>
 bi (call 19 [a0, a1] r1.2) fun r2 =>
 pu (aun .not r2.1) r2.2 fun r3 =>
 cn (asB r3.1)
 (pu (bld [(0, 1), (1, 1), (2, 1)] [.d (.int .i64 0), .d (.seq true 0 []), .d (.int .i64 0)] [(1, a0), (2, .d (.int .i64 4))]) r3.2 fun r4 =>
 bi (stA 3 lim r4.2 r1.1 r4.1) fun r5 =>
 rs [ldA 3 r5.2 r1.1] r5.2)
 (bi (call 23 [a0, a1] r3.2) fun r6 =>
 pu (abin Try.prog .eql 3 r6.1 (.d (.int .i64 0))) r6.2 fun r7 =>
 cn (asB r7.1)
 (pu (bld [(0, 1), (1, 1), (2, 1)] [.d (.int .i64 0), .d (.seq true 0 []), .d (.int .i64 0)] [(1, a0), (2, .d (.int .i64 5))]) r7.2 fun r8 =>
 bi (stA 3 lim r8.2 r1.1 r8.1) fun r9 =>
 rs [ldA 3 r9.2 r1.1] r9.2)
 (pu (abin Try.prog .lss 3 a2 (.d (.int .i64 1))) r7.2 fun r10 =>
 cn (asB r10.1)
 (pu (bld [(0, 1), (1, 1), (2, 1)] [.d (.int .i64 0), .d (.seq true 0 []), .d (.int .i64 0)] [(1, a0), (2, .d (.int .i64 1))]) r10.2 fun r11 =>
 bi (stA 3 lim r11.2 r1.1 r11.1) fun r12 =>
 rs [ldA 3 r12.2 r1.1] r12.2)
 (pu (abin Try.prog .gtr 3 a2 (.d (.int .i64 32768))) r10.2 fun r13 =>
 gd (yv r13.1) false (some (a2, r13.2)) r13.2 fun r14 =>
 gd (yv r13.1) false (some (r6.1, r14.2)) r14.2 fun r15 =>
 gd (yv r13.1) false (pm (abin Try.prog .mul 3 r14.1 r15.1) r15.2) r15.2 fun r16 =>
 gd (yv r13.1) false (pm (abin Try.prog .gtr 3 r16.1 (.d (.int .i64 32768))) r16.2) r16.2 fun r17 =>
 bi (pk r13.1 (.d (.bool true)) r17.1 r17.2) fun r18 =>
 cn (asB r18.1)
 (pu (bld [(0, 1), (1, 1), (2, 1)] [.d (.int .i64 0), .d (.seq true 0 []), .d (.int .i64 0)] [(1, a0), (2, .d (.int .i64 2))]) r18.2 fun r19 =>
 bi (stA 3 lim r19.2 r1.1 r19.1) fun r20 =>
 rs [ldA 3 r20.2 r1.1] r20.2)
 (pu (bld [(0, 1), (1, 1), (2, 1), (3, 1), (4, 1), (5, 1)] [.d (.int .i64 0), .d (.int .i64 0), .d (.int .i64 0), .d (.str ⟨#[]⟩), .d (.seq true 0 []), .d (.bool false)] [(0, .d (.int .i64 4)), (1, a1), (2, a2)]) r18.2 fun r21 =>
 bi (call 41 [a0, r21.1] r21.2) fun r22 =>
 bi (stA 3 lim r22.2 r1.1 r22.1) fun r23 =>
 rs [ldA 3 r23.2 r1.1] r23.2))))

/-! #### rushlight/rushlightref08.Find -/
noncomputable def fi17 : FI := ⟨28, 0, [.tmp 4], (.seq (rgn Try.f17.body 0) (.seq (.seq (rgn Try.f17.body 1) (.block 0 (.loop ⟨[0, 1, 5], some [4], [(0, [])]⟩ (.seq (.seq (rgn Try.f17.body 2) (.cond (.tmp 9) .skip (.exit 0))) (.seq (.block 1 (.seq (rgn Try.f17.body 4) (.cond (.tmp 26) (.seq (rgn Try.f17.body 5) .ret) .skip))) (rgn Try.f17.body 3)))))) (.seq (rgn Try.f17.body 6) .ret)))⟩
theorem fits17 : Fits Try.prog 17 fi17 Try.f17 := ⟨by kernel_rfl, by kernel_rfl, by kernel_rfl, by kernel_rfl, by kernel_rfl⟩
set_option maxRecDepth 100000 in
/-- A round: what is kept: [0, 1, 5]. -/
noncomputable def s17.l0 (call : ACall) (lim : Nat) (v1 : List AV) (h2 : Heap) : Option Res :=
 pu (lnS (v1.getD 0 .junk)) h2 fun r3 =>
 pu (abin Try.prog .lss 3 (v1.getD 2 .junk) r3.1) r3.2 fun r4 =>
 cn (asB r4.1)
 (pu (ixS 6 (v1.getD 0 .junk) (v1.getD 2 .junk)) r4.2 fun r5 =>
 pu (fa 0 r5.1) r5.2 fun r6 =>
 pu (ld r6.2 r6.1) r6.2 fun r7 =>
 pu (abin Try.prog .eql 3 r7.1 (.d (.int .i64 5))) r7.2 fun r8 =>
 gd (yv r8.1) true (some ((v1.getD 0 .junk), r8.2)) r8.2 fun r9 =>
 gd (yv r8.1) true (some ((v1.getD 2 .junk), r9.2)) r9.2 fun r10 =>
 gd (yv r8.1) true (pm (ixS 6 r9.1 r10.1) r10.2) r10.2 fun r11 =>
 gd (yv r8.1) true (pm (fa 3 r11.1) r11.2) r11.2 fun r12 =>
 gd (yv r8.1) true (pm (ld r12.2 r12.1) r12.2) r12.2 fun r13 =>
 gd (yv r8.1) true (some ((v1.getD 1 .junk), r13.2)) r13.2 fun r14 =>
 gd (yv r8.1) true (pm (abin Try.prog .eql 9 r13.1 r14.1) r14.2) r14.2 fun r15 =>
 bi (pk r8.1 r15.1 (.d (.bool false)) r15.2) fun r16 =>
 cn (asB r16.1)
 (some (.ret, [(v1.getD 2 .junk)], r16.2))
 (pu (abin Try.prog .add 3 (v1.getD 2 .junk) (.d (.int .i64 1))) r16.2 fun r17 =>
 some (.normal, [(v1.getD 0 .junk), (v1.getD 1 .junk), r17.1], r17.2)))
 (some (.exit 0, [], r4.2))
set_option maxRecDepth 100000 in
noncomputable def s17 (call : ACall) (lim : Nat) (a0 a1 : AV) (H : Heap) : Option Res :=
 lp (s17.l0 call lim) [a0, a1, .d (.int .i64 0)] H fun j18 =>
 dsp j18.1 none (rt (gv j18 0) j18.2.2) [(0, rt (.d (.int .i64 (-1))) j18.2.2)]

/-! #### rushlight/rushlightref08.Open -/
noncomputable def fi31 : FI := ⟨19, 0, [.cell 4 30], (.seq (rgn Try.f31.body 0) (.seq (.seq (rgn Try.f31.body 1) (.cond (.tmp 6) (.seq (rgn Try.f31.body 2) .ret) .skip)) (.seq (.seq (rgn Try.f31.body 3) (.cond (.tmp 12) (.seq (rgn Try.f31.body 4) .ret) .skip)) (.seq (rgn Try.f31.body 5) .ret))))⟩
theorem fits31 : Fits Try.prog 31 fi31 Try.f31 := ⟨by kernel_rfl, by kernel_rfl, by kernel_rfl, by kernel_rfl, by kernel_rfl⟩
set_option maxRecDepth 100000 in
noncomputable def s31 (call : ACall) (lim : Nat) (a0 a1 : AV) (H : Heap) : Option Res :=
 bi (al [.d (.int .i64 0), .d (.seq true 0 []), .d (.int .i64 0)] H) fun r1 =>
 pu (abin Try.prog .eql 9 a1 (.d (.str ⟨#[]⟩))) r1.2 fun r2 =>
 cn (asB r2.1)
 (pu (bld [(0, 1), (1, 1), (2, 1)] [.d (.int .i64 0), .d (.seq true 0 []), .d (.int .i64 0)] [(1, a0), (2, .d (.int .i64 1))]) r2.2 fun r3 =>
 bi (stA 3 lim r3.2 r1.1 r3.1) fun r4 =>
 rs [ldA 3 r4.2 r1.1] r4.2)
 (bi (call 17 [a0, a1] r2.2) fun r5 =>
 pu (abin Try.prog .geq 3 r5.1 (.d (.int .i64 0))) r5.2 fun r6 =>
 cn (asB r6.1)
 (pu (bld [(0, 1), (1, 1), (2, 1)] [.d (.int .i64 0), .d (.seq true 0 []), .d (.int .i64 0)] [(1, a0), (2, .d (.int .i64 6))]) r6.2 fun r7 =>
 bi (stA 3 lim r7.2 r1.1 r7.1) fun r8 =>
 rs [ldA 3 r8.2 r1.1] r8.2)
 (pu (bld [(0, 1), (1, 1), (2, 1), (3, 1), (4, 1), (5, 1)] [.d (.int .i64 0), .d (.int .i64 0), .d (.int .i64 0), .d (.str ⟨#[]⟩), .d (.seq true 0 []), .d (.bool false)] [(0, .d (.int .i64 5)), (3, a1), (5, .d (.bool true))]) r6.2 fun r9 =>
 bi (call 41 [a0, r9.1] r9.2) fun r10 =>
 bi (stA 3 lim r10.2 r1.1 r10.1) fun r11 =>
 rs [ldA 3 r11.2 r1.1] r11.2))

/-! #### rushlight/rushlightref08.may -/
noncomputable def fi42 : FI := ⟨75, 0, [.tmp 4], (.seq (rgn Try.f42.body 0) (.seq (.seq (rgn Try.f42.body 1) (.cond (.tmp 12) (.seq (rgn Try.f42.body 2) .ret) .skip)) (.seq (.seq (rgn Try.f42.body 3) (.block 0 (.loop ⟨[0, 1, 5], some [4], [(0, [0, 1])]⟩ (.seq (.seq (rgn Try.f42.body 4) (.cond (.tmp 16) .skip (.exit 0))) (.seq (.block 1 (.seq (rgn Try.f42.body 6) (.cond (.tmp 24) (.seq (rgn Try.f42.body 7) .ret) .skip))) (rgn Try.f42.body 5)))))) (.seq (.seq (rgn Try.f42.body 8) (.block 2 (.loop ⟨[0, 1, 6], some [4], [(2, [0, 1])]⟩ (.seq (.seq (rgn Try.f42.body 9) (.cond (.tmp 28) .skip (.exit 2))) (.seq (.block 3 (.seq (rgn Try.f42.body 11) (.cond (.tmp 38) (.seq (rgn Try.f42.body 12) .ret) .skip))) (rgn Try.f42.body 10)))))) (.seq (.seq (rgn Try.f42.body 13) (.block 4 (.loop ⟨[0, 1, 7], some [4], [(4, [1])]⟩ (.seq (.seq (rgn Try.f42.body 14) (.cond (.tmp 42) .skip (.exit 4))) (.seq (.block 5 (.seq (rgn Try.f42.body 16) (.cond (.tmp 52) (.seq (rgn Try.f42.body 17) .ret) .skip))) (rgn Try.f42.body 15)))))) (.seq (.seq (rgn Try.f42.body 18) (.block 6 (.loop ⟨[1, 8], some [4], [(6, [])]⟩ (.seq (.seq (rgn Try.f42.body 19) (.cond (.tmp 56) .skip (.exit 6))) (.seq (.block 7 (.seq (rgn Try.f42.body 21) (.block 8 (.loop ⟨[1, 8, 9], some [4], [(8, [1, 8])]⟩ (.seq (.seq (rgn Try.f42.body 22) (.cond (.tmp 61) .skip (.exit 8))) (.seq (.block 9 (.seq (rgn Try.f42.body 24) (.cond (.tmp 74) (.seq (rgn Try.f42.body 25) .ret) .skip))) (rgn Try.f42.body 23))))))) (rgn Try.f42.body 20)))))) (.seq (rgn Try.f42.body 26) .ret)))))))⟩
theorem fits42 : Fits Try.prog 42 fi42 Try.f42 := ⟨by kernel_rfl, by kernel_rfl, by kernel_rfl, by kernel_rfl, by kernel_rfl⟩
set_option maxRecDepth 100000 in
/-- A round: what is kept: [0, 1, 5]. -/
noncomputable def s42.l0 (call : ACall) (lim : Nat) (v3 : List AV) (h4 : Heap) : Option Res :=
 pu (lnS (v3.getD 1 .junk)) h4 fun r5 =>
 pu (abin Try.prog .lss 3 (v3.getD 2 .junk) r5.1) r5.2 fun r6 =>
 cn (asB r6.1)
 (pu (ixS 3 (v3.getD 1 .junk) (v3.getD 2 .junk)) r6.2 fun r7 =>
 pu (fa 0 r7.1) r7.2 fun r8 =>
 pu (ld r8.2 r8.1) r8.2 fun r9 =>
 pu (abin Try.prog .eql 9 r9.1 (.d (.str ⟨#[]⟩))) r9.2 fun r10 =>
 cn (asB r10.1)
 (some (.ret, [.d (.int .i64 1)], r10.2))
 (pu (abin Try.prog .add 3 (v3.getD 2 .junk) (.d (.int .i64 1))) r10.2 fun r11 =>
 some (.normal, [(v3.getD 0 .junk), (v3.getD 1 .junk), r11.1], r11.2)))
 (some (.exit 0, [(v3.getD 0 .junk), (v3.getD 1 .junk)], r6.2))
set_option maxRecDepth 100000 in
/-- A round: what is kept: [0, 1, 6]. -/
noncomputable def s42.l1 (call : ACall) (lim : Nat) (v13 : List AV) (h14 : Heap) : Option Res :=
 pu (lnS (v13.getD 1 .junk)) h14 fun r15 =>
 pu (abin Try.prog .lss 3 (v13.getD 2 .junk) r15.1) r15.2 fun r16 =>
 cn (asB r16.1)
 (pu (ixS 3 (v13.getD 1 .junk) (v13.getD 2 .junk)) r16.2 fun r17 =>
 pu (fa 1 r17.1) r17.2 fun r18 =>
 pu (ld r18.2 r18.1) r18.2 fun r19 =>
 bi (call 19 [(v13.getD 0 .junk), r19.1] r19.2) fun r20 =>
 pu (aun .not r20.1) r20.2 fun r21 =>
 cn (asB r21.1)
 (some (.ret, [.d (.int .i64 4)], r21.2))
 (pu (abin Try.prog .add 3 (v13.getD 2 .junk) (.d (.int .i64 1))) r21.2 fun r22 =>
 some (.normal, [(v13.getD 0 .junk), (v13.getD 1 .junk), r22.1], r22.2)))
 (some (.exit 2, [(v13.getD 0 .junk), (v13.getD 1 .junk)], r16.2))
set_option maxRecDepth 100000 in
/-- A round: what is kept: [0, 1, 7]. -/
noncomputable def s42.l2 (call : ACall) (lim : Nat) (v24 : List AV) (h25 : Heap) : Option Res :=
 pu (lnS (v24.getD 1 .junk)) h25 fun r26 =>
 pu (abin Try.prog .lss 3 (v24.getD 2 .junk) r26.1) r26.2 fun r27 =>
 cn (asB r27.1)
 (pu (ixS 3 (v24.getD 1 .junk) (v24.getD 2 .junk)) r27.2 fun r28 =>
 pu (fa 1 r28.1) r28.2 fun r29 =>
 pu (ld r29.2 r29.1) r29.2 fun r30 =>
 bi (call 23 [(v24.getD 0 .junk), r30.1] r30.2) fun r31 =>
 pu (abin Try.prog .eql 3 r31.1 (.d (.int .i64 0))) r31.2 fun r32 =>
 cn (asB r32.1)
 (some (.ret, [.d (.int .i64 5)], r32.2))
 (pu (abin Try.prog .add 3 (v24.getD 2 .junk) (.d (.int .i64 1))) r32.2 fun r33 =>
 some (.normal, [(v24.getD 0 .junk), (v24.getD 1 .junk), r33.1], r33.2)))
 (some (.exit 4, [(v24.getD 1 .junk)], r27.2))
set_option maxRecDepth 100000 in
/-- A round: what is kept: [1, 8, 9]. -/
noncomputable def s42.l3 (call : ACall) (lim : Nat) (v39 : List AV) (h40 : Heap) : Option Res :=
 pu (abin Try.prog .lss 3 (v39.getD 2 .junk) (v39.getD 1 .junk)) h40 fun r41 =>
 cn (asB r41.1)
 (pu (ixS 3 (v39.getD 0 .junk) (v39.getD 2 .junk)) r41.2 fun r42 =>
 pu (fa 0 r42.1) r42.2 fun r43 =>
 pu (ld r43.2 r43.1) r43.2 fun r44 =>
 pu (ixS 3 (v39.getD 0 .junk) (v39.getD 1 .junk)) r44.2 fun r45 =>
 pu (fa 0 r45.1) r45.2 fun r46 =>
 pu (ld r46.2 r46.1) r46.2 fun r47 =>
 pu (abin Try.prog .eql 9 r44.1 r47.1) r47.2 fun r48 =>
 cn (asB r48.1)
 (some (.ret, [.d (.int .i64 6)], r48.2))
 (pu (abin Try.prog .add 3 (v39.getD 2 .junk) (.d (.int .i64 1))) r48.2 fun r49 =>
 some (.normal, [(v39.getD 0 .junk), (v39.getD 1 .junk), r49.1], r49.2)))
 (some (.exit 8, [(v39.getD 0 .junk), (v39.getD 1 .junk)], r41.2))
set_option maxRecDepth 100000 in
/-- A round: what is kept: [1, 8]. -/
noncomputable def s42.l4 (call : ACall) (lim : Nat) (v35 : List AV) (h36 : Heap) : Option Res :=
 pu (lnS (v35.getD 0 .junk)) h36 fun r37 =>
 pu (abin Try.prog .lss 3 (v35.getD 1 .junk) r37.1) r37.2 fun r38 =>
 cn (asB r38.1)
 (lp (s42.l3 call lim) [(v35.getD 0 .junk), (v35.getD 1 .junk), .d (.int .i64 0)] r38.2 fun j50 =>
 dsp j50.1 none (some (.ret, [(gv j50 0)], j50.2.2)) [(8, pu (abin Try.prog .add 3 (gv j50 1) (.d (.int .i64 1))) j50.2.2 fun r51 =>
 some (.normal, [(gv j50 0), r51.1], r51.2))])
 (some (.exit 6, [], r38.2))
set_option maxRecDepth 100000 in
noncomputable def s42 (call : ACall) (lim : Nat) (a0 a1 : AV) (H : Heap) : Option Res :=
 pu (lnS a1) H fun r1 =>
 pu (abin Try.prog .eql 3 r1.1 (.d (.int .i64 0))) r1.2 fun r2 =>
 cn (asB r2.1)
 (rt (.d (.int .i64 1)) r2.2)
 (lp (s42.l0 call lim) [a0, a1, .d (.int .i64 0)] r2.2 fun j12 =>
 dsp j12.1 none (rt (gv j12 0) j12.2.2) [(0, lp (s42.l1 call lim) [(gv j12 0), (gv j12 1), .d (.int .i64 0)] j12.2.2 fun j23 =>
 dsp j23.1 none (rt (gv j23 0) j23.2.2) [(2, lp (s42.l2 call lim) [(gv j23 0), (gv j23 1), .d (.int .i64 0)] j23.2.2 fun j34 =>
 dsp j34.1 none (rt (gv j34 0) j34.2.2) [(4, lp (s42.l4 call lim) [(gv j34 0), .d (.int .i64 0)] j34.2.2 fun j52 =>
 dsp j52.1 none (rt (gv j52 0) j52.2.2) [(6, rt (.d (.int .i64 0)) j52.2.2)])])])])

/-! #### rushlight/rushlightref08.Struct -/
noncomputable def fi32 : FI := ⟨107, 0, [.cell 6 30], (.seq (rgn Try.f32.body 0) (.seq (rgn Try.f32.body 1) (.seq (.seq (rgn Try.f32.body 2) (.cond (.tmp 27) (.seq (rgn Try.f32.body 3) .ret) .skip)) (.seq (.seq (rgn Try.f32.body 4) (.cond (.tmp 33) (.seq (rgn Try.f32.body 5) .ret) .skip)) (.seq (rgn Try.f32.body 6) (.seq (rgn Try.f32.body 7) (.seq (.seq (rgn Try.f32.body 8) (.block 0 (.loop ⟨[0, 1, 2, 6, 7, 8, 9, 10], none, [(0, [0, 1, 6, 7, 8])]⟩ (.seq (.seq (rgn Try.f32.body 9) (.cond (.tmp 42) .skip (.exit 0))) (.seq (.block 1 (.seq (rgn Try.f32.body 11) (.seq (rgn Try.f32.body 12) (rgn Try.f32.body 13)))) (rgn Try.f32.body 10)))))) (.seq (rgn Try.f32.body 14) (.seq (.seq (rgn Try.f32.body 15) (.block 2 (.loop ⟨[0, 1, 6, 7, 8, 12, 13], none, [(2, [0, 6, 7, 12])]⟩ (.seq (.seq (rgn Try.f32.body 16) (.cond (.tmp 81) .skip (.exit 2))) (.seq (.block 3 (.seq (rgn Try.f32.body 18) (.cut ⟨[0, 1, 6, 7, 8, 12, 13, 14], none, []⟩ (.seq (rgn Try.f32.body 19) (.cond (.tmp 90) (rgn Try.f32.body 20) .skip)) (rgn Try.f32.body 21)))) (rgn Try.f32.body 17)))))) (.seq (.seq (rgn Try.f32.body 22) (.cond (.tmp 101) (.seq (rgn Try.f32.body 23) .ret) .skip)) (.seq (rgn Try.f32.body 24) .ret)))))))))))⟩
theorem fits32 : Fits Try.prog 32 fi32 Try.f32 := ⟨by kernel_rfl, by kernel_rfl, by kernel_rfl, by kernel_rfl, by kernel_rfl⟩
set_option maxRecDepth 100000 in
/-- A round: what is kept: [0, 1, 2, 6, 7, 8, 9, 10]. -/
noncomputable def s32.l0 (call : ACall) (lim : Nat) (v18 : List AV) (h19 : Heap) : Option Res :=
 pu (lnS (v18.getD 2 .junk)) h19 fun r20 =>
 pu (abin Try.prog .lss 3 (v18.getD 7 .junk) r20.1) r20.2 fun r21 =>
 cn (asB r21.1)
 (pu (ixS 3 (v18.getD 2 .junk) (v18.getD 7 .junk)) r21.2 fun r22 =>
 pu (fa 1 r22.1) r22.2 fun r23 =>
 pu (ld r23.2 r23.1) r23.2 fun r24 =>
 bi (call 24 [(v18.getD 0 .junk), r24.1] r24.2) fun r25 =>
 bi (call 37 [(v18.getD 6 .junk), r25.1] r25.2) fun r26 =>
 pu (ixS 3 (v18.getD 2 .junk) (v18.getD 7 .junk)) r26.2 fun r27 =>
 pu (fa 0 r27.1) r27.2 fun r28 =>
 pu (ld r28.2 r28.1) r28.2 fun r29 =>
 pu (ixS 3 (v18.getD 2 .junk) (v18.getD 7 .junk)) r29.2 fun r30 =>
 pu (fa 1 r30.1) r30.2 fun r31 =>
 pu (ld r31.2 r31.1) r31.2 fun r32 =>
 pu (bld [(0, 1), (1, 1), (2, 1)] [.d (.str ⟨#[]⟩), .d (.int .i64 0), .d (.int .i64 0)] [(0, r29.1), (1, r32.1), (2, r26.1)]) r32.2 fun r33 =>
 bi (bldS 3 1 [.d (.str ⟨#[]⟩), .d (.int .i64 0), .d (.int .i64 0)] [(0, r33.1)] r33.2) fun r34 =>
 bi (app 3 32 lim r34.2 (v18.getD 5 .junk) (elS 3 r34.2 r34.1)) fun r35 =>
 pu (ixS 3 (v18.getD 2 .junk) (v18.getD 7 .junk)) r35.2 fun r36 =>
 pu (fa 1 r36.1) r36.2 fun r37 =>
 pu (ld r37.2 r37.1) r37.2 fun r38 =>
 bi (call 23 [(v18.getD 0 .junk), r38.1] r38.2) fun r39 =>
 pu (abin Try.prog .add 3 r26.1 r39.1) r39.2 fun r40 =>
 pu (abin Try.prog .add 3 (v18.getD 7 .junk) (.d (.int .i64 1))) r40.2 fun r41 =>
 some (.normal, [(v18.getD 0 .junk), (v18.getD 1 .junk), (v18.getD 2 .junk), (v18.getD 3 .junk), (v18.getD 4 .junk), r35.1, r40.1, r41.1], r41.2))
 (some (.exit 0, [(v18.getD 0 .junk), (v18.getD 1 .junk), (v18.getD 3 .junk), (v18.getD 4 .junk), (v18.getD 5 .junk)], r21.2))
set_option maxRecDepth 100000 in
/-- A round: what is kept: [0, 1, 6, 7, 8, 12, 13]. -/
noncomputable def s32.l1 (call : ACall) (lim : Nat) (v43 : List AV) (h44 : Heap) : Option Res :=
 pu (lnS (v43.getD 0 .junk)) h44 fun r45 =>
 pu (abin Try.prog .lss 3 (v43.getD 6 .junk) r45.1) r45.2 fun r46 =>
 cn (asB r46.1)
 (pu (ixS 6 (v43.getD 0 .junk) (v43.getD 6 .junk)) r46.2 fun r47 =>
 pu (ldA 6 r47.2 r47.1) r47.2 fun r48 =>
 bi (al [.d (.int .i64 0), .d (.int .i64 0), .d (.int .i64 0), .d (.str ⟨#[]⟩), .d (.seq true 0 []), .d (.bool false)] r48.2) fun r49 =>
 bi (stA 6 lim r49.2 r49.1 r48.1) fun r50 =>
 jn
 (pu (abin Try.prog .eql 3 (v43.getD 6 .junk) (v43.getD 3 .junk)) r50.2 fun r51 =>
 cn (asB r51.1)
 (pu (bld [(0, 1), (1, 1), (2, 1), (3, 1), (4, 1), (5, 1)] [.d (.int .i64 0), .d (.int .i64 0), .d (.int .i64 0), .d (.str ⟨#[]⟩), .d (.seq true 0 []), .d (.bool false)] [(0, .d (.int .i64 5)), (3, (v43.getD 1 .junk)), (4, (v43.getD 4 .junk))]) r51.2 fun r52 =>
 bi (stA 6 lim r52.2 r49.1 r52.1) fun r53 =>
 some (.normal, [(v43.getD 0 .junk), (v43.getD 1 .junk), (v43.getD 2 .junk), (v43.getD 3 .junk), (v43.getD 4 .junk), (v43.getD 5 .junk), (v43.getD 6 .junk), r49.1], r53.2))
 (some (.normal, [(v43.getD 0 .junk), (v43.getD 1 .junk), (v43.getD 2 .junk), (v43.getD 3 .junk), (v43.getD 4 .junk), (v43.getD 5 .junk), (v43.getD 6 .junk), r49.1], r51.2))) fun j54 =>
 dsp j54.1 (pu (ldA 6 j54.2.2 (gv j54 7)) j54.2.2 fun r55 =>
 bi (bldS 6 1 [.d (.int .i64 0), .d (.int .i64 0), .d (.int .i64 0), .d (.str ⟨#[]⟩), .d (.seq true 0 []), .d (.bool false)] [(0, r55.1)] r55.2) fun r56 =>
 bi (app 6 72 lim r56.2 (gv j54 5) (elS 6 r56.2 r56.1)) fun r57 =>
 pu (abin Try.prog .add 3 (gv j54 6) (.d (.int .i64 1))) r57.2 fun r58 =>
 some (.normal, [(gv j54 0), (gv j54 1), (gv j54 2), (gv j54 3), (gv j54 4), r57.1, r58.1], r58.2)) none [])
 (some (.exit 2, [(v43.getD 0 .junk), (v43.getD 2 .junk), (v43.getD 3 .junk), (v43.getD 5 .junk)], r46.2))
set_option maxRecDepth 100000 in
noncomputable def s32 (call : ACall) (lim : Nat) (a0 a1 a2 : AV) (H : Heap) : Option Res :=
 bi (al [.d (.int .i64 0), .d (.seq true 0 []), .d (.int .i64 0)] H) fun r1 =>
 bi (call 17 [a0, a1] r1.2) fun r2 =>
 pu (abin Try.prog .lss 3 r2.1 (.d (.int .i64 0))) r2.2 fun r3 =>
 gd (yv r3.1) false (some (a0, r3.2)) r3.2 fun r4 =>
 gd (yv r3.1) false (some (r2.1, r4.2)) r4.2 fun r5 =>
 gd (yv r3.1) false (pm (ixS 6 r4.1 r5.1) r5.2) r5.2 fun r6 =>
 gd (yv r3.1) false (pm (fa 5 r6.1) r6.2) r6.2 fun r7 =>
 gd (yv r3.1) false (pm (ld r7.2 r7.1) r7.2) r7.2 fun r8 =>
 gd (yv r3.1) false (pm (aun .not r8.1) r8.2) r8.2 fun r9 =>
 bi (pk r3.1 (.d (.bool true)) r9.1 r9.2) fun r10 =>
 cn (asB r10.1)
 (pu (bld [(0, 1), (1, 1), (2, 1)] [.d (.int .i64 0), .d (.seq true 0 []), .d (.int .i64 0)] [(1, a0), (2, .d (.int .i64 4))]) r10.2 fun r11 =>
 bi (stA 3 lim r11.2 r1.1 r11.1) fun r12 =>
 rs [ldA 3 r12.2 r1.1] r12.2)
 (bi (call 42 [a0, a2] r10.2) fun r13 =>
 pu (abin Try.prog .neq 3 r13.1 (.d (.int .i64 0))) r13.2 fun r14 =>
 cn (asB r14.1)
 (bi (call 42 [a0, a2] r14.2) fun r15 =>
 pu (bld [(0, 1), (1, 1), (2, 1)] [.d (.int .i64 0), .d (.seq true 0 []), .d (.int .i64 0)] [(1, a0), (2, r15.1)]) r15.2 fun r16 =>
 bi (stA 3 lim r16.2 r1.1 r16.1) fun r17 =>
 rs [ldA 3 r17.2 r1.1] r17.2)
 (lp (s32.l0 call lim) [a0, a1, a2, r1.1, r2.1, .d (.seq true 0 []), .d (.int .i64 0), .d (.int .i64 0)] r14.2 fun j42 =>
 dsp j42.1 none none [(0, lp (s32.l1 call lim) [(gv j42 0), (gv j42 1), (gv j42 2), (gv j42 3), (gv j42 4), .d (.seq true 0 []), .d (.int .i64 0)] j42.2.2 fun j59 =>
 dsp j59.1 none none [(2, bi (call 23 [(gv j59 3), (gv j59 2)] j59.2.2) fun r60 =>
 pu (abin Try.prog .gtr 3 r60.1 (.d (.int .i64 32768))) r60.2 fun r61 =>
 cn (asB r61.1)
 (pu (bld [(0, 1), (1, 1), (2, 1)] [.d (.int .i64 0), .d (.seq true 0 []), .d (.int .i64 0)] [(1, (gv j59 0)), (2, .d (.int .i64 2))]) r61.2 fun r62 =>
 bi (stA 3 lim r62.2 (gv j59 1) r62.1) fun r63 =>
 rs [ldA 3 r63.2 (gv j59 1)] r63.2)
 (pu (bld [(0, 1), (1, 1), (2, 1)] [.d (.int .i64 0), .d (.seq true 0 []), .d (.int .i64 0)] [(0, (gv j59 2)), (1, (gv j59 3))]) r61.2 fun r64 =>
 bi (stA 3 lim r64.2 (gv j59 1) r64.1) fun r65 =>
 rs [ldA 3 r65.2 (gv j59 1)] r65.2))])]))

/-! #### (rushlight/rushlightlaw08.Act).Done -/
noncomputable def fi11 (μ : Nat) : FI := ⟨101, μ, [.tmp 6, .tmp 7, .cell 8 30], (.seq (rgn Try.f11.body 0) (.seq (.seq (rgn Try.f11.body 1) (.block 0 (.seq (rgn Try.f11.body 2) (.cond (.tmp 21) (.seq (rgn Try.f11.body 3) (.seq (rgn Try.f11.body 4) .ret)) (.seq (rgn Try.f11.body 5) (.cond (.tmp 36) (.seq (rgn Try.f11.body 6) (.seq (rgn Try.f11.body 7) .ret)) (.seq (rgn Try.f11.body 8) (.cond (.tmp 55) (.seq (rgn Try.f11.body 9) (.seq (rgn Try.f11.body 10) .ret)) .skip)))))))) (.seq (rgn Try.f11.body 11) (.seq (.seq (rgn Try.f11.body 12) (.block 1 (.loop ⟨[1, 2, 3, 8, 15, 16], none, [(1, [1, 2, 3, 8, 15])]⟩ (.seq (.seq (rgn Try.f11.body 13) (.cond (.tmp 74) .skip (.exit 1))) (.seq (.block 2 (rgn Try.f11.body 15)) (rgn Try.f11.body 14)))))) (.seq (rgn Try.f11.body 16) (.seq (rgn Try.f11.body 17) .ret))))))⟩
theorem fits11 (μ : Nat) : Fits Try.prog 11 (fi11 μ) Try.f11 := ⟨by kernel_rfl, by kernel_rfl, by kernel_rfl, by kernel_rfl, by kernel_rfl⟩
set_option maxRecDepth 100000 in
/-- A round: what is kept: [1, 2, 3, 8, 15, 16]. -/
noncomputable def s11.l0 (call : ACall) (lim : Nat) (v39 : List AV) (h40 : Heap) : Option Res :=
 pu (fa 4 (v39.getD 2 .junk)) h40 fun r41 =>
 pu (ld r41.2 r41.1) r41.2 fun r42 =>
 pu (lnS r42.1) r42.2 fun r43 =>
 pu (abin Try.prog .lss 3 (v39.getD 5 .junk) r43.1) r43.2 fun r44 =>
 cn (asB r44.1)
 (pu (fa 4 (v39.getD 2 .junk)) r44.2 fun r45 =>
 pu (ld r45.2 r45.1) r45.2 fun r46 =>
 pu (ixS 3 r46.1 (v39.getD 5 .junk)) r46.2 fun r47 =>
 pu (ldA 3 r47.2 r47.1) r47.2 fun r48 =>
 bi (bldS 3 1 [.d (.str ⟨#[]⟩), .d (.int .i64 0), .d (.int .i64 0)] [(0, r48.1)] r48.2) fun r49 =>
 bi (app 3 32 lim r49.2 (v39.getD 4 .junk) (elS 3 r49.2 r49.1)) fun r50 =>
 pu (abin Try.prog .add 3 (v39.getD 5 .junk) (.d (.int .i64 1))) r50.2 fun r51 =>
 some (.normal, [(v39.getD 0 .junk), (v39.getD 1 .junk), (v39.getD 2 .junk), (v39.getD 3 .junk), r50.1, r51.1], r51.2))
 (some (.exit 1, [(v39.getD 0 .junk), (v39.getD 1 .junk), (v39.getD 2 .junk), (v39.getD 3 .junk), (v39.getD 4 .junk)], r44.2))
set_option maxRecDepth 100000 in
noncomputable def s11 (call : ACall) (lim : Nat) (a0 a1 a2 : AV) (H : Heap) : Option Res :=
 bi (bx a0 H) fun r1 =>
 bi (al [.d (.int .i64 0), .d (.seq true 0 []), .d (.int .i64 0)] r1.2) fun r2 =>
 pu (fa 0 r1.1) r2.2 fun r3 =>
 pu (ld r3.2 r3.1) r3.2 fun r4 =>
 pu (abin Try.prog .eql 3 r4.1 (.d (.int .i64 0))) r4.2 fun r5 =>
 cn (asB r5.1)
 (pu (fa 1 r1.1) r5.2 fun r6 =>
 pu (ld r6.2 r6.1) r6.2 fun r7 =>
 bi (call 13 [a1, r7.1] r7.2) fun r8 =>
 pu (aextract r8.1 0) r8.2 fun r9 =>
 pu (aextract r8.1 1) r9.2 fun r10 =>
 pu (fa 1 r1.1) r10.2 fun r11 =>
 pu (ld r11.2 r11.1) r11.2 fun r12 =>
 bi (call 29 [a2, r12.1] r12.2) fun r13 =>
 bi (stA 3 lim r13.2 r2.1 r13.1) fun r14 =>
 rs [some r9.1, some r10.1, ldA 3 r14.2 r2.1] r14.2)
 (pu (abin Try.prog .eql 3 r4.1 (.d (.int .i64 1))) r5.2 fun r15 =>
 cn (asB r15.1)
 (pu (fa 1 r1.1) r15.2 fun r16 =>
 pu (ld r16.2 r16.1) r16.2 fun r17 =>
 pu (fa 2 r1.1) r17.2 fun r18 =>
 pu (ld r18.2 r18.1) r18.2 fun r19 =>
 bi (call 14 [a1, r17.1, r19.1] r19.2) fun r20 =>
 pu (aextract r20.1 0) r20.2 fun r21 =>
 pu (aextract r20.1 1) r21.2 fun r22 =>
 pu (fa 1 r1.1) r22.2 fun r23 =>
 pu (ld r23.2 r23.1) r23.2 fun r24 =>
 pu (fa 2 r1.1) r24.2 fun r25 =>
 pu (ld r25.2 r25.1) r25.2 fun r26 =>
 bi (call 30 [a2, r24.1, r26.1] r26.2) fun r27 =>
 bi (stA 3 lim r27.2 r2.1 r27.1) fun r28 =>
 rs [some r21.1, some r22.1, ldA 3 r28.2 r2.1] r28.2)
 (pu (abin Try.prog .eql 3 r4.1 (.d (.int .i64 2))) r15.2 fun r29 =>
 cn (asB r29.1)
 (pu (fa 3 r1.1) r29.2 fun r30 =>
 pu (ld r30.2 r30.1) r30.2 fun r31 =>
 bi (call 27 [a1, r31.1] r31.2) fun r32 =>
 pu (aextract r32.1 0) r32.2 fun r33 =>
 pu (aextract r32.1 1) r33.2 fun r34 =>
 pu (fa 3 r1.1) r34.2 fun r35 =>
 pu (ld r35.2 r35.1) r35.2 fun r36 =>
 bi (call 31 [a2, r36.1] r36.2) fun r37 =>
 bi (stA 3 lim r37.2 r2.1 r37.1) fun r38 =>
 rs [some r33.1, some r34.1, ldA 3 r38.2 r2.1] r38.2)
 (lp (s11.l0 call lim) [a1, a2, r1.1, r2.1, .d (.seq true 0 []), .d (.int .i64 0)] r29.2 fun j52 =>
 dsp j52.1 none none [(1, pu (fa 3 (gv j52 2)) j52.2.2 fun r53 =>
 pu (ld r53.2 r53.1) r53.2 fun r54 =>
 pu (fa 4 (gv j52 2)) r54.2 fun r55 =>
 pu (ld r55.2 r55.1) r55.2 fun r56 =>
 bi (call 28 [(gv j52 0), r54.1, r56.1] r56.2) fun r57 =>
 pu (aextract r57.1 0) r57.2 fun r58 =>
 pu (aextract r57.1 1) r58.2 fun r59 =>
 pu (fa 3 (gv j52 2)) r59.2 fun r60 =>
 pu (ld r60.2 r60.1) r60.2 fun r61 =>
 bi (call 32 [(gv j52 1), r61.1, (gv j52 4)] r61.2) fun r62 =>
 bi (stA 3 lim r62.2 (gv j52 3) r62.1) fun r63 =>
 rs [some r58.1, some r59.1, ldA 3 r63.2 (gv j52 3)] r63.2)])))

/-! #### (*rushlight/kind.Table).Count -/
noncomputable def fi15 : FI := ⟨10, 0, [.tmp 2], (.seq (rgn Try.f15.body 0) (.seq (.seq (rgn Try.f15.body 1) (.cond (.tmp 4) (.seq (rgn Try.f15.body 2) .ret) .skip)) (.seq (rgn Try.f15.body 3) .ret)))⟩
theorem fits15 : Fits Try.prog 15 fi15 Try.f15 := ⟨by kernel_rfl, by kernel_rfl, by kernel_rfl, by kernel_rfl, by kernel_rfl⟩
set_option maxRecDepth 100000 in
noncomputable def s15 (call : ACall) (lim : Nat) (a0 : AV) (H : Heap) : Option Res :=
 pu (abin Try.prog .eql 25 a0 .nilptr) H fun r1 =>
 cn (asB r1.1)
 (rt (.d (.int .i64 0)) r1.2)
 (pu (anil a0) r1.2 fun r2 =>
 pu (fa 0 r2.1) r2.2 fun r3 =>
 pu (ld r3.2 r3.1) r3.2 fun r4 =>
 pu (lnS r4.1) r4.2 fun r5 =>
 rt r5.1 r5.2)

/-! #### rushlight/rushlightlaw08.KindOnce -/
noncomputable def fi3 : FI := ⟨91, 0, [.tmp 6], (.seq (rgn Try.f3.body 0) (.seq (.seq (rgn Try.f3.body 1) (.cond (.tmp 20) (.seq (rgn Try.f3.body 2) .ret) .skip)) (.seq (rgn Try.f3.body 3) (.seq (.seq (rgn Try.f3.body 4) (.block 0 (.loop ⟨[0, 1, 2, 7, 8], none, [(0, [1, 2, 7])]⟩ (.seq (.seq (rgn Try.f3.body 5) (.cond (.tmp 26) .skip (.exit 0))) (.seq (.block 1 (rgn Try.f3.body 7)) (rgn Try.f3.body 6)))))) (.seq (rgn Try.f3.body 8) (.seq (rgn Try.f3.body 9) (.seq (rgn Try.f3.body 10) (.seq (rgn Try.f3.body 11) (.seq (rgn Try.f3.body 12) (.seq (rgn Try.f3.body 13) .ret))))))))))⟩
theorem fits3 : Fits Try.prog 3 fi3 Try.f3 := ⟨by kernel_rfl, by kernel_rfl, by kernel_rfl, by kernel_rfl, by kernel_rfl⟩
set_option maxRecDepth 100000 in
/-- A round: what is kept: [0, 1, 2, 7, 8]. -/
noncomputable def s3.l0 (call : ACall) (lim : Nat) (v5 : List AV) (h6 : Heap) : Option Res :=
 pu (lnS (v5.getD 0 .junk)) h6 fun r7 =>
 pu (abin Try.prog .lss 3 (v5.getD 4 .junk) r7.1) r7.2 fun r8 =>
 cn (asB r8.1)
 (pu (ixS 5 (v5.getD 0 .junk) (v5.getD 4 .junk)) r8.2 fun r9 =>
 pu (ldA 5 r9.2 r9.1) r9.2 fun r10 =>
 bi (call 12 [] r10.2) fun r11 =>
 bi (call 11 [r10.1, (v5.getD 3 .junk), r11.1] r11.2) fun r12 =>
 pu (abin Try.prog .add 3 (v5.getD 4 .junk) (.d (.int .i64 1))) r12.2 fun r13 =>
 some (.normal, [(v5.getD 0 .junk), (v5.getD 1 .junk), (v5.getD 2 .junk), (v5.getD 3 .junk), r13.1], r13.2))
 (some (.exit 0, [(v5.getD 1 .junk), (v5.getD 2 .junk), (v5.getD 3 .junk)], r8.2))
set_option maxRecDepth 100000 in
noncomputable def s3 (call : ACall) (lim : Nat) (a0 a1 a2 : AV) (H : Heap) : Option Res :=
 bi (call 8 [a0] H) fun r1 =>
 pu (aun .not r1.1) r1.2 fun r2 =>
 cn (asB r2.1)
 (bi (call 9 [] r2.2) fun r3 =>
 rt r3.1 r3.2)
 (bi (call 10 [] r2.2) fun r4 =>
 lp (s3.l0 call lim) [a0, a1, a2, r4.1, .d (.int .i64 0)] r4.2 fun j14 =>
 dsp j14.1 none none [(0, bi (call 13 [(gv j14 2), (gv j14 0)] j14.2.2) fun r15 =>
 pu (aextract r15.1 0) r15.2 fun r16 =>
 pu (aextract r15.1 1) r16.2 fun r17 =>
 bi (call 14 [(gv j14 2), (gv j14 0), (gv j14 1)] r17.2) fun r18 =>
 pu (aextract r18.1 0) r18.2 fun r19 =>
 pu (aextract r18.1 1) r19.2 fun r20 =>
 bi (call 15 [(gv j14 2)] r20.2) fun r21 =>
 bi (call 13 [(gv j14 2), (gv j14 0)] r21.2) fun r22 =>
 pu (aextract r22.1 0) r22.2 fun r23 =>
 pu (aextract r22.1 1) r23.2 fun r24 =>
 bi (call 14 [(gv j14 2), (gv j14 0), (gv j14 1)] r24.2) fun r25 =>
 pu (aextract r25.1 0) r25.2 fun r26 =>
 pu (aextract r25.1 1) r26.2 fun r27 =>
 bi (call 9 [] r27.2) fun r28 =>
 gd (yv r28.1) true (some (r16.1, r28.2)) r28.2 fun r29 =>
 gd (yv r28.1) true (some (r23.1, r29.2)) r29.2 fun r30 =>
 gd (yv r28.1) true (pm (abin Try.prog .eql 3 r29.1 r30.1) r30.2) r30.2 fun r31 =>
 bi (pk r28.1 r31.1 (.d (.bool false)) r31.2) fun r32 =>
 gd (yv r32.1) true (some (r17.1, r32.2)) r32.2 fun r33 =>
 gd (yv r32.1) true (some (r24.1, r33.2)) r33.2 fun r34 =>
 gd (yv r32.1) true (pm (abin Try.prog .eql 27 r33.1 r34.1) r34.2) r34.2 fun r35 =>
 bi (pk r32.1 r35.1 (.d (.bool false)) r35.2) fun r36 =>
 gd (yv r36.1) true (some (r19.1, r36.2)) r36.2 fun r37 =>
 gd (yv r36.1) true (some (r26.1, r37.2)) r37.2 fun r38 =>
 gd (yv r36.1) true (pm (abin Try.prog .eql 3 r37.1 r38.1) r38.2) r38.2 fun r39 =>
 bi (pk r36.1 r39.1 (.d (.bool false)) r39.2) fun r40 =>
 gd (yv r40.1) true (some (r20.1, r40.2)) r40.2 fun r41 =>
 gd (yv r40.1) true (some (r27.1, r41.2)) r41.2 fun r42 =>
 gd (yv r40.1) true (pm (abin Try.prog .eql 27 r41.1 r42.1) r42.2) r42.2 fun r43 =>
 bi (pk r40.1 r43.1 (.d (.bool false)) r43.2) fun r44 =>
 gd (yv r44.1) true (some ((gv j14 2), r44.2)) r44.2 fun r45 =>
 gd (yv r44.1) true (call 15 [r45.1] r45.2) r45.2 fun r46 =>
 gd (yv r44.1) true (some (r21.1, r46.2)) r46.2 fun r47 =>
 gd (yv r44.1) true (pm (abin Try.prog .eql 3 r46.1 r47.1) r47.2) r47.2 fun r48 =>
 bi (pk r44.1 r48.1 (.d (.bool false)) r48.2) fun r49 =>
 rt r49.1 r49.2)])

/-! #### (*rushlight/kind.Table).Find -/
noncomputable def fi16 : FI := ⟨15, 0, [.tmp 4, .tmp 5], (.seq (rgn Try.f16.body 0) (.seq (.seq (rgn Try.f16.body 1) (.cond (.tmp 8) (.seq (rgn Try.f16.body 2) .ret) .skip)) (.seq (rgn Try.f16.body 3) (.seq (.seq (rgn Try.f16.body 4) (.cond (.tmp 13) (.seq (rgn Try.f16.body 5) .ret) .skip)) (.seq (rgn Try.f16.body 6) .ret)))))⟩
theorem fits16 : Fits Try.prog 16 fi16 Try.f16 := ⟨by kernel_rfl, by kernel_rfl, by kernel_rfl, by kernel_rfl, by kernel_rfl⟩
set_option maxRecDepth 100000 in
noncomputable def s16 (call : ACall) (lim : Nat) (a0 a1 : AV) (H : Heap) : Option Res :=
 pu (abin Try.prog .eql 25 a0 .nilptr) H fun r1 =>
 cn (asB r1.1)
 (rt (.tup [.d (.int .i64 0), .d (.int .i64 1)]) r1.2)
 (bi (call 35 [a0, a1] r1.2) fun r2 =>
 pu (abin Try.prog .lss 3 r2.1 (.d (.int .i64 0))) r2.2 fun r3 =>
 cn (asB r3.1)
 (rt (.tup [.d (.int .i64 0), .d (.int .i64 4)]) r3.2)
 (rt (.tup [r2.1, .d (.int .i64 0)]) r3.2))

/-! #### rushlight/rushlightlaw08.KindFinds -/
noncomputable def fi4 : FI := ⟨155, 0, [.tmp 6], (.seq (rgn Try.f4.body 0) (.seq (.seq (rgn Try.f4.body 1) (.cond (.tmp 28) (.seq (rgn Try.f4.body 2) .ret) .skip)) (.seq (rgn Try.f4.body 3) (.seq (rgn Try.f4.body 4) (.seq (.seq (rgn Try.f4.body 5) (.block 0 (.loop ⟨[0, 1, 2, 7, 8, 9], none, [(0, [1, 2, 7, 8])]⟩ (.seq (.seq (rgn Try.f4.body 6) (.cond (.tmp 35) .skip (.exit 0))) (.seq (.block 1 (.seq (rgn Try.f4.body 8) (rgn Try.f4.body 9))) (rgn Try.f4.body 7)))))) (.seq (rgn Try.f4.body 10) (.seq (rgn Try.f4.body 11) (.seq (.seq (rgn Try.f4.body 12) (.cond (.tmp 85) (.seq (rgn Try.f4.body 13) .ret) .skip)) (.seq (rgn Try.f4.body 14) (.seq (rgn Try.f4.body 15) (.seq (rgn Try.f4.body 16) (.cut ⟨[1, 2, 8, 16, 17, 18, 19], none, []⟩ (.seq (rgn Try.f4.body 17) (.cond (.tmp 103) (rgn Try.f4.body 18) .skip)) (.cut ⟨[16, 17, 18, 19], none, []⟩ (.seq (rgn Try.f4.body 19) (.cond (.tmp 114) (.seq (rgn Try.f4.body 20) (.block 2 (.loop ⟨[1, 2, 8, 16, 17, 18, 19, 20], none, [(2, [16, 17, 18, 19])]⟩ (.seq (.seq (rgn Try.f4.body 21) (.cond (.tmp 122) .skip (.exit 2))) (.cut ⟨[1, 2, 8, 16, 17, 18, 19, 20], none, []⟩ (.block 3 (.seq (rgn Try.f4.body 23) (.cond (.tmp 135) (.seq (rgn Try.f4.body 24) (rgn Try.f4.body 25)) .skip))) (rgn Try.f4.body 22)))))) .skip)) (.seq (rgn Try.f4.body 26) .ret))))))))))))))⟩
theorem fits4 : Fits Try.prog 4 fi4 Try.f4 := ⟨by kernel_rfl, by kernel_rfl, by kernel_rfl, by kernel_rfl, by kernel_rfl⟩
set_option maxRecDepth 100000 in
/-- A round: what is kept: [0, 1, 2, 7, 8, 9]. -/
noncomputable def s4.l0 (call : ACall) (lim : Nat) (v10 : List AV) (h11 : Heap) : Option Res :=
 pu (lnS (v10.getD 0 .junk)) h11 fun r12 =>
 pu (abin Try.prog .lss 3 (v10.getD 5 .junk) r12.1) r12.2 fun r13 =>
 cn (asB r13.1)
 (pu (ixS 5 (v10.getD 0 .junk) (v10.getD 5 .junk)) r13.2 fun r14 =>
 pu (ldA 5 r14.2 r14.1) r14.2 fun r15 =>
 bi (call 11 [r15.1, (v10.getD 3 .junk), (v10.getD 4 .junk)] r15.2) fun r16 =>
 pu (aextract r16.1 0) r16.2 fun r17 =>
 pu (aextract r16.1 1) r17.2 fun r18 =>
 pu (aextract r16.1 2) r18.2 fun r19 =>
 bi (al [.d (.int .i64 0), .d (.seq true 0 []), .d (.int .i64 0)] r19.2) fun r20 =>
 bi (stA 3 lim r20.2 r20.1 r19.1) fun r21 =>
 pu (fa 1 r20.1) r21.2 fun r22 =>
 pu (ld r22.2 r22.1) r22.2 fun r23 =>
 pu (abin Try.prog .add 3 (v10.getD 5 .junk) (.d (.int .i64 1))) r23.2 fun r24 =>
 some (.normal, [(v10.getD 0 .junk), (v10.getD 1 .junk), (v10.getD 2 .junk), (v10.getD 3 .junk), r23.1, r24.1], r24.2))
 (some (.exit 0, [(v10.getD 1 .junk), (v10.getD 2 .junk), (v10.getD 3 .junk), (v10.getD 4 .junk)], r13.2))
set_option maxRecDepth 100000 in
/-- A round: what is kept: [1, 2, 8, 16, 17, 18, 19, 20]. -/
noncomputable def s4.l1 (call : ACall) (lim : Nat) (v75 : List AV) (h76 : Heap) : Option Res :=
 pu (ixS 6 (v75.getD 2 .junk) (v75.getD 0 .junk)) h76 fun r77 =>
 pu (fa 4 r77.1) r77.2 fun r78 =>
 pu (ld r78.2 r78.1) r78.2 fun r79 =>
 pu (lnS r79.1) r79.2 fun r80 =>
 pu (abin Try.prog .lss 3 (v75.getD 7 .junk) r80.1) r80.2 fun r81 =>
 cn (asB r81.1)
 (jn
 (pu (ixS 6 (v75.getD 2 .junk) (v75.getD 0 .junk)) r81.2 fun r82 =>
 pu (fa 4 r82.1) r82.2 fun r83 =>
 pu (ld r83.2 r83.1) r83.2 fun r84 =>
 pu (ixS 3 r84.1 (v75.getD 7 .junk)) r84.2 fun r85 =>
 pu (fa 0 r85.1) r85.2 fun r86 =>
 pu (ld r86.2 r86.1) r86.2 fun r87 =>
 pu (abin Try.prog .eql 9 r87.1 (v75.getD 1 .junk)) r87.2 fun r88 =>
 cn (asB r88.1)
 (pu (ixS 6 (v75.getD 2 .junk) (v75.getD 0 .junk)) r88.2 fun r89 =>
 pu (fa 4 r89.1) r89.2 fun r90 =>
 pu (ld r90.2 r90.1) r90.2 fun r91 =>
 pu (ixS 3 r91.1 (v75.getD 7 .junk)) r91.2 fun r92 =>
 pu (ldA 3 r92.2 r92.1) r92.2 fun r93 =>
 bi (stA 3 lim r93.2 (v75.getD 6 .junk) r93.1) fun r94 =>
 some (.normal, [(v75.getD 0 .junk), (v75.getD 1 .junk), (v75.getD 2 .junk), (v75.getD 3 .junk), (v75.getD 4 .junk), .d (.int .i64 0), (v75.getD 6 .junk), (v75.getD 7 .junk)], r94.2))
 (some (.normal, [(v75.getD 0 .junk), (v75.getD 1 .junk), (v75.getD 2 .junk), (v75.getD 3 .junk), (v75.getD 4 .junk), (v75.getD 5 .junk), (v75.getD 6 .junk), (v75.getD 7 .junk)], r88.2))) fun j95 =>
 dsp j95.1 (pu (abin Try.prog .add 3 (gv j95 7) (.d (.int .i64 1))) j95.2.2 fun r96 =>
 some (.normal, [(gv j95 0), (gv j95 1), (gv j95 2), (gv j95 3), (gv j95 4), (gv j95 5), (gv j95 6), r96.1], r96.2)) none [])
 (some (.exit 2, [(v75.getD 3 .junk), (v75.getD 4 .junk), (v75.getD 5 .junk), (v75.getD 6 .junk)], r81.2))
set_option maxRecDepth 100000 in
noncomputable def s4 (call : ACall) (lim : Nat) (a0 a1 a2 : AV) (H : Heap) : Option Res :=
 bi (call 8 [a0] H) fun r1 =>
 pu (aun .not r1.1) r1.2 fun r2 =>
 gd (yv r2.1) false (some (a2, r2.2)) r2.2 fun r3 =>
 gd (yv r2.1) false (pm (lnStr r3.1) r3.2) r3.2 fun r4 =>
 gd (yv r2.1) false (pm (abin Try.prog .gtr 3 r4.1 (.d (.int .i64 100))) r4.2) r4.2 fun r5 =>
 bi (pk r2.1 (.d (.bool true)) r5.1 r5.2) fun r6 =>
 cn (asB r6.1)
 (bi (call 9 [] r6.2) fun r7 =>
 rt r7.1 r7.2)
 (bi (call 10 [] r6.2) fun r8 =>
 bi (call 12 [] r8.2) fun r9 =>
 lp (s4.l0 call lim) [a0, a1, a2, r8.1, r9.1, .d (.int .i64 0)] r9.2 fun j25 =>
 dsp j25.1 none none [(0, bi (call 16 [(gv j25 2), (gv j25 1)] j25.2.2) fun r26 =>
 pu (aextract r26.1 0) r26.2 fun r27 =>
 pu (aextract r26.1 1) r27.2 fun r28 =>
 bi (call 17 [(gv j25 3), (gv j25 1)] r28.2) fun r29 =>
 pu (abin Try.prog .eql 27 r28.1 (.d (.int .i64 0))) r29.2 fun r30 =>
 pu (abin Try.prog .geq 3 r29.1 (.d (.int .i64 0))) r30.2 fun r31 =>
 pu (abin Try.prog .neq 4 r30.1 r31.1) r31.2 fun r32 =>
 gd (yv r32.1) false (some (r28.1, r32.2)) r32.2 fun r33 =>
 gd (yv r32.1) false (pm (abin Try.prog .neq 27 r33.1 (.d (.int .i64 0))) r33.2) r33.2 fun r34 =>
 gd (yv r32.1) false (some (r34.1, r34.2)) r34.2 fun r35 =>
 gd (yv r35.1) true (some (r28.1, r35.2)) r35.2 fun r36 =>
 gd (yv r35.1) true (pm (abin Try.prog .neq 27 r36.1 (.d (.int .i64 4))) r36.2) r36.2 fun r37 =>
 gd (yv r35.1) true (some (r37.1, r37.2)) r37.2 fun r38 =>
 gd (yv r38.1) false (some (r27.1, r38.2)) r38.2 fun r39 =>
 gd (yv r38.1) false (pm (abin Try.prog .neq 3 r39.1 (.d (.int .i64 0))) r39.2) r39.2 fun r40 =>
 gd (yv r35.1) true (pk r38.1 (.d (.bool true)) r40.1 r40.2) r40.2 fun r41 =>
 gd (yv r32.1) false (pk r35.1 r41.1 (.d (.bool false)) r41.2) r41.2 fun r42 =>
 bi (pk r32.1 (.d (.bool true)) r42.1 r42.2) fun r43 =>
 gd (yv r43.1) false (some (r28.1, r43.2)) r43.2 fun r44 =>
 gd (yv r43.1) false (pm (abin Try.prog .eql 27 r44.1 (.d (.int .i64 0))) r44.2) r44.2 fun r45 =>
 gd (yv r43.1) false (some (r45.1, r45.2)) r45.2 fun r46 =>
 gd (yv r46.1) true (some (r27.1, r46.2)) r46.2 fun r47 =>
 gd (yv r46.1) true (some (r29.1, r47.2)) r47.2 fun r48 =>
 gd (yv r46.1) true (pm (abin Try.prog .neq 3 r47.1 r48.1) r48.2) r48.2 fun r49 =>
 gd (yv r43.1) false (pk r46.1 r49.1 (.d (.bool false)) r49.2) r49.2 fun r50 =>
 bi (pk r43.1 (.d (.bool true)) r50.1 r50.2) fun r51 =>
 cn (asB r51.1)
 (rt (.d (.bool false)) r51.2)
 (bi (call 18 [(gv j25 2), (gv j25 0), (gv j25 1)] r51.2) fun r52 =>
 pu (aextract r52.1 0) r52.2 fun r53 =>
 pu (aextract r52.1 1) r53.2 fun r54 =>
 bi (al [.d (.str ⟨#[]⟩), .d (.int .i64 0), .d (.int .i64 0)] r54.2) fun r55 =>
 bi (stA 3 lim r55.2 r55.1 r53.1) fun r56 =>
 bi (al [.d (.str ⟨#[]⟩), .d (.int .i64 0), .d (.int .i64 0)] r56.2) fun r57 =>
 jn
 (bi (call 19 [(gv j25 3), (gv j25 0)] r57.2) fun r58 =>
 gd (yv r58.1) true (some ((gv j25 3), r58.2)) r58.2 fun r59 =>
 gd (yv r58.1) true (some ((gv j25 0), r59.2)) r59.2 fun r60 =>
 gd (yv r58.1) true (pm (ixS 6 r59.1 r60.1) r60.2) r60.2 fun r61 =>
 gd (yv r58.1) true (pm (fa 0 r61.1) r61.2) r61.2 fun r62 =>
 gd (yv r58.1) true (pm (ld r62.2 r62.1) r62.2) r62.2 fun r63 =>
 gd (yv r58.1) true (pm (abin Try.prog .neq 3 r63.1 (.d (.int .i64 5))) r63.2) r63.2 fun r64 =>
 bi (pk r58.1 r64.1 (.d (.bool false)) r64.2) fun r65 =>
 cn (asB r65.1)
 (some (.normal, [(gv j25 0), (gv j25 1), (gv j25 3), r55.1, r54.1, .d (.int .i64 5), r57.1], r65.2))
 (some (.normal, [(gv j25 0), (gv j25 1), (gv j25 3), r55.1, r54.1, .d (.int .i64 4), r57.1], r65.2))) fun j66 =>
 dsp j66.1 (jn
 (bi (call 19 [(gv j66 2), (gv j66 0)] j66.2.2) fun r67 =>
 gd (yv r67.1) true (some ((gv j66 2), r67.2)) r67.2 fun r68 =>
 gd (yv r67.1) true (some ((gv j66 0), r68.2)) r68.2 fun r69 =>
 gd (yv r67.1) true (pm (ixS 6 r68.1 r69.1) r69.2) r69.2 fun r70 =>
 gd (yv r67.1) true (pm (fa 0 r70.1) r70.2) r70.2 fun r71 =>
 gd (yv r67.1) true (pm (ld r71.2 r71.1) r71.2) r71.2 fun r72 =>
 gd (yv r67.1) true (pm (abin Try.prog .eql 3 r72.1 (.d (.int .i64 5))) r72.2) r72.2 fun r73 =>
 bi (pk r67.1 r73.1 (.d (.bool false)) r73.2) fun r74 =>
 cn (asB r74.1)
 (lp (s4.l1 call lim) [(gv j66 0), (gv j66 1), (gv j66 2), (gv j66 3), (gv j66 4), (gv j66 5), (gv j66 6), .d (.int .i64 0)] r74.2 fun j97 =>
 dsp j97.1 none none [(2, some (.normal, [(gv j97 0), (gv j97 1), (gv j97 2), (gv j97 3)], j97.2.2))])
 (some (.normal, [(gv j66 3), (gv j66 4), (gv j66 5), (gv j66 6)], r74.2))) fun j98 =>
 dsp j98.1 (bi (call 9 [] j98.2.2) fun r99 =>
 gd (yv r99.1) true (some ((gv j98 1), r99.2)) r99.2 fun r100 =>
 gd (yv r99.1) true (some ((gv j98 2), r100.2)) r100.2 fun r101 =>
 gd (yv r99.1) true (pm (abin Try.prog .eql 27 r100.1 r101.1) r101.2) r101.2 fun r102 =>
 bi (pk r99.1 r102.1 (.d (.bool false)) r102.2) fun r103 =>
 gd (yv r103.1) true (pm (ldA 3 r103.2 (gv j98 0)) r103.2) r103.2 fun r104 =>
 gd (yv r103.1) true (pm (ldA 3 r104.2 (gv j98 3)) r104.2) r104.2 fun r105 =>
 gd (yv r103.1) true (pm (abin Try.prog .eql 45 r104.1 r105.1) r105.2) r105.2 fun r106 =>
 bi (pk r103.1 r106.1 (.d (.bool false)) r106.2) fun r107 =>
 rt r107.1 r107.2) none []) none []))])

/-! #### (*rushlight/kind.Table).Type -/
noncomputable def fi20 : FI := ⟨30, 0, [.cell 4 55, .tmp 5], (.seq (rgn Try.f20.body 0) (.seq (.block 0 (.seq (rgn Try.f20.body 1) (.cond (.tmp 7) (.seq (rgn Try.f20.body 2) .ret) (.seq (rgn Try.f20.body 3) (.cond (.tmp 11) (.seq (rgn Try.f20.body 4) .ret) .skip))))) (.seq (rgn Try.f20.body 5) (.seq (rgn Try.f20.body 6) (.seq (rgn Try.f20.body 7) .ret)))))⟩
theorem fits20 : Fits Try.prog 20 fi20 Try.f20 := ⟨by kernel_rfl, by kernel_rfl, by kernel_rfl, by kernel_rfl, by kernel_rfl⟩
set_option maxRecDepth 100000 in
noncomputable def s20 (call : ACall) (lim : Nat) (a0 a1 : AV) (H : Heap) : Option Res :=
 bi (al [.d (.int .i64 0), .d (.int .i64 0), .d (.int .i64 0), .d (.str ⟨#[]⟩), .d (.seq true 0 [])] H) fun r1 =>
 pu (abin Try.prog .eql 25 a0 .nilptr) r1.2 fun r2 =>
 cn (asB r2.1)
 (pu (bld [(0, 1), (1, 1), (2, 1), (3, 1), (4, 1)] [.d (.int .i64 0), .d (.int .i64 0), .d (.int .i64 0), .d (.str ⟨#[]⟩), .d (.seq true 0 [])] []) r2.2 fun r3 =>
 bi (stA 5 lim r3.2 r1.1 r3.1) fun r4 =>
 rs [ldA 5 r4.2 r1.1, some (.d (.int .i64 1))] r4.2)
 (bi (call 33 [a0, a1] r2.2) fun r5 =>
 pu (aun .not r5.1) r5.2 fun r6 =>
 cn (asB r6.1)
 (pu (bld [(0, 1), (1, 1), (2, 1), (3, 1), (4, 1)] [.d (.int .i64 0), .d (.int .i64 0), .d (.int .i64 0), .d (.str ⟨#[]⟩), .d (.seq true 0 [])] []) r6.2 fun r7 =>
 bi (stA 5 lim r7.2 r1.1 r7.1) fun r8 =>
 rs [ldA 5 r8.2 r1.1, some (.d (.int .i64 4))] r8.2)
 (pu (anil a0) r6.2 fun r9 =>
 pu (fa 0 r9.1) r9.2 fun r10 =>
 pu (ld r10.2 r10.1) r10.2 fun r11 =>
 pu (ixS 8 r11.1 a1) r11.2 fun r12 =>
 pu (fa 0 r12.1) r12.2 fun r13 =>
 pu (ldA 5 r13.2 r13.1) r13.2 fun r14 =>
 bi (al [.d (.int .i64 0), .d (.int .i64 0), .d (.int .i64 0), .d (.str ⟨#[]⟩), .d (.seq true 0 [])] r14.2) fun r15 =>
 bi (stA 5 lim r15.2 r15.1 r14.1) fun r16 =>
 pu (fa 4 r15.1) r16.2 fun r17 =>
 pu (ld r17.2 r17.1) r17.2 fun r18 =>
 bi (call 36 [r18.1] r18.2) fun r19 =>
 pu (fa 4 r15.1) r19.2 fun r20 =>
 bi (stA 1 lim r20.2 r20.1 r19.1) fun r21 =>
 pu (ldA 5 r21.2 r15.1) r21.2 fun r22 =>
 bi (stA 5 lim r22.2 r1.1 r22.1) fun r23 =>
 rs [ldA 5 r23.2 r1.1, some (.d (.int .i64 0))] r23.2))

/-! #### rushlight/rushlightlaw08.KindLies -/
noncomputable def fi5 : FI := ⟨130, 0, [.tmp 2], (.seq (rgn Try.f5.body 0) (.seq (.seq (rgn Try.f5.body 1) (.cond (.tmp 16) (.seq (rgn Try.f5.body 2) .ret) .skip)) (.seq (rgn Try.f5.body 3) (.seq (.seq (rgn Try.f5.body 4) (.block 0 (.loop ⟨[0, 3, 4], none, [(0, [3])]⟩ (.seq (.seq (rgn Try.f5.body 5) (.cond (.tmp 22) .skip (.exit 0))) (.seq (.block 1 (rgn Try.f5.body 7)) (rgn Try.f5.body 6)))))) (.seq (.seq (rgn Try.f5.body 8) (.block 2 (.loop ⟨[3, 5], some [2], [(2, [])]⟩ (.seq (.seq (rgn Try.f5.body 9) (.cond (.tmp 39) .skip (.exit 2))) (.seq (.block 3 (.seq (rgn Try.f5.body 11) (.seq (rgn Try.f5.body 12) (.seq (.seq (rgn Try.f5.body 13) (.cond (.tmp 81) (.seq (rgn Try.f5.body 14) .ret) .skip)) (.seq (rgn Try.f5.body 15) (.seq (.seq (rgn Try.f5.body 16) (.block 4 (.loop ⟨[3, 5, 6, 8, 9, 10, 11], some [2], [(4, [3, 5, 8, 10])]⟩ (.seq (.seq (rgn Try.f5.body 17) (.cond (.tmp 86) .skip (.exit 4))) (.seq (.block 5 (.seq (rgn Try.f5.body 19) (.seq (rgn Try.f5.body 20) (.seq (.seq (rgn Try.f5.body 21) (.cond (.tmp 118) (.seq (rgn Try.f5.body 22) .ret) .skip)) (rgn Try.f5.body 23))))) (rgn Try.f5.body 18)))))) (.seq (rgn Try.f5.body 24) (.cond (.tmp 128) (.seq (rgn Try.f5.body 25) .ret) .skip)))))))) (rgn Try.f5.body 10)))))) (.seq (rgn Try.f5.body 26) .ret))))))⟩
theorem fits5 : Fits Try.prog 5 fi5 Try.f5 := ⟨by kernel_rfl, by kernel_rfl, by kernel_rfl, by kernel_rfl, by kernel_rfl⟩
set_option maxRecDepth 100000 in
/-- A round: what is kept: [0, 3, 4]. -/
noncomputable def s5.l0 (call : ACall) (lim : Nat) (v5 : List AV) (h6 : Heap) : Option Res :=
 pu (lnS (v5.getD 0 .junk)) h6 fun r7 =>
 pu (abin Try.prog .lss 3 (v5.getD 2 .junk) r7.1) r7.2 fun r8 =>
 cn (asB r8.1)
 (pu (ixS 5 (v5.getD 0 .junk) (v5.getD 2 .junk)) r8.2 fun r9 =>
 pu (ldA 5 r9.2 r9.1) r9.2 fun r10 =>
 bi (call 12 [] r10.2) fun r11 =>
 bi (call 11 [r10.1, (v5.getD 1 .junk), r11.1] r11.2) fun r12 =>
 pu (abin Try.prog .add 3 (v5.getD 2 .junk) (.d (.int .i64 1))) r12.2 fun r13 =>
 some (.normal, [(v5.getD 0 .junk), (v5.getD 1 .junk), r13.1], r13.2))
 (some (.exit 0, [(v5.getD 1 .junk)], r8.2))
set_option maxRecDepth 100000 in
/-- A round: what is kept: [3, 5, 6, 8, 9, 10, 11]. -/
noncomputable def s5.l1 (call : ACall) (lim : Nat) (v52 : List AV) (h53 : Heap) : Option Res :=
 pu (fa 4 (v52.getD 2 .junk)) h53 fun r54 =>
 pu (ld r54.2 r54.1) r54.2 fun r55 =>
 pu (lnS r55.1) r55.2 fun r56 =>
 pu (abin Try.prog .lss 3 (v52.getD 6 .junk) r56.1) r56.2 fun r57 =>
 cn (asB r57.1)
 (pu (fa 4 (v52.getD 2 .junk)) r57.2 fun r58 =>
 pu (ld r58.2 r58.1) r58.2 fun r59 =>
 pu (ixS 3 r59.1 (v52.getD 6 .junk)) r59.2 fun r60 =>
 pu (ldA 3 r60.2 r60.1) r60.2 fun r61 =>
 bi (al [.d (.str ⟨#[]⟩), .d (.int .i64 0), .d (.int .i64 0)] r61.2) fun r62 =>
 bi (stA 3 lim r62.2 r62.1 r61.1) fun r63 =>
 pu (fa 1 r62.1) r63.2 fun r64 =>
 pu (ld r64.2 r64.1) r64.2 fun r65 =>
 bi (call 22 [(v52.getD 0 .junk), r65.1] r65.2) fun r66 =>
 pu (fa 2 r62.1) r66.2 fun r67 =>
 pu (ld r67.2 r67.1) r67.2 fun r68 =>
 pu (abin Try.prog .lss 3 r68.1 (v52.getD 5 .junk)) r68.2 fun r69 =>
 gd (yv r69.1) false (some (r66.1, r69.2)) r69.2 fun r70 =>
 gd (yv r69.1) false (pm (abin Try.prog .lss 3 r70.1 (.d (.int .i64 1))) r70.2) r70.2 fun r71 =>
 bi (pk r69.1 (.d (.bool true)) r71.1 r71.2) fun r72 =>
 gd (yv r72.1) false (pm (fa 2 r62.1) r72.2) r72.2 fun r73 =>
 gd (yv r72.1) false (pm (ld r73.2 r73.1) r73.2) r73.2 fun r74 =>
 gd (yv r72.1) false (some (r66.1, r74.2)) r74.2 fun r75 =>
 gd (yv r72.1) false (pm (abin Try.prog .rem 3 r74.1 r75.1) r75.2) r75.2 fun r76 =>
 gd (yv r72.1) false (pm (abin Try.prog .neq 3 r76.1 (.d (.int .i64 0))) r76.2) r76.2 fun r77 =>
 bi (pk r72.1 (.d (.bool true)) r77.1 r77.2) fun r78 =>
 gd (yv r78.1) false (some ((v52.getD 4 .junk), r78.2)) r78.2 fun r79 =>
 gd (yv r78.1) false (some (r66.1, r79.2)) r79.2 fun r80 =>
 gd (yv r78.1) false (pm (abin Try.prog .rem 3 r79.1 r80.1) r80.2) r80.2 fun r81 =>
 gd (yv r78.1) false (pm (abin Try.prog .neq 3 r81.1 (.d (.int .i64 0))) r81.2) r81.2 fun r82 =>
 bi (pk r78.1 (.d (.bool true)) r82.1 r82.2) fun r83 =>
 cn (asB r83.1)
 (some (.ret, [.d (.bool false)], r83.2))
 (pu (fa 2 r62.1) r83.2 fun r84 =>
 pu (ld r84.2 r84.1) r84.2 fun r85 =>
 pu (fa 1 r62.1) r85.2 fun r86 =>
 pu (ld r86.2 r86.1) r86.2 fun r87 =>
 bi (call 21 [(v52.getD 0 .junk), r87.1] r87.2) fun r88 =>
 pu (abin Try.prog .add 3 r85.1 r88.1) r88.2 fun r89 =>
 pu (abin Try.prog .add 3 (v52.getD 6 .junk) (.d (.int .i64 1))) r89.2 fun r90 =>
 some (.normal, [(v52.getD 0 .junk), (v52.getD 1 .junk), (v52.getD 2 .junk), (v52.getD 3 .junk), (v52.getD 4 .junk), r89.1, r90.1], r90.2)))
 (some (.exit 4, [(v52.getD 0 .junk), (v52.getD 1 .junk), (v52.getD 3 .junk), (v52.getD 5 .junk)], r57.2))
set_option maxRecDepth 100000 in
/-- A round: what is kept: [3, 5]. -/
noncomputable def s5.l2 (call : ACall) (lim : Nat) (v15 : List AV) (h16 : Heap) : Option Res :=
 bi (call 15 [(v15.getD 0 .junk)] h16) fun r17 =>
 pu (abin Try.prog .lss 3 (v15.getD 1 .junk) r17.1) r17.2 fun r18 =>
 gd (yv r18.1) true (some ((v15.getD 1 .junk), r18.2)) r18.2 fun r19 =>
 gd (yv r18.1) true (pm (abin Try.prog .lss 3 r19.1 (.d (.int .i64 500))) r19.2) r19.2 fun r20 =>
 bi (pk r18.1 r20.1 (.d (.bool false)) r20.2) fun r21 =>
 cn (asB r21.1)
 (bi (call 20 [(v15.getD 0 .junk), (v15.getD 1 .junk)] r21.2) fun r22 =>
 pu (aextract r22.1 0) r22.2 fun r23 =>
 pu (aextract r22.1 1) r23.2 fun r24 =>
 bi (al [.d (.int .i64 0), .d (.int .i64 0), .d (.int .i64 0), .d (.str ⟨#[]⟩), .d (.seq true 0 [])] r24.2) fun r25 =>
 bi (stA 5 lim r25.2 r25.1 r23.1) fun r26 =>
 bi (call 21 [(v15.getD 0 .junk), (v15.getD 1 .junk)] r26.2) fun r27 =>
 bi (call 22 [(v15.getD 0 .junk), (v15.getD 1 .junk)] r27.2) fun r28 =>
 pu (abin Try.prog .neq 27 r24.1 (.d (.int .i64 0))) r28.2 fun r29 =>
 gd (yv r29.1) false (some (r27.1, r29.2)) r29.2 fun r30 =>
 gd (yv r29.1) false (pm (abin Try.prog .lss 3 r30.1 (.d (.int .i64 0))) r30.2) r30.2 fun r31 =>
 bi (pk r29.1 (.d (.bool true)) r31.1 r31.2) fun r32 =>
 gd (yv r32.1) false (some (r27.1, r32.2)) r32.2 fun r33 =>
 gd (yv r32.1) false (pm (abin Try.prog .gtr 3 r33.1 (.d (.int .i64 32768))) r33.2) r33.2 fun r34 =>
 bi (pk r32.1 (.d (.bool true)) r34.1 r34.2) fun r35 =>
 gd (yv r35.1) false (some (r28.1, r35.2)) r35.2 fun r36 =>
 gd (yv r35.1) false (pm (abin Try.prog .lss 3 r36.1 (.d (.int .i64 0))) r36.2) r36.2 fun r37 =>
 bi (pk r35.1 (.d (.bool true)) r37.1 r37.2) fun r38 =>
 gd (yv r38.1) false (some (r27.1, r38.2)) r38.2 fun r39 =>
 gd (yv r38.1) false (pm (abin Try.prog .gtr 3 r39.1 (.d (.int .i64 0))) r39.2) r39.2 fun r40 =>
 gd (yv r38.1) false (some (r40.1, r40.2)) r40.2 fun r41 =>
 gd (yv r41.1) true (some (r28.1, r41.2)) r41.2 fun r42 =>
 gd (yv r41.1) true (pm (abin Try.prog .lss 3 r42.1 (.d (.int .i64 1))) r42.2) r42.2 fun r43 =>
 gd (yv r41.1) true (some (r43.1, r43.2)) r43.2 fun r44 =>
 gd (yv r44.1) false (some (r27.1, r44.2)) r44.2 fun r45 =>
 gd (yv r44.1) false (some (r28.1, r45.2)) r45.2 fun r46 =>
 gd (yv r44.1) false (pm (abin Try.prog .rem 3 r45.1 r46.1) r46.2) r46.2 fun r47 =>
 gd (yv r44.1) false (pm (abin Try.prog .neq 3 r47.1 (.d (.int .i64 0))) r47.2) r47.2 fun r48 =>
 gd (yv r41.1) true (pk r44.1 (.d (.bool true)) r48.1 r48.2) r48.2 fun r49 =>
 gd (yv r38.1) false (pk r41.1 r49.1 (.d (.bool false)) r49.2) r49.2 fun r50 =>
 bi (pk r38.1 (.d (.bool true)) r50.1 r50.2) fun r51 =>
 cn (asB r51.1)
 (some (.ret, [.d (.bool false)], r51.2))
 (lp (s5.l1 call lim) [(v15.getD 0 .junk), (v15.getD 1 .junk), r25.1, r27.1, r28.1, .d (.int .i64 0), .d (.int .i64 0)] r51.2 fun j91 =>
 dsp j91.1 none (some (.ret, [(gv j91 0)], j91.2.2)) [(4, pu (abin Try.prog .gtr 3 (gv j91 3) (gv j91 2)) j91.2.2 fun r92 =>
 cn (asB r92.1)
 (some (.ret, [.d (.bool false)], r92.2))
 (pu (abin Try.prog .add 3 (gv j91 1) (.d (.int .i64 1))) r92.2 fun r93 =>
 some (.normal, [(gv j91 0), r93.1], r93.2)))]))
 (some (.exit 2, [], r21.2))
set_option maxRecDepth 100000 in
noncomputable def s5 (call : ACall) (lim : Nat) (a0 : AV) (H : Heap) : Option Res :=
 bi (call 8 [a0] H) fun r1 =>
 pu (aun .not r1.1) r1.2 fun r2 =>
 cn (asB r2.1)
 (bi (call 9 [] r2.2) fun r3 =>
 rt r3.1 r3.2)
 (bi (call 10 [] r2.2) fun r4 =>
 lp (s5.l0 call lim) [a0, r4.1, .d (.int .i64 0)] r4.2 fun j14 =>
 dsp j14.1 none none [(0, lp (s5.l2 call lim) [(gv j14 0), .d (.int .i64 0)] j14.2.2 fun j94 =>
 dsp j94.1 none (rt (gv j94 0) j94.2.2) [(2, bi (call 9 [] j94.2.2) fun r95 =>
 rt r95.1 r95.2)])])

/-! #### rushlight/rushlightlaw08.same -/
noncomputable def fi25 : FI := ⟨59, 0, [.tmp 4], (.seq (rgn Try.f25.body 0) (.seq (.seq (rgn Try.f25.body 1) (.cond (.tmp 40) (.seq (rgn Try.f25.body 2) .ret) .skip)) (.seq (.seq (rgn Try.f25.body 3) (.block 0 (.loop ⟨[2, 3, 5], some [4], [(0, [])]⟩ (.seq (.seq (rgn Try.f25.body 4) (.cond (.tmp 45) .skip (.exit 0))) (.seq (.block 1 (.seq (rgn Try.f25.body 6) (.cond (.tmp 58) (.seq (rgn Try.f25.body 7) .ret) .skip))) (rgn Try.f25.body 5)))))) (.seq (rgn Try.f25.body 8) .ret))))⟩
theorem fits25 : Fits Try.prog 25 fi25 Try.f25 := ⟨by kernel_rfl, by kernel_rfl, by kernel_rfl, by kernel_rfl, by kernel_rfl⟩
set_option maxRecDepth 100000 in
/-- A round: what is kept: [2, 3, 5]. -/
noncomputable def s25.l0 (call : ACall) (lim : Nat) (v34 : List AV) (h35 : Heap) : Option Res :=
 pu (fa 4 (v34.getD 0 .junk)) h35 fun r36 =>
 pu (ld r36.2 r36.1) r36.2 fun r37 =>
 pu (lnS r37.1) r37.2 fun r38 =>
 pu (abin Try.prog .lss 3 (v34.getD 2 .junk) r38.1) r38.2 fun r39 =>
 cn (asB r39.1)
 (pu (fa 4 (v34.getD 0 .junk)) r39.2 fun r40 =>
 pu (ld r40.2 r40.1) r40.2 fun r41 =>
 pu (ixS 3 r41.1 (v34.getD 2 .junk)) r41.2 fun r42 =>
 pu (ldA 3 r42.2 r42.1) r42.2 fun r43 =>
 pu (fa 4 (v34.getD 1 .junk)) r43.2 fun r44 =>
 pu (ld r44.2 r44.1) r44.2 fun r45 =>
 pu (ixS 3 r45.1 (v34.getD 2 .junk)) r45.2 fun r46 =>
 pu (ldA 3 r46.2 r46.1) r46.2 fun r47 =>
 pu (abin Try.prog .neq 52 r43.1 r47.1) r47.2 fun r48 =>
 cn (asB r48.1)
 (some (.ret, [.d (.bool false)], r48.2))
 (pu (abin Try.prog .add 3 (v34.getD 2 .junk) (.d (.int .i64 1))) r48.2 fun r49 =>
 some (.normal, [(v34.getD 0 .junk), (v34.getD 1 .junk), r49.1], r49.2)))
 (some (.exit 0, [], r39.2))
set_option maxRecDepth 100000 in
noncomputable def s25 (call : ACall) (lim : Nat) (a0 a1 : AV) (H : Heap) : Option Res :=
 bi (bx a0 H) fun r1 =>
 bi (bx a1 r1.2) fun r2 =>
 pu (fa 0 r1.1) r2.2 fun r3 =>
 pu (ld r3.2 r3.1) r3.2 fun r4 =>
 pu (fa 0 r2.1) r4.2 fun r5 =>
 pu (ld r5.2 r5.1) r5.2 fun r6 =>
 pu (abin Try.prog .neq 3 r4.1 r6.1) r6.2 fun r7 =>
 gd (yv r7.1) false (pm (fa 1 r1.1) r7.2) r7.2 fun r8 =>
 gd (yv r7.1) false (pm (ld r8.2 r8.1) r8.2) r8.2 fun r9 =>
 gd (yv r7.1) false (pm (fa 1 r2.1) r9.2) r9.2 fun r10 =>
 gd (yv r7.1) false (pm (ld r10.2 r10.1) r10.2) r10.2 fun r11 =>
 gd (yv r7.1) false (pm (abin Try.prog .neq 3 r9.1 r11.1) r11.2) r11.2 fun r12 =>
 bi (pk r7.1 (.d (.bool true)) r12.1 r12.2) fun r13 =>
 gd (yv r13.1) false (pm (fa 2 r1.1) r13.2) r13.2 fun r14 =>
 gd (yv r13.1) false (pm (ld r14.2 r14.1) r14.2) r14.2 fun r15 =>
 gd (yv r13.1) false (pm (fa 2 r2.1) r15.2) r15.2 fun r16 =>
 gd (yv r13.1) false (pm (ld r16.2 r16.1) r16.2) r16.2 fun r17 =>
 gd (yv r13.1) false (pm (abin Try.prog .neq 3 r15.1 r17.1) r17.2) r17.2 fun r18 =>
 bi (pk r13.1 (.d (.bool true)) r18.1 r18.2) fun r19 =>
 gd (yv r19.1) false (pm (fa 3 r1.1) r19.2) r19.2 fun r20 =>
 gd (yv r19.1) false (pm (ld r20.2 r20.1) r20.2) r20.2 fun r21 =>
 gd (yv r19.1) false (pm (fa 3 r2.1) r21.2) r21.2 fun r22 =>
 gd (yv r19.1) false (pm (ld r22.2 r22.1) r22.2) r22.2 fun r23 =>
 gd (yv r19.1) false (pm (abin Try.prog .neq 9 r21.1 r23.1) r23.2) r23.2 fun r24 =>
 bi (pk r19.1 (.d (.bool true)) r24.1 r24.2) fun r25 =>
 gd (yv r25.1) false (pm (fa 4 r1.1) r25.2) r25.2 fun r26 =>
 gd (yv r25.1) false (pm (ld r26.2 r26.1) r26.2) r26.2 fun r27 =>
 gd (yv r25.1) false (pm (lnS r27.1) r27.2) r27.2 fun r28 =>
 gd (yv r25.1) false (pm (fa 4 r2.1) r28.2) r28.2 fun r29 =>
 gd (yv r25.1) false (pm (ld r29.2 r29.1) r29.2) r29.2 fun r30 =>
 gd (yv r25.1) false (pm (lnS r30.1) r30.2) r30.2 fun r31 =>
 gd (yv r25.1) false (pm (abin Try.prog .neq 3 r28.1 r31.1) r31.2) r31.2 fun r32 =>
 bi (pk r25.1 (.d (.bool true)) r32.1 r32.2) fun r33 =>
 cn (asB r33.1)
 (rt (.d (.bool false)) r33.2)
 (lp (s25.l0 call lim) [r1.1, r2.1, .d (.int .i64 0)] r33.2 fun j50 =>
 dsp j50.1 none (rt (gv j50 0) j50.2.2) [(0, rt (.d (.bool true)) j50.2.2)])

/-! #### (*rushlight/kind.Table).Scalar -/
noncomputable def fi26 : FI := ⟨29, 0, [.tmp 4], (.seq (rgn Try.f26.body 0) (.seq (.seq (rgn Try.f26.body 1) (.cond (.tmp 9) (.seq (rgn Try.f26.body 2) .ret) .skip)) (.seq (rgn Try.f26.body 3) (.seq (rgn Try.f26.body 4) .ret))))⟩
theorem fits26 : Fits Try.prog 26 fi26 Try.f26 := ⟨by kernel_rfl, by kernel_rfl, by kernel_rfl, by kernel_rfl, by kernel_rfl⟩
set_option maxRecDepth 100000 in
noncomputable def s26 (call : ACall) (lim : Nat) (a0 a1 : AV) (H : Heap) : Option Res :=
 bi (call 33 [a0, a1] H) fun r1 =>
 pu (aun .not r1.1) r1.2 fun r2 =>
 cn (asB r2.1)
 (rt (.d (.bool false)) r2.2)
 (pu (anil a0) r2.2 fun r3 =>
 pu (fa 0 r3.1) r3.2 fun r4 =>
 pu (ld r4.2 r4.1) r4.2 fun r5 =>
 pu (ixS 8 r5.1 a1) r5.2 fun r6 =>
 pu (fa 0 r6.1) r6.2 fun r7 =>
 pu (fa 0 r7.1) r7.2 fun r8 =>
 pu (ld r8.2 r8.1) r8.2 fun r9 =>
 pu (abin Try.prog .eql 3 r9.1 (.d (.int .i64 1))) r9.2 fun r10 =>
 gd (yv r10.1) false (some (r9.1, r10.2)) r10.2 fun r11 =>
 gd (yv r10.1) false (pm (abin Try.prog .eql 3 r11.1 (.d (.int .i64 2))) r11.2) r11.2 fun r12 =>
 bi (pk r10.1 (.d (.bool true)) r12.1 r12.2) fun r13 =>
 gd (yv r13.1) false (some (r9.1, r13.2)) r13.2 fun r14 =>
 gd (yv r13.1) false (pm (abin Try.prog .eql 3 r14.1 (.d (.int .i64 3))) r14.2) r14.2 fun r15 =>
 bi (pk r13.1 (.d (.bool true)) r15.1 r15.2) fun r16 =>
 rt r16.1 r16.2)

/-! #### rushlight/rushlightlaw08.KindMakes -/
noncomputable def fi6 : FI := ⟨130, 0, [.tmp 2], (.seq (rgn Try.f6.body 0) (.seq (.seq (rgn Try.f6.body 1) (.cond (.tmp 14) (.seq (rgn Try.f6.body 2) .ret) .skip)) (.seq (rgn Try.f6.body 3) (.seq (rgn Try.f6.body 4) (.seq (.seq (rgn Try.f6.body 5) (.block 0 (.loop ⟨[0, 3, 4, 5], some [2], [(0, [3, 4])]⟩ (.seq (.seq (rgn Try.f6.body 6) (.cond (.tmp 21) .skip (.exit 0))) (.seq (.block 1 (.seq (rgn Try.f6.body 8) (.seq (.seq (rgn Try.f6.body 9) (.cond (.tmp 44) (.seq (rgn Try.f6.body 10) .ret) .skip)) (rgn Try.f6.body 11)))) (rgn Try.f6.body 7)))))) (.seq (.seq (rgn Try.f6.body 12) (.block 2 (.loop ⟨[3, 4, 9], some [2], [(2, [3, 4])]⟩ (.seq (.seq (rgn Try.f6.body 13) (.cond (.tmp 50) .skip (.exit 2))) (.seq (.block 3 (.seq (rgn Try.f6.body 15) (.seq (.seq (rgn Try.f6.body 16) (.cond (.tmp 100) (.seq (rgn Try.f6.body 17) .ret) .skip)) (.seq (rgn Try.f6.body 18) (.cond (.tmp 121) (.seq (rgn Try.f6.body 19) .ret) .skip))))) (rgn Try.f6.body 14)))))) (.seq (rgn Try.f6.body 20) .ret)))))))⟩
theorem fits6 : Fits Try.prog 6 fi6 Try.f6 := ⟨by kernel_rfl, by kernel_rfl, by kernel_rfl, by kernel_rfl, by kernel_rfl⟩
set_option maxRecDepth 100000 in
/-- A round: what is kept: [0, 3, 4, 5]. -/
noncomputable def s6.l0 (call : ACall) (lim : Nat) (v6 : List AV) (h7 : Heap) : Option Res :=
 pu (lnS (v6.getD 0 .junk)) h7 fun r8 =>
 pu (abin Try.prog .lss 3 (v6.getD 3 .junk) r8.1) r8.2 fun r9 =>
 cn (asB r9.1)
 (pu (ixS 5 (v6.getD 0 .junk) (v6.getD 3 .junk)) r9.2 fun r10 =>
 pu (ldA 5 r10.2 r10.1) r10.2 fun r11 =>
 bi (call 11 [r11.1, (v6.getD 1 .junk), (v6.getD 2 .junk)] r11.2) fun r12 =>
 pu (aextract r12.1 0) r12.2 fun r13 =>
 pu (aextract r12.1 1) r13.2 fun r14 =>
 pu (aextract r12.1 2) r14.2 fun r15 =>
 bi (al [.d (.int .i64 0), .d (.seq true 0 []), .d (.int .i64 0)] r15.2) fun r16 =>
 bi (stA 3 lim r16.2 r16.1 r15.1) fun r17 =>
 pu (fa 0 r16.1) r17.2 fun r18 =>
 pu (ld r18.2 r18.1) r18.2 fun r19 =>
 pu (abin Try.prog .neq 3 r13.1 r19.1) r19.2 fun r20 =>
 gd (yv r20.1) false (some (r14.1, r20.2)) r20.2 fun r21 =>
 gd (yv r20.1) false (pm (fa 2 r16.1) r21.2) r21.2 fun r22 =>
 gd (yv r20.1) false (pm (ld r22.2 r22.1) r22.2) r22.2 fun r23 =>
 gd (yv r20.1) false (pm (abin Try.prog .neq 3 r21.1 r23.1) r23.2) r23.2 fun r24 =>
 bi (pk r20.1 (.d (.bool true)) r24.1 r24.2) fun r25 =>
 cn (asB r25.1)
 (some (.ret, [.d (.bool false)], r25.2))
 (pu (fa 1 r16.1) r25.2 fun r26 =>
 pu (ld r26.2 r26.1) r26.2 fun r27 =>
 pu (abin Try.prog .add 3 (v6.getD 3 .junk) (.d (.int .i64 1))) r27.2 fun r28 =>
 some (.normal, [(v6.getD 0 .junk), (v6.getD 1 .junk), r27.1, r28.1], r28.2)))
 (some (.exit 0, [(v6.getD 1 .junk), (v6.getD 2 .junk)], r9.2))
set_option maxRecDepth 100000 in
/-- A round: what is kept: [3, 4, 9]. -/
noncomputable def s6.l1 (call : ACall) (lim : Nat) (v30 : List AV) (h31 : Heap) : Option Res :=
 pu (lnS (v30.getD 1 .junk)) h31 fun r32 =>
 pu (abin Try.prog .leq 3 (v30.getD 2 .junk) r32.1) r32.2 fun r33 =>
 cn (asB r33.1)
 (bi (call 20 [(v30.getD 0 .junk), (v30.getD 2 .junk)] r33.2) fun r34 =>
 pu (aextract r34.1 0) r34.2 fun r35 =>
 pu (aextract r34.1 1) r35.2 fun r36 =>
 bi (al [.d (.int .i64 0), .d (.int .i64 0), .d (.int .i64 0), .d (.str ⟨#[]⟩), .d (.seq true 0 [])] r36.2) fun r37 =>
 bi (stA 5 lim r37.2 r37.1 r35.1) fun r38 =>
 pu (abin Try.prog .eql 27 r36.1 (.d (.int .i64 0))) r38.2 fun r39 =>
 pu (abin Try.prog .geq 3 (v30.getD 2 .junk) (.d (.int .i64 0))) r39.2 fun r40 =>
 gd (yv r40.1) true (some ((v30.getD 2 .junk), r40.2)) r40.2 fun r41 =>
 gd (yv r40.1) true (some ((v30.getD 1 .junk), r41.2)) r41.2 fun r42 =>
 gd (yv r40.1) true (pm (lnS r42.1) r42.2) r42.2 fun r43 =>
 gd (yv r40.1) true (pm (abin Try.prog .lss 3 r41.1 r43.1) r43.2) r43.2 fun r44 =>
 bi (pk r40.1 r44.1 (.d (.bool false)) r44.2) fun r45 =>
 pu (abin Try.prog .neq 4 r39.1 r45.1) r45.2 fun r46 =>
 gd (yv r46.1) false (some ((v30.getD 0 .junk), r46.2)) r46.2 fun r47 =>
 gd (yv r46.1) false (some ((v30.getD 2 .junk), r47.2)) r47.2 fun r48 =>
 gd (yv r46.1) false (call 21 [r47.1, r48.1] r48.2) r48.2 fun r49 =>
 gd (yv r46.1) false (some ((v30.getD 1 .junk), r49.2)) r49.2 fun r50 =>
 gd (yv r46.1) false (some ((v30.getD 2 .junk), r50.2)) r50.2 fun r51 =>
 gd (yv r46.1) false (call 23 [r50.1, r51.1] r51.2) r51.2 fun r52 =>
 gd (yv r46.1) false (pm (abin Try.prog .neq 3 r49.1 r52.1) r52.2) r52.2 fun r53 =>
 bi (pk r46.1 (.d (.bool true)) r53.1 r53.2) fun r54 =>
 gd (yv r54.1) false (some ((v30.getD 0 .junk), r54.2)) r54.2 fun r55 =>
 gd (yv r54.1) false (some ((v30.getD 2 .junk), r55.2)) r55.2 fun r56 =>
 gd (yv r54.1) false (call 22 [r55.1, r56.1] r56.2) r56.2 fun r57 =>
 gd (yv r54.1) false (some ((v30.getD 1 .junk), r57.2)) r57.2 fun r58 =>
 gd (yv r54.1) false (some ((v30.getD 2 .junk), r58.2)) r58.2 fun r59 =>
 gd (yv r54.1) false (call 24 [r58.1, r59.1] r59.2) r59.2 fun r60 =>
 gd (yv r54.1) false (pm (abin Try.prog .neq 3 r57.1 r60.1) r60.2) r60.2 fun r61 =>
 bi (pk r54.1 (.d (.bool true)) r61.1 r61.2) fun r62 =>
 gd (yv r62.1) false (some (r36.1, r62.2)) r62.2 fun r63 =>
 gd (yv r62.1) false (pm (abin Try.prog .eql 27 r63.1 (.d (.int .i64 0))) r63.2) r63.2 fun r64 =>
 gd (yv r62.1) false (some (r64.1, r64.2)) r64.2 fun r65 =>
 gd (yv r65.1) true (pm (ldA 5 r65.2 r37.1) r65.2) r65.2 fun r66 =>
 gd (yv r65.1) true (some ((v30.getD 1 .junk), r66.2)) r66.2 fun r67 =>
 gd (yv r65.1) true (some ((v30.getD 2 .junk), r67.2)) r67.2 fun r68 =>
 gd (yv r65.1) true (pm (ixS 6 r67.1 r68.1) r68.2) r68.2 fun r69 =>
 gd (yv r65.1) true (pm (ldA 6 r69.2 r69.1) r69.2) r69.2 fun r70 =>
 gd (yv r65.1) true (call 25 [r66.1, r70.1] r70.2) r70.2 fun r71 =>
 gd (yv r65.1) true (pm (aun .not r71.1) r71.2) r71.2 fun r72 =>
 gd (yv r62.1) false (pk r65.1 r72.1 (.d (.bool false)) r72.2) r72.2 fun r73 =>
 bi (pk r62.1 (.d (.bool true)) r73.1 r73.2) fun r74 =>
 cn (asB r74.1)
 (some (.ret, [.d (.bool false)], r74.2))
 (bi (call 26 [(v30.getD 0 .junk), (v30.getD 2 .junk)] r74.2) fun r75 =>
 pu (abin Try.prog .eql 27 r36.1 (.d (.int .i64 0))) r75.2 fun r76 =>
 gd (yv r76.1) true (pm (fa 0 r37.1) r76.2) r76.2 fun r77 =>
 gd (yv r76.1) true (pm (ld r77.2 r77.1) r77.2) r77.2 fun r78 =>
 gd (yv r76.1) true (pm (abin Try.prog .eql 3 r78.1 (.d (.int .i64 1))) r78.2) r78.2 fun r79 =>
 gd (yv r76.1) true (some (r79.1, r79.2)) r79.2 fun r80 =>
 gd (yv r80.1) false (pm (fa 0 r37.1) r80.2) r80.2 fun r81 =>
 gd (yv r80.1) false (pm (ld r81.2 r81.1) r81.2) r81.2 fun r82 =>
 gd (yv r80.1) false (pm (abin Try.prog .eql 3 r82.1 (.d (.int .i64 2))) r82.2) r82.2 fun r83 =>
 gd (yv r76.1) true (pk r80.1 (.d (.bool true)) r83.1 r83.2) r83.2 fun r84 =>
 gd (yv r76.1) true (some (r84.1, r84.2)) r84.2 fun r85 =>
 gd (yv r85.1) false (pm (fa 0 r37.1) r85.2) r85.2 fun r86 =>
 gd (yv r85.1) false (pm (ld r86.2 r86.1) r86.2) r86.2 fun r87 =>
 gd (yv r85.1) false (pm (abin Try.prog .eql 3 r87.1 (.d (.int .i64 3))) r87.2) r87.2 fun r88 =>
 gd (yv r76.1) true (pk r85.1 (.d (.bool true)) r88.1 r88.2) r88.2 fun r89 =>
 bi (pk r76.1 r89.1 (.d (.bool false)) r89.2) fun r90 =>
 pu (abin Try.prog .neq 4 r75.1 r90.1) r90.2 fun r91 =>
 cn (asB r91.1)
 (some (.ret, [.d (.bool false)], r91.2))
 (pu (abin Try.prog .add 3 (v30.getD 2 .junk) (.d (.int .i64 1))) r91.2 fun r92 =>
 some (.normal, [(v30.getD 0 .junk), (v30.getD 1 .junk), r92.1], r92.2))))
 (some (.exit 2, [(v30.getD 0 .junk), (v30.getD 1 .junk)], r33.2))
set_option maxRecDepth 100000 in
noncomputable def s6 (call : ACall) (lim : Nat) (a0 : AV) (H : Heap) : Option Res :=
 bi (call 8 [a0] H) fun r1 =>
 pu (aun .not r1.1) r1.2 fun r2 =>
 cn (asB r2.1)
 (bi (call 9 [] r2.2) fun r3 =>
 rt r3.1 r3.2)
 (bi (call 10 [] r2.2) fun r4 =>
 bi (call 12 [] r4.2) fun r5 =>
 lp (s6.l0 call lim) [a0, r4.1, r5.1, .d (.int .i64 0)] r5.2 fun j29 =>
 dsp j29.1 none (rt (gv j29 0) j29.2.2) [(0, lp (s6.l1 call lim) [(gv j29 0), (gv j29 1), .d (.int .i64 (-1))] j29.2.2 fun j93 =>
 dsp j93.1 none (rt (gv j93 0) j93.2.2) [(2, bi (call 9 [] j93.2.2) fun r94 =>
 gd (yv r94.1) true (some ((gv j93 0), r94.2)) r94.2 fun r95 =>
 gd (yv r94.1) true (call 15 [r95.1] r95.2) r95.2 fun r96 =>
 gd (yv r94.1) true (some ((gv j93 1), r96.2)) r96.2 fun r97 =>
 gd (yv r94.1) true (pm (lnS r97.1) r97.2) r97.2 fun r98 =>
 gd (yv r94.1) true (pm (abin Try.prog .eql 3 r96.1 r98.1) r98.2) r98.2 fun r99 =>
 bi (pk r94.1 r99.1 (.d (.bool false)) r99.2) fun r100 =>
 rt r100.1 r100.2)])])

/-! #### rushlight/rushlightlaw08.KindNone -/
noncomputable def fi7 : FI := ⟨103, 0, [.tmp 4], (.seq (rgn Try.f7.body 0) (.seq (.seq (rgn Try.f7.body 1) (.cond (.tmp 18) (.seq (rgn Try.f7.body 2) .ret) .skip)) (.seq (rgn Try.f7.body 3) (.seq (rgn Try.f7.body 4) (.seq (rgn Try.f7.body 5) (.seq (rgn Try.f7.body 6) (.seq (rgn Try.f7.body 7) (.seq (rgn Try.f7.body 8) .ret))))))))⟩
theorem fits7 : Fits Try.prog 7 fi7 Try.f7 := ⟨by kernel_rfl, by kernel_rfl, by kernel_rfl, by kernel_rfl, by kernel_rfl⟩
set_option maxRecDepth 100000 in
noncomputable def s7 (call : ACall) (lim : Nat) (a0 a1 : AV) (H : Heap) : Option Res :=
 bi (bx a0 H) fun r1 =>
 pu (ldA 5 r1.2 r1.1) r1.2 fun r2 =>
 bi (bldS 5 1 [.d (.int .i64 0), .d (.int .i64 0), .d (.int .i64 0), .d (.str ⟨#[]⟩), .d (.seq true 0 [])] [(0, r2.1)] r2.2) fun r3 =>
 bi (call 8 [r3.1] r3.2) fun r4 =>
 pu (aun .not r4.1) r4.2 fun r5 =>
 cn (asB r5.1)
 (bi (call 9 [] r5.2) fun r6 =>
 rt r6.1 r6.2)
 (pu (ldA 5 r5.2 r1.1) r5.2 fun r7 =>
 bi (call 12 [] r7.2) fun r8 =>
 bi (call 11 [r7.1, .nilptr, r8.1] r8.2) fun r9 =>
 pu (aextract r9.1 0) r9.2 fun r10 =>
 pu (aextract r9.1 1) r10.2 fun r11 =>
 pu (aextract r9.1 2) r11.2 fun r12 =>
 bi (al [.d (.int .i64 0), .d (.seq true 0 []), .d (.int .i64 0)] r12.2) fun r13 =>
 ck [again lim (pm (ldA 5 r13.2 r1.1) r13.2) r7.1 r13.2, again lim (call 12 [] r13.2) r8.1 r13.2, again lim (call 11 [r7.1, .nilptr, r8.1] r13.2) r9.1 r13.2] (
 bi (stA 3 lim r13.2 r13.1 r12.1) fun r14 =>
 bi (call 20 [.nilptr, a1] r14.2) fun r15 =>
 pu (aextract r15.1 0) r15.2 fun r16 =>
 pu (aextract r15.1 1) r16.2 fun r17 =>
 bi (al [.d (.int .i64 0), .d (.int .i64 0), .d (.int .i64 0), .d (.str ⟨#[]⟩), .d (.seq true 0 [])] r17.2) fun r18 =>
 bi (stA 5 lim r18.2 r18.1 r16.1) fun r19 =>
 pu (fa 3 r1.1) r19.2 fun r20 =>
 pu (ld r20.2 r20.1) r20.2 fun r21 =>
 bi (call 16 [.nilptr, r21.1] r21.2) fun r22 =>
 pu (aextract r22.1 0) r22.2 fun r23 =>
 pu (aextract r22.1 1) r23.2 fun r24 =>
 pu (fa 3 r1.1) r24.2 fun r25 =>
 pu (ld r25.2 r25.1) r25.2 fun r26 =>
 bi (call 18 [.nilptr, a1, r26.1] r26.2) fun r27 =>
 pu (aextract r27.1 0) r27.2 fun r28 =>
 pu (aextract r27.1 1) r28.2 fun r29 =>
 bi (al [.d (.str ⟨#[]⟩), .d (.int .i64 0), .d (.int .i64 0)] r29.2) fun r30 =>
 bi (stA 3 lim r30.2 r30.1 r28.1) fun r31 =>
 bi (call 9 [] r31.2) fun r32 =>
 gd (yv r32.1) true (some (r10.1, r32.2)) r32.2 fun r33 =>
 gd (yv r32.1) true (pm (abin Try.prog .eql 3 r33.1 (.d (.int .i64 0))) r33.2) r33.2 fun r34 =>
 bi (pk r32.1 r34.1 (.d (.bool false)) r34.2) fun r35 =>
 gd (yv r35.1) true (some (r11.1, r35.2)) r35.2 fun r36 =>
 gd (yv r35.1) true (pm (abin Try.prog .eql 27 r36.1 (.d (.int .i64 1))) r36.2) r36.2 fun r37 =>
 bi (pk r35.1 r37.1 (.d (.bool false)) r37.2) fun r38 =>
 gd (yv r38.1) true (pm (fa 0 r18.1) r38.2) r38.2 fun r39 =>
 gd (yv r38.1) true (pm (ld r39.2 r39.1) r39.2) r39.2 fun r40 =>
 gd (yv r38.1) true (pm (abin Try.prog .eql 3 r40.1 (.d (.int .i64 0))) r40.2) r40.2 fun r41 =>
 bi (pk r38.1 r41.1 (.d (.bool false)) r41.2) fun r42 =>
 gd (yv r42.1) true (some (r17.1, r42.2)) r42.2 fun r43 =>
 gd (yv r42.1) true (pm (abin Try.prog .eql 27 r43.1 (.d (.int .i64 1))) r43.2) r43.2 fun r44 =>
 bi (pk r42.1 r44.1 (.d (.bool false)) r44.2) fun r45 =>
 gd (yv r45.1) true (some (r23.1, r45.2)) r45.2 fun r46 =>
 gd (yv r45.1) true (pm (abin Try.prog .eql 3 r46.1 (.d (.int .i64 0))) r46.2) r46.2 fun r47 =>
 bi (pk r45.1 r47.1 (.d (.bool false)) r47.2) fun r48 =>
 gd (yv r48.1) true (some (r24.1, r48.2)) r48.2 fun r49 =>
 gd (yv r48.1) true (pm (abin Try.prog .eql 27 r49.1 (.d (.int .i64 1))) r49.2) r49.2 fun r50 =>
 bi (pk r48.1 r50.1 (.d (.bool false)) r50.2) fun r51 =>
 gd (yv r51.1) true (pm (ldA 3 r51.2 r30.1) r51.2) r51.2 fun r52 =>
 gd (yv r51.1) true (pm (bld [(0, 1), (1, 1), (2, 1)] [.d (.str ⟨#[]⟩), .d (.int .i64 0), .d (.int .i64 0)] []) r52.2) r52.2 fun r53 =>
 gd (yv r51.1) true (pm (abin Try.prog .eql 45 r52.1 r53.1) r53.2) r53.2 fun r54 =>
 bi (pk r51.1 r54.1 (.d (.bool false)) r54.2) fun r55 =>
 gd (yv r55.1) true (some (r29.1, r55.2)) r55.2 fun r56 =>
 gd (yv r55.1) true (pm (abin Try.prog .eql 27 r56.1 (.d (.int .i64 1))) r56.2) r56.2 fun r57 =>
 bi (pk r55.1 r57.1 (.d (.bool false)) r57.2) fun r58 =>
 gd (yv r58.1) true (some (.nilptr, r58.2)) r58.2 fun r59 =>
 gd (yv r58.1) true (call 15 [r59.1] r59.2) r59.2 fun r60 =>
 gd (yv r58.1) true (some (.nilptr, r60.2)) r60.2 fun r61 =>
 gd (yv r58.1) true (some (a1, r61.2)) r61.2 fun r62 =>
 gd (yv r58.1) true (call 21 [r61.1, r62.1] r62.2) r62.2 fun r63 =>
 gd (yv r58.1) true (pm (abin Try.prog .add 3 r60.1 r63.1) r63.2) r63.2 fun r64 =>
 gd (yv r58.1) true (some (.nilptr, r64.2)) r64.2 fun r65 =>
 gd (yv r58.1) true (some (a1, r65.2)) r65.2 fun r66 =>
 gd (yv r58.1) true (call 22 [r65.1, r66.1] r66.2) r66.2 fun r67 =>
 gd (yv r58.1) true (pm (abin Try.prog .add 3 r64.1 r67.1) r67.2) r67.2 fun r68 =>
 gd (yv r58.1) true (pm (abin Try.prog .eql 3 r68.1 (.d (.int .i64 0))) r68.2) r68.2 fun r69 =>
 bi (pk r58.1 r69.1 (.d (.bool false)) r69.2) fun r70 =>
 gd (yv r70.1) true (some (.nilptr, r70.2)) r70.2 fun r71 =>
 gd (yv r70.1) true (some (a1, r71.2)) r71.2 fun r72 =>
 gd (yv r70.1) true (call 26 [r71.1, r72.1] r72.2) r72.2 fun r73 =>
 gd (yv r70.1) true (pm (aun .not r73.1) r73.2) r73.2 fun r74 =>
 bi (pk r70.1 r74.1 (.d (.bool false)) r74.2) fun r75 =>
 rt r75.1 r75.2))

/-- The table of texts. -/
noncomputable def C (μ : Nat) : FuncId → Option FI := fun f =>
  bif f == 8 then some fi8 else
  bif f == 10 then some fi10 else
  bif f == 45 then some fi45 else
  bif f == 43 then some fi43 else
  bif f == 35 then some fi35 else
  bif f == 44 then some fi44 else
  bif f == 34 then some fi34 else
  bif f == 27 then some fi27 else
  bif f == 51 then some fi51 else
  bif f == 46 then some fi46 else
  bif f == 47 then some fi47 else
  bif f == 33 then some fi33 else
  bif f == 48 then some fi48 else
  bif f == 21 then some fi21 else
  bif f == 49 then some fi49 else
  bif f == 50 then some fi50 else
  bif f == 38 then some fi38 else
  bif f == 36 then some fi36 else
  bif f == 22 then some fi22 else
  bif f == 40 then some fi40 else
  bif f == 39 then some fi39 else
  bif f == 28 then some fi28 else
  bif f == 18 then some fi18 else
  bif f == 14 then some fi14 else
  bif f == 9 then some fi9 else
  bif f == 12 then some fi12 else
  bif f == 13 then some fi13 else
  bif f == 19 then some fi19 else
  bif f == 41 then some fi41 else
  bif f == 29 then some fi29 else
  bif f == 24 then some fi24 else
  bif f == 37 then some fi37 else
  bif f == 23 then some fi23 else
  bif f == 30 then some fi30 else
  bif f == 17 then some fi17 else
  bif f == 31 then some fi31 else
  bif f == 42 then some fi42 else
  bif f == 32 then some fi32 else
  bif f == 11 then some (fi11 μ) else
  bif f == 15 then some fi15 else
  bif f == 3 then some fi3 else
  bif f == 16 then some fi16 else
  bif f == 4 then some fi4 else
  bif f == 20 then some fi20 else
  bif f == 5 then some fi5 else
  bif f == 25 then some fi25 else
  bif f == 26 then some fi26 else
  bif f == 6 then some fi6 else
  bif f == 7 then some fi7 else
  none
theorem fitsC (μ : Nat) : ∀ f fi, C μ f = some fi → ∃ fn, Fits Try.prog f fi fn := by
  intro f fi h
  unfold C at h
  by_cases h8 : f = 8
  · subst h8; cases h; exact ⟨_, fits8⟩
  rw [show (f == 8) = false from beq_false_of_ne h8, cond_false] at h
  by_cases h10 : f = 10
  · subst h10; cases h; exact ⟨_, fits10⟩
  rw [show (f == 10) = false from beq_false_of_ne h10, cond_false] at h
  by_cases h45 : f = 45
  · subst h45; cases h; exact ⟨_, fits45⟩
  rw [show (f == 45) = false from beq_false_of_ne h45, cond_false] at h
  by_cases h43 : f = 43
  · subst h43; cases h; exact ⟨_, fits43⟩
  rw [show (f == 43) = false from beq_false_of_ne h43, cond_false] at h
  by_cases h35 : f = 35
  · subst h35; cases h; exact ⟨_, fits35⟩
  rw [show (f == 35) = false from beq_false_of_ne h35, cond_false] at h
  by_cases h44 : f = 44
  · subst h44; cases h; exact ⟨_, fits44⟩
  rw [show (f == 44) = false from beq_false_of_ne h44, cond_false] at h
  by_cases h34 : f = 34
  · subst h34; cases h; exact ⟨_, fits34⟩
  rw [show (f == 34) = false from beq_false_of_ne h34, cond_false] at h
  by_cases h27 : f = 27
  · subst h27; cases h; exact ⟨_, fits27⟩
  rw [show (f == 27) = false from beq_false_of_ne h27, cond_false] at h
  by_cases h51 : f = 51
  · subst h51; cases h; exact ⟨_, fits51⟩
  rw [show (f == 51) = false from beq_false_of_ne h51, cond_false] at h
  by_cases h46 : f = 46
  · subst h46; cases h; exact ⟨_, fits46⟩
  rw [show (f == 46) = false from beq_false_of_ne h46, cond_false] at h
  by_cases h47 : f = 47
  · subst h47; cases h; exact ⟨_, fits47⟩
  rw [show (f == 47) = false from beq_false_of_ne h47, cond_false] at h
  by_cases h33 : f = 33
  · subst h33; cases h; exact ⟨_, fits33⟩
  rw [show (f == 33) = false from beq_false_of_ne h33, cond_false] at h
  by_cases h48 : f = 48
  · subst h48; cases h; exact ⟨_, fits48⟩
  rw [show (f == 48) = false from beq_false_of_ne h48, cond_false] at h
  by_cases h21 : f = 21
  · subst h21; cases h; exact ⟨_, fits21⟩
  rw [show (f == 21) = false from beq_false_of_ne h21, cond_false] at h
  by_cases h49 : f = 49
  · subst h49; cases h; exact ⟨_, fits49⟩
  rw [show (f == 49) = false from beq_false_of_ne h49, cond_false] at h
  by_cases h50 : f = 50
  · subst h50; cases h; exact ⟨_, fits50⟩
  rw [show (f == 50) = false from beq_false_of_ne h50, cond_false] at h
  by_cases h38 : f = 38
  · subst h38; cases h; exact ⟨_, fits38⟩
  rw [show (f == 38) = false from beq_false_of_ne h38, cond_false] at h
  by_cases h36 : f = 36
  · subst h36; cases h; exact ⟨_, fits36⟩
  rw [show (f == 36) = false from beq_false_of_ne h36, cond_false] at h
  by_cases h22 : f = 22
  · subst h22; cases h; exact ⟨_, fits22⟩
  rw [show (f == 22) = false from beq_false_of_ne h22, cond_false] at h
  by_cases h40 : f = 40
  · subst h40; cases h; exact ⟨_, fits40⟩
  rw [show (f == 40) = false from beq_false_of_ne h40, cond_false] at h
  by_cases h39 : f = 39
  · subst h39; cases h; exact ⟨_, fits39⟩
  rw [show (f == 39) = false from beq_false_of_ne h39, cond_false] at h
  by_cases h28 : f = 28
  · subst h28; cases h; exact ⟨_, fits28⟩
  rw [show (f == 28) = false from beq_false_of_ne h28, cond_false] at h
  by_cases h18 : f = 18
  · subst h18; cases h; exact ⟨_, fits18⟩
  rw [show (f == 18) = false from beq_false_of_ne h18, cond_false] at h
  by_cases h14 : f = 14
  · subst h14; cases h; exact ⟨_, fits14⟩
  rw [show (f == 14) = false from beq_false_of_ne h14, cond_false] at h
  by_cases h9 : f = 9
  · subst h9; cases h; exact ⟨_, fits9⟩
  rw [show (f == 9) = false from beq_false_of_ne h9, cond_false] at h
  by_cases h12 : f = 12
  · subst h12; cases h; exact ⟨_, fits12⟩
  rw [show (f == 12) = false from beq_false_of_ne h12, cond_false] at h
  by_cases h13 : f = 13
  · subst h13; cases h; exact ⟨_, fits13⟩
  rw [show (f == 13) = false from beq_false_of_ne h13, cond_false] at h
  by_cases h19 : f = 19
  · subst h19; cases h; exact ⟨_, fits19⟩
  rw [show (f == 19) = false from beq_false_of_ne h19, cond_false] at h
  by_cases h41 : f = 41
  · subst h41; cases h; exact ⟨_, fits41⟩
  rw [show (f == 41) = false from beq_false_of_ne h41, cond_false] at h
  by_cases h29 : f = 29
  · subst h29; cases h; exact ⟨_, fits29⟩
  rw [show (f == 29) = false from beq_false_of_ne h29, cond_false] at h
  by_cases h24 : f = 24
  · subst h24; cases h; exact ⟨_, fits24⟩
  rw [show (f == 24) = false from beq_false_of_ne h24, cond_false] at h
  by_cases h37 : f = 37
  · subst h37; cases h; exact ⟨_, fits37⟩
  rw [show (f == 37) = false from beq_false_of_ne h37, cond_false] at h
  by_cases h23 : f = 23
  · subst h23; cases h; exact ⟨_, fits23⟩
  rw [show (f == 23) = false from beq_false_of_ne h23, cond_false] at h
  by_cases h30 : f = 30
  · subst h30; cases h; exact ⟨_, fits30⟩
  rw [show (f == 30) = false from beq_false_of_ne h30, cond_false] at h
  by_cases h17 : f = 17
  · subst h17; cases h; exact ⟨_, fits17⟩
  rw [show (f == 17) = false from beq_false_of_ne h17, cond_false] at h
  by_cases h31 : f = 31
  · subst h31; cases h; exact ⟨_, fits31⟩
  rw [show (f == 31) = false from beq_false_of_ne h31, cond_false] at h
  by_cases h42 : f = 42
  · subst h42; cases h; exact ⟨_, fits42⟩
  rw [show (f == 42) = false from beq_false_of_ne h42, cond_false] at h
  by_cases h32 : f = 32
  · subst h32; cases h; exact ⟨_, fits32⟩
  rw [show (f == 32) = false from beq_false_of_ne h32, cond_false] at h
  by_cases h11 : f = 11
  · subst h11; cases h; exact ⟨_, fits11 μ⟩
  rw [show (f == 11) = false from beq_false_of_ne h11, cond_false] at h
  by_cases h15 : f = 15
  · subst h15; cases h; exact ⟨_, fits15⟩
  rw [show (f == 15) = false from beq_false_of_ne h15, cond_false] at h
  by_cases h3 : f = 3
  · subst h3; cases h; exact ⟨_, fits3⟩
  rw [show (f == 3) = false from beq_false_of_ne h3, cond_false] at h
  by_cases h16 : f = 16
  · subst h16; cases h; exact ⟨_, fits16⟩
  rw [show (f == 16) = false from beq_false_of_ne h16, cond_false] at h
  by_cases h4 : f = 4
  · subst h4; cases h; exact ⟨_, fits4⟩
  rw [show (f == 4) = false from beq_false_of_ne h4, cond_false] at h
  by_cases h20 : f = 20
  · subst h20; cases h; exact ⟨_, fits20⟩
  rw [show (f == 20) = false from beq_false_of_ne h20, cond_false] at h
  by_cases h5 : f = 5
  · subst h5; cases h; exact ⟨_, fits5⟩
  rw [show (f == 5) = false from beq_false_of_ne h5, cond_false] at h
  by_cases h25 : f = 25
  · subst h25; cases h; exact ⟨_, fits25⟩
  rw [show (f == 25) = false from beq_false_of_ne h25, cond_false] at h
  by_cases h26 : f = 26
  · subst h26; cases h; exact ⟨_, fits26⟩
  rw [show (f == 26) = false from beq_false_of_ne h26, cond_false] at h
  by_cases h6 : f = 6
  · subst h6; cases h; exact ⟨_, fits6⟩
  rw [show (f == 6) = false from beq_false_of_ne h6, cond_false] at h
  by_cases h7 : f = 7
  · subst h7; cases h; exact ⟨_, fits7⟩
  rw [show (f == 7) = false from beq_false_of_ne h7, cond_false] at h
  cases h
end Go.Ev.Try
