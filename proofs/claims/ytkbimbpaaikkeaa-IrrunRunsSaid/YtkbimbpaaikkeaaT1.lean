import Derived.Test.YtkbimbpaaikkeaaProg
import Derived.Test.YtkbimbpaaikkeaaE2
import Derived.KernelRfl
set_option linter.unusedSimpArgs false
set_option linter.unusedVariables false
/- The functions' plain texts, written by a program (gen.py) out of the loaded program. -/
set_option linter.unusedVariables false
namespace Go.Ev.Try
open Go Go.Ev Go.Proofs
/-! #### rushlight/rushlightlaw13.ins -/
noncomputable def fi17 : FI := ⟨66, 0, [.tmp 2], (.seq (rgn Try.f17.body 0) (.seq (rgn Try.f17.body 1) (.seq (.seq (rgn Try.f17.body 2) (.block 0 (.loop ⟨[1, 3, 4], some [2], [(0, [1])]⟩ (.seq (.seq (rgn Try.f17.body 3) (.cond (.tmp 26) .skip (.exit 0))) (.seq (.block 1 (.seq (rgn Try.f17.body 5) (.cond (.tmp 40) (.seq (rgn Try.f17.body 6) .ret) .skip))) (rgn Try.f17.body 4)))))) (.seq (.seq (rgn Try.f17.body 7) (.block 2 (.loop ⟨[1, 5], some [2], [(2, [1])]⟩ (.seq (.seq (rgn Try.f17.body 8) (.cond (.tmp 45) .skip (.exit 2))) (.seq (.block 3 (.seq (rgn Try.f17.body 10) (.cond (.tmp 61) (.seq (rgn Try.f17.body 11) .ret) .skip))) (rgn Try.f17.body 9)))))) (.seq (rgn Try.f17.body 12) .ret)))))⟩
theorem fits17 : Fits Try.prog 17 fi17 Try.f17 := ⟨by kernel_rfl, by kernel_rfl, by kernel_rfl, by kernel_rfl, by kernel_rfl⟩
set_option maxRecDepth 100000 in
/-- A round: what is kept: [1, 3, 4]. -/
noncomputable def s17.l0 (call : ACall) (lim : Nat) (v19 : List AV) (h20 : Heap) : Option Res :=
 pu (lnS (v19.getD 1 .junk)) h20 fun r21 =>
 pu (abin Try.prog .lss 3 (v19.getD 2 .junk) r21.1) r21.2 fun r22 =>
 cn (asB r22.1)
 (pu (ixS 1 (v19.getD 1 .junk) (v19.getD 2 .junk)) r22.2 fun r23 =>
 pu (ld r23.2 r23.1) r23.2 fun r24 =>
 pu (abin Try.prog .gtr 3 r24.1 (.d (.int .i64 1099511627776))) r24.2 fun r25 =>
 gd (yv r25.1) false (some ((v19.getD 1 .junk), r25.2)) r25.2 fun r26 =>
 gd (yv r25.1) false (some ((v19.getD 2 .junk), r26.2)) r26.2 fun r27 =>
 gd (yv r25.1) false (pm (ixS 1 r26.1 r27.1) r27.2) r27.2 fun r28 =>
 gd (yv r25.1) false (pm (ld r28.2 r28.1) r28.2) r28.2 fun r29 =>
 gd (yv r25.1) false (pm (abin Try.prog .lss 3 r29.1 (.d (.int .i64 (-1099511627776)))) r29.2) r29.2 fun r30 =>
 bi (pk r25.1 (.d (.bool true)) r30.1 r30.2) fun r31 =>
 cn (asB r31.1)
 (some (.ret, [.d (.bool false)], r31.2))
 (pu (abin Try.prog .add 3 (v19.getD 2 .junk) (.d (.int .i64 1))) r31.2 fun r32 =>
 some (.normal, [(v19.getD 0 .junk), (v19.getD 1 .junk), r32.1], r32.2)))
 (some (.exit 0, [(v19.getD 0 .junk)], r22.2))
set_option maxRecDepth 100000 in
/-- A round: what is kept: [1, 5]. -/
noncomputable def s17.l1 (call : ACall) (lim : Nat) (v34 : List AV) (h35 : Heap) : Option Res :=
 pu (fa 9 (v34.getD 0 .junk)) h35 fun r36 =>
 pu (ld r36.2 r36.1) r36.2 fun r37 =>
 pu (lnS r37.1) r37.2 fun r38 =>
 pu (abin Try.prog .lss 3 (v34.getD 1 .junk) r38.1) r38.2 fun r39 =>
 cn (asB r39.1)
 (pu (fa 9 (v34.getD 0 .junk)) r39.2 fun r40 =>
 pu (ld r40.2 r40.1) r40.2 fun r41 =>
 pu (ixS 1 r41.1 (v34.getD 1 .junk)) r41.2 fun r42 =>
 pu (ld r42.2 r42.1) r42.2 fun r43 =>
 pu (abin Try.prog .gtr 3 r43.1 (.d (.int .i64 1099511627776))) r43.2 fun r44 =>
 gd (yv r44.1) false (pm (fa 9 (v34.getD 0 .junk)) r44.2) r44.2 fun r45 =>
 gd (yv r44.1) false (pm (ld r45.2 r45.1) r45.2) r45.2 fun r46 =>
 gd (yv r44.1) false (some ((v34.getD 1 .junk), r46.2)) r46.2 fun r47 =>
 gd (yv r44.1) false (pm (ixS 1 r46.1 r47.1) r47.2) r47.2 fun r48 =>
 gd (yv r44.1) false (pm (ld r48.2 r48.1) r48.2) r48.2 fun r49 =>
 gd (yv r44.1) false (pm (abin Try.prog .lss 3 r49.1 (.d (.int .i64 (-1099511627776)))) r49.2) r49.2 fun r50 =>
 bi (pk r44.1 (.d (.bool true)) r50.1 r50.2) fun r51 =>
 cn (asB r51.1)
 (some (.ret, [.d (.bool false)], r51.2))
 (pu (abin Try.prog .add 3 (v34.getD 1 .junk) (.d (.int .i64 1))) r51.2 fun r52 =>
 some (.normal, [(v34.getD 0 .junk), r52.1], r52.2)))
 (some (.exit 2, [(v34.getD 0 .junk)], r39.2))
set_option maxRecDepth 100000 in
noncomputable def s17 (call : ACall) (lim : Nat) (a0 : AV) (H : Heap) : Option Res :=
 bi (bx a0 H) fun r1 =>
 pu (fa 0 r1.1) r1.2 fun r2 =>
 pu (ld r2.2 r2.1) r2.2 fun r3 =>
 pu (fa 1 r1.1) r3.2 fun r4 =>
 pu (ld r4.2 r4.1) r4.2 fun r5 =>
 pu (fa 2 r1.1) r5.2 fun r6 =>
 pu (ld r6.2 r6.1) r6.2 fun r7 =>
 pu (fa 3 r1.1) r7.2 fun r8 =>
 pu (ld r8.2 r8.1) r8.2 fun r9 =>
 pu (fa 4 r1.1) r9.2 fun r10 =>
 pu (ld r10.2 r10.1) r10.2 fun r11 =>
 pu (fa 5 r1.1) r11.2 fun r12 =>
 pu (ld r12.2 r12.1) r12.2 fun r13 =>
 pu (fa 6 r1.1) r13.2 fun r14 =>
 pu (ld r14.2 r14.1) r14.2 fun r15 =>
 pu (fa 7 r1.1) r15.2 fun r16 =>
 pu (ld r16.2 r16.1) r16.2 fun r17 =>
 bi (bldS 1 8 [.d (.int .i64 0)] [(0, r3.1), (1, r5.1), (2, r7.1), (3, r9.1), (4, r11.1), (5, r13.1), (6, r15.1), (7, r17.1)] r17.2) fun r18 =>
 lp (s17.l0 call lim) [r1.1, r18.1, .d (.int .i64 0)] r18.2 fun j33 =>
 dsp j33.1 none (rt (gv j33 0) j33.2.2) [(0, lp (s17.l1 call lim) [(gv j33 0), .d (.int .i64 0)] j33.2.2 fun j53 =>
 dsp j53.1 none (rt (gv j53 0) j53.2.2) [(2, pu (fa 9 (gv j53 0)) j53.2.2 fun r54 =>
 pu (ld r54.2 r54.1) r54.2 fun r55 =>
 pu (lnS r55.1) r55.2 fun r56 =>
 pu (abin Try.prog .leq 3 r56.1 (.d (.int .i64 12))) r56.2 fun r57 =>
 rt r57.1 r57.2)])]

/-! #### rushlight/rushlightlaw13.Few -/
noncomputable def fi7 : FI := ⟨100, 0, [.tmp 2], (.seq (rgn Try.f7.body 0) (.seq (.seq (rgn Try.f7.body 1) (.cond (.tmp 21) (.seq (rgn Try.f7.body 2) .ret) .skip)) (.seq (.seq (rgn Try.f7.body 3) (.block 0 (.loop ⟨[1, 3], some [2], [(0, [])]⟩ (.seq (.seq (rgn Try.f7.body 4) (.cond (.tmp 26) .skip (.exit 0))) (.seq (.block 1 (.seq (.seq (rgn Try.f7.body 6) (.cond (.tmp 46) (.seq (rgn Try.f7.body 7) .ret) .skip)) (.seq (rgn Try.f7.body 8) (.block 2 (.loop ⟨[1, 3, 4], some [2], [(2, [1, 3])]⟩ (.seq (.seq (rgn Try.f7.body 9) (.cond (.tmp 55) .skip (.exit 2))) (.seq (.block 3 (.seq (.seq (rgn Try.f7.body 11) (.cond (.tmp 69) (.seq (rgn Try.f7.body 12) .ret) .skip)) (.seq (rgn Try.f7.body 13) (.block 4 (.loop ⟨[1, 3, 4, 5], some [2], [(4, [1, 3, 4])]⟩ (.seq (.seq (rgn Try.f7.body 14) (.cond (.tmp 82) .skip (.exit 4))) (.seq (.block 5 (.seq (rgn Try.f7.body 16) (.cond (.tmp 99) (.seq (rgn Try.f7.body 17) .ret) .skip))) (rgn Try.f7.body 15)))))))) (rgn Try.f7.body 10)))))))) (rgn Try.f7.body 5)))))) (.seq (rgn Try.f7.body 18) .ret))))⟩
theorem fits7 : Fits Try.prog 7 fi7 Try.f7 := ⟨by kernel_rfl, by kernel_rfl, by kernel_rfl, by kernel_rfl, by kernel_rfl⟩
set_option maxRecDepth 100000 in
/-- A round: what is kept: [1, 3, 4, 5]. -/
noncomputable def s7.l0 (call : ACall) (lim : Nat) (v57 : List AV) (h58 : Heap) : Option Res :=
 pu (fa 2 (v57.getD 0 .junk)) h58 fun r59 =>
 pu (ld r59.2 r59.1) r59.2 fun r60 =>
 pu (ixS 6 r60.1 (v57.getD 1 .junk)) r60.2 fun r61 =>
 pu (fa 5 r61.1) r61.2 fun r62 =>
 pu (ld r62.2 r62.1) r62.2 fun r63 =>
 pu (ixS 5 r63.1 (v57.getD 2 .junk)) r63.2 fun r64 =>
 pu (fa 0 r64.1) r64.2 fun r65 =>
 pu (ld r65.2 r65.1) r65.2 fun r66 =>
 pu (lnS r66.1) r66.2 fun r67 =>
 pu (abin Try.prog .lss 3 (v57.getD 3 .junk) r67.1) r67.2 fun r68 =>
 cn (asB r68.1)
 (pu (fa 2 (v57.getD 0 .junk)) r68.2 fun r69 =>
 pu (ld r69.2 r69.1) r69.2 fun r70 =>
 pu (ixS 6 r70.1 (v57.getD 1 .junk)) r70.2 fun r71 =>
 pu (fa 5 r71.1) r71.2 fun r72 =>
 pu (ld r72.2 r72.1) r72.2 fun r73 =>
 pu (ixS 5 r73.1 (v57.getD 2 .junk)) r73.2 fun r74 =>
 pu (fa 0 r74.1) r74.2 fun r75 =>
 pu (ld r75.2 r75.1) r75.2 fun r76 =>
 pu (ixS 11 r76.1 (v57.getD 3 .junk)) r76.2 fun r77 =>
 pu (ldA 11 r77.2 r77.1) r77.2 fun r78 =>
 bi (call 17 [r78.1] r78.2) fun r79 =>
 pu (aun .not r79.1) r79.2 fun r80 =>
 cn (asB r80.1)
 (some (.ret, [.d (.bool false)], r80.2))
 (pu (abin Try.prog .add 3 (v57.getD 3 .junk) (.d (.int .i64 1))) r80.2 fun r81 =>
 some (.normal, [(v57.getD 0 .junk), (v57.getD 1 .junk), (v57.getD 2 .junk), r81.1], r81.2)))
 (some (.exit 4, [(v57.getD 0 .junk), (v57.getD 1 .junk), (v57.getD 2 .junk)], r68.2))
set_option maxRecDepth 100000 in
/-- A round: what is kept: [1, 3, 4]. -/
noncomputable def s7.l1 (call : ACall) (lim : Nat) (v38 : List AV) (h39 : Heap) : Option Res :=
 pu (fa 2 (v38.getD 0 .junk)) h39 fun r40 =>
 pu (ld r40.2 r40.1) r40.2 fun r41 =>
 pu (ixS 6 r41.1 (v38.getD 1 .junk)) r41.2 fun r42 =>
 pu (fa 5 r42.1) r42.2 fun r43 =>
 pu (ld r43.2 r43.1) r43.2 fun r44 =>
 pu (lnS r44.1) r44.2 fun r45 =>
 pu (abin Try.prog .lss 3 (v38.getD 2 .junk) r45.1) r45.2 fun r46 =>
 cn (asB r46.1)
 (pu (fa 2 (v38.getD 0 .junk)) r46.2 fun r47 =>
 pu (ld r47.2 r47.1) r47.2 fun r48 =>
 pu (ixS 6 r48.1 (v38.getD 1 .junk)) r48.2 fun r49 =>
 pu (fa 5 r49.1) r49.2 fun r50 =>
 pu (ld r50.2 r50.1) r50.2 fun r51 =>
 pu (ixS 5 r51.1 (v38.getD 2 .junk)) r51.2 fun r52 =>
 pu (fa 0 r52.1) r52.2 fun r53 =>
 pu (ld r53.2 r53.1) r53.2 fun r54 =>
 pu (lnS r54.1) r54.2 fun r55 =>
 pu (abin Try.prog .gtr 3 r55.1 (.d (.int .i64 60))) r55.2 fun r56 =>
 cn (asB r56.1)
 (some (.ret, [.d (.bool false)], r56.2))
 (lp (s7.l0 call lim) [(v38.getD 0 .junk), (v38.getD 1 .junk), (v38.getD 2 .junk), .d (.int .i64 0)] r56.2 fun j82 =>
 dsp j82.1 none (some (.ret, [(gv j82 0)], j82.2.2)) [(4, pu (abin Try.prog .add 3 (gv j82 2) (.d (.int .i64 1))) j82.2.2 fun r83 =>
 some (.normal, [(gv j82 0), (gv j82 1), r83.1], r83.2))]))
 (some (.exit 2, [(v38.getD 0 .junk), (v38.getD 1 .junk)], r46.2))
set_option maxRecDepth 100000 in
/-- A round: what is kept: [1, 3]. -/
noncomputable def s7.l2 (call : ACall) (lim : Nat) (v16 : List AV) (h17 : Heap) : Option Res :=
 pu (fa 2 (v16.getD 0 .junk)) h17 fun r18 =>
 pu (ld r18.2 r18.1) r18.2 fun r19 =>
 pu (lnS r19.1) r19.2 fun r20 =>
 pu (abin Try.prog .lss 3 (v16.getD 1 .junk) r20.1) r20.2 fun r21 =>
 cn (asB r21.1)
 (pu (fa 2 (v16.getD 0 .junk)) r21.2 fun r22 =>
 pu (ld r22.2 r22.1) r22.2 fun r23 =>
 pu (ixS 6 r23.1 (v16.getD 1 .junk)) r23.2 fun r24 =>
 pu (fa 5 r24.1) r24.2 fun r25 =>
 pu (ld r25.2 r25.1) r25.2 fun r26 =>
 pu (lnS r26.1) r26.2 fun r27 =>
 pu (abin Try.prog .gtr 3 r27.1 (.d (.int .i64 40))) r27.2 fun r28 =>
 gd (yv r28.1) false (pm (fa 2 (v16.getD 0 .junk)) r28.2) r28.2 fun r29 =>
 gd (yv r28.1) false (pm (ld r29.2 r29.1) r29.2) r29.2 fun r30 =>
 gd (yv r28.1) false (some ((v16.getD 1 .junk), r30.2)) r30.2 fun r31 =>
 gd (yv r28.1) false (pm (ixS 6 r30.1 r31.1) r31.2) r31.2 fun r32 =>
 gd (yv r28.1) false (pm (fa 4 r32.1) r32.2) r32.2 fun r33 =>
 gd (yv r28.1) false (pm (ld r33.2 r33.1) r33.2) r33.2 fun r34 =>
 gd (yv r28.1) false (pm (lnS r34.1) r34.2) r34.2 fun r35 =>
 gd (yv r28.1) false (pm (abin Try.prog .gtr 3 r35.1 (.d (.int .i64 20))) r35.2) r35.2 fun r36 =>
 bi (pk r28.1 (.d (.bool true)) r36.1 r36.2) fun r37 =>
 cn (asB r37.1)
 (some (.ret, [.d (.bool false)], r37.2))
 (lp (s7.l1 call lim) [(v16.getD 0 .junk), (v16.getD 1 .junk), .d (.int .i64 0)] r37.2 fun j84 =>
 dsp j84.1 none (some (.ret, [(gv j84 0)], j84.2.2)) [(2, pu (abin Try.prog .add 3 (gv j84 1) (.d (.int .i64 1))) j84.2.2 fun r85 =>
 some (.normal, [(gv j84 0), r85.1], r85.2))]))
 (some (.exit 0, [], r21.2))
set_option maxRecDepth 100000 in
noncomputable def s7 (call : ACall) (lim : Nat) (a0 : AV) (H : Heap) : Option Res :=
 bi (bx a0 H) fun r1 =>
 pu (fa 2 r1.1) r1.2 fun r2 =>
 pu (ld r2.2 r2.1) r2.2 fun r3 =>
 pu (lnS r3.1) r3.2 fun r4 =>
 pu (abin Try.prog .gtr 3 r4.1 (.d (.int .i64 6))) r4.2 fun r5 =>
 gd (yv r5.1) false (pm (fa 0 r1.1) r5.2) r5.2 fun r6 =>
 gd (yv r5.1) false (pm (ld r6.2 r6.1) r6.2) r6.2 fun r7 =>
 gd (yv r5.1) false (pm (lnS r7.1) r7.2) r7.2 fun r8 =>
 gd (yv r5.1) false (pm (abin Try.prog .gtr 3 r8.1 (.d (.int .i64 20))) r8.2) r8.2 fun r9 =>
 bi (pk r5.1 (.d (.bool true)) r9.1 r9.2) fun r10 =>
 gd (yv r10.1) false (pm (fa 1 r1.1) r10.2) r10.2 fun r11 =>
 gd (yv r10.1) false (pm (ld r11.2 r11.1) r11.2) r11.2 fun r12 =>
 gd (yv r10.1) false (pm (lnS r12.1) r12.2) r12.2 fun r13 =>
 gd (yv r10.1) false (pm (abin Try.prog .gtr 3 r13.1 (.d (.int .i64 20))) r13.2) r13.2 fun r14 =>
 bi (pk r10.1 (.d (.bool true)) r14.1 r14.2) fun r15 =>
 cn (asB r15.1)
 (rt (.d (.bool false)) r15.2)
 (lp (s7.l2 call lim) [r1.1, .d (.int .i64 0)] r15.2 fun j86 =>
 dsp j86.1 none (rt (gv j86 0) j86.2.2) [(0, rt (.d (.bool true)) j86.2.2)])

/-! #### rushlight/ir.slots -/
noncomputable def fi37 : FI := ⟨30, 0, [.tmp 2], (.seq (rgn Try.f37.body 0) (.seq (.seq (rgn Try.f37.body 1) (.block 0 (.loop ⟨[5, 6, 7], some [2], [(0, [])]⟩ (.seq (rgn Try.f37.body 2) (.seq (.cond (.tmp 8) .skip (.exit 0)) (.seq (.block 1 (.seq (rgn Try.f37.body 3) (.seq (rgn Try.f37.body 4) (.cond (.tmp 28) (.seq (rgn Try.f37.body 5) .ret) .skip)))) (rgn Try.f37.body 6))))))) (.seq (rgn Try.f37.body 7) .ret)))⟩
theorem fits37 : Fits Try.prog 37 fi37 Try.f37 := ⟨by kernel_rfl, by kernel_rfl, by kernel_rfl, by kernel_rfl, by kernel_rfl⟩
set_option maxRecDepth 100000 in
/-- A round: what is kept: [5, 6, 7]. -/
noncomputable def s37.l0 (call : ACall) (lim : Nat) (v2 : List AV) (h3 : Heap) : Option Res :=
 pu (abin Try.prog .lss 3 (v2.getD 2 .junk) (v2.getD 1 .junk)) h3 fun r4 =>
 cn (asB r4.1)
 (pu (ixS 4 (v2.getD 0 .junk) (v2.getD 2 .junk)) r4.2 fun r5 =>
 pu (ldA 4 r5.2 r5.1) r5.2 fun r6 =>
 bi (al [.d (.str ⟨#[]⟩), .d (.int .i64 0), .d (.int .i64 0), .d (.int .i64 0)] r6.2) fun r7 =>
 bi (stA 4 lim r7.2 r7.1 r6.1) fun r8 =>
 pu (fa 1 r7.1) r8.2 fun r9 =>
 pu (ld r9.2 r9.1) r9.2 fun r10 =>
 pu (abin Try.prog .lss 3 r10.1 (.d (.int .i64 1))) r10.2 fun r11 =>
 gd (yv r11.1) false (pm (fa 1 r7.1) r11.2) r11.2 fun r12 =>
 gd (yv r11.1) false (pm (ld r12.2 r12.1) r12.2) r12.2 fun r13 =>
 gd (yv r11.1) false (pm (abin Try.prog .gtr 3 r13.1 (.d (.int .i64 32768))) r13.2) r13.2 fun r14 =>
 bi (pk r11.1 (.d (.bool true)) r14.1 r14.2) fun r15 =>
 gd (yv r15.1) false (pm (fa 2 r7.1) r15.2) r15.2 fun r16 =>
 gd (yv r15.1) false (pm (ld r16.2 r16.1) r16.2) r16.2 fun r17 =>
 gd (yv r15.1) false (pm (abin Try.prog .neq 3 r17.1 (.d (.int .i64 1))) r17.2) r17.2 fun r18 =>
 gd (yv r15.1) false (some (r18.1, r18.2)) r18.2 fun r19 =>
 gd (yv r19.1) true (pm (fa 2 r7.1) r19.2) r19.2 fun r20 =>
 gd (yv r19.1) true (pm (ld r20.2 r20.1) r20.2) r20.2 fun r21 =>
 gd (yv r19.1) true (pm (abin Try.prog .neq 3 r21.1 (.d (.int .i64 4))) r21.2) r21.2 fun r22 =>
 gd (yv r15.1) false (pk r19.1 r22.1 (.d (.bool false)) r22.2) r22.2 fun r23 =>
 bi (pk r15.1 (.d (.bool true)) r23.1 r23.2) fun r24 =>
 cn (asB r24.1)
 (some (.ret, [.d (.bool false)], r24.2))
 (pu (abin Try.prog .add 3 (v2.getD 2 .junk) (.d (.int .i64 1))) r24.2 fun r25 =>
 some (.normal, [(v2.getD 0 .junk), (v2.getD 1 .junk), r25.1], r25.2)))
 (some (.exit 0, [], r4.2))
set_option maxRecDepth 100000 in
noncomputable def s37 (call : ACall) (lim : Nat) (a0 : AV) (H : Heap) : Option Res :=
 pu (lnS a0) H fun r1 =>
 lp (s37.l0 call lim) [a0, r1.1, .d (.int .i64 0)] r1.2 fun j26 =>
 dsp j26.1 none (rt (gv j26 0) j26.2.2) [(0, rt (.d (.bool true)) j26.2.2)]

/-! #### rushlight/ir.Size -/
noncomputable def fi72 : FI := ⟨23, 0, [.tmp 2], (.seq (rgn Try.f72.body 0) (.seq (rgn Try.f72.body 1) (.seq (.seq (rgn Try.f72.body 2) (.block 0 (.loop ⟨[3, 10, 11, 12], none, [(0, [3])]⟩ (.seq (rgn Try.f72.body 3) (.seq (.cond (.tmp 13) .skip (.exit 0)) (.seq (.block 1 (.seq (rgn Try.f72.body 4) (rgn Try.f72.body 5))) (rgn Try.f72.body 6))))))) (.seq (rgn Try.f72.body 7) .ret))))⟩
theorem fits72 : Fits Try.prog 72 fi72 Try.f72 := ⟨by kernel_rfl, by kernel_rfl, by kernel_rfl, by kernel_rfl, by kernel_rfl⟩
set_option maxRecDepth 100000 in
/-- A round: what is kept: [3, 10, 11, 12]. -/
noncomputable def s72.l0 (call : ACall) (lim : Nat) (v8 : List AV) (h9 : Heap) : Option Res :=
 pu (abin Try.prog .lss 3 (v8.getD 3 .junk) (v8.getD 2 .junk)) h9 fun r10 =>
 cn (asB r10.1)
 (pu (ixS 5 (v8.getD 1 .junk) (v8.getD 3 .junk)) r10.2 fun r11 =>
 pu (ldA 5 r11.2 r11.1) r11.2 fun r12 =>
 bi (al [.d (.seq true 0 []), .d (.int .i64 0), .d (.int .i64 0), .d (.int .i64 0), .d (.int .i64 0)] r12.2) fun r13 =>
 bi (stA 5 lim r13.2 r13.1 r12.1) fun r14 =>
 pu (fa 0 r13.1) r14.2 fun r15 =>
 pu (ld r15.2 r15.1) r15.2 fun r16 =>
 pu (lnS r16.1) r16.2 fun r17 =>
 pu (abin Try.prog .add 3 (v8.getD 0 .junk) r17.1) r17.2 fun r18 =>
 pu (abin Try.prog .add 3 (v8.getD 3 .junk) (.d (.int .i64 1))) r18.2 fun r19 =>
 some (.normal, [r18.1, (v8.getD 1 .junk), (v8.getD 2 .junk), r19.1], r19.2))
 (some (.exit 0, [(v8.getD 0 .junk)], r10.2))
set_option maxRecDepth 100000 in
noncomputable def s72 (call : ACall) (lim : Nat) (a0 : AV) (H : Heap) : Option Res :=
 bi (bx a0 H) fun r1 =>
 pu (fa 5 r1.1) r1.2 fun r2 =>
 pu (ld r2.2 r2.1) r2.2 fun r3 =>
 pu (lnS r3.1) r3.2 fun r4 =>
 pu (fa 5 r1.1) r4.2 fun r5 =>
 pu (ld r5.2 r5.1) r5.2 fun r6 =>
 pu (lnS r6.1) r6.2 fun r7 =>
 lp (s72.l0 call lim) [r4.1, r6.1, r7.1, .d (.int .i64 0)] r7.2 fun j20 =>
 dsp j20.1 none none [(0, rt (gv j20 0) j20.2.2)]

/-! #### rushlight/ir.reads -/
noncomputable def fi78 : FI := ⟨15, 0, [.tmp 2, .tmp 3], (.seq (rgn Try.f78.body 0) (.cut ⟨[2, 3], none, []⟩ (.seq (rgn Try.f78.body 1) (.block 0 (.cut ⟨[3], none, [(0, [2, 3])]⟩ (.block 2 (.seq (.block 1 (.seq (.seq (.cut ⟨[2, 3, 4, 5], none, []⟩ (.seq (rgn Try.f78.body 2) (.cond (.tmp 5) .skip (rgn Try.f78.body 3))) (.cond (.tmp 5) (.exit 1) .skip)) (.cut ⟨[2, 3, 8], none, []⟩ (.seq (rgn Try.f78.body 4) (.cond (.tmp 8) .skip (.seq (rgn Try.f78.body 5) (.cond (.tmp 8) .skip (.seq (rgn Try.f78.body 6) (.cond (.tmp 8) .skip (rgn Try.f78.body 7))))))) (.cond (.tmp 8) (.exit 2) .skip))) (.exit 0))) (rgn Try.f78.body 8))) (.seq (rgn Try.f78.body 9) (.exit 0))))) (.seq (rgn Try.f78.body 10) .ret)))⟩
theorem fits78 : Fits Try.prog 78 fi78 Try.f78 := ⟨by kernel_rfl, by kernel_rfl, by kernel_rfl, by kernel_rfl, by kernel_rfl⟩
set_option maxRecDepth 100000 in
noncomputable def s78 (call : ACall) (lim : Nat) (a0 : AV) (H : Heap) : Option Res :=
 jn
 (jn
 (jn
 (pu (abin Try.prog .eql 3 a0 (.d (.int .i64 3))) H fun r1 =>
 cn (asB r1.1)
 (some (.normal, [.d (.bool false), .d (.bool false), a0, r1.1], r1.2))
 (pu (abin Try.prog .eql 3 a0 (.d (.int .i64 6))) r1.2 fun r2 =>
 some (.normal, [.d (.bool false), .d (.bool false), a0, r2.1], r2.2))) fun j3 =>
 dsp j3.1 (cn (asB (gv j3 3))
 (some (.normal, [.d (.bool true)], j3.2.2))
 (jn
 (pu (abin Try.prog .eql 3 (gv j3 2) (.d (.int .i64 2))) j3.2.2 fun r4 =>
 cn (asB r4.1)
 (some (.normal, [(gv j3 0), (gv j3 1), r4.1], r4.2))
 (pu (abin Try.prog .eql 3 (gv j3 2) (.d (.int .i64 4))) r4.2 fun r5 =>
 cn (asB r5.1)
 (some (.normal, [(gv j3 0), (gv j3 1), r5.1], r5.2))
 (pu (abin Try.prog .eql 3 (gv j3 2) (.d (.int .i64 5))) r5.2 fun r6 =>
 cn (asB r6.1)
 (some (.normal, [(gv j3 0), (gv j3 1), r6.1], r6.2))
 (pu (abin Try.prog .eql 3 (gv j3 2) (.d (.int .i64 10))) r6.2 fun r7 =>
 some (.normal, [(gv j3 0), (gv j3 1), r7.1], r7.2))))) fun j8 =>
 dsp j8.1 (cn (asB (gv j8 2))
 (some (.normal, [(gv j8 1)], j8.2.2))
 (some (.exit 0, [(gv j8 0), (gv j8 1)], j8.2.2))) none [])) none []) fun j9 =>
 dsp j9.1 (some (.normal, [.d (.bool true), (gv j9 0)], j9.2.2)) none [(0, some (.normal, [(gv j9 0), (gv j9 1)], j9.2.2))]) fun j10 =>
 dsp j10.1 (rt (.tup [(gv j10 0), (gv j10 1)]) j10.2.2) none []

/-! #### rushlight/ir.Def -/
noncomputable def fi85 : FI := ⟨17, 0, [.tmp 2], (.seq (rgn Try.f85.body 0) (.seq (.seq (rgn Try.f85.body 1) (.block 0 (.cut ⟨[1, 5], none, []⟩ (.seq (rgn Try.f85.body 2) (.cond (.tmp 5) .skip (.seq (rgn Try.f85.body 3) (.cond (.tmp 5) .skip (.seq (rgn Try.f85.body 4) (.cond (.tmp 5) .skip (.seq (rgn Try.f85.body 5) (.cond (.tmp 5) .skip (.seq (rgn Try.f85.body 6) (.cond (.tmp 5) .skip (.seq (rgn Try.f85.body 7) (.cond (.tmp 5) .skip (.seq (rgn Try.f85.body 8) (.cond (.tmp 5) .skip (.seq (rgn Try.f85.body 9) (.cond (.tmp 5) .skip (rgn Try.f85.body 10))))))))))))))))) (.cond (.tmp 5) (.seq (rgn Try.f85.body 11) .ret) .skip)))) (.seq (rgn Try.f85.body 12) .ret)))⟩
theorem fits85 : Fits Try.prog 85 fi85 Try.f85 := ⟨by kernel_rfl, by kernel_rfl, by kernel_rfl, by kernel_rfl, by kernel_rfl⟩
set_option maxRecDepth 100000 in
noncomputable def s85 (call : ACall) (lim : Nat) (a0 : AV) (H : Heap) : Option Res :=
 bi (bx a0 H) fun r1 =>
 pu (fa 0 r1.1) r1.2 fun r2 =>
 pu (ld r2.2 r2.1) r2.2 fun r3 =>
 jn
 (pu (abin Try.prog .eql 3 r3.1 (.d (.int .i64 1))) r3.2 fun r4 =>
 cn (asB r4.1)
 (some (.normal, [r1.1, r4.1], r4.2))
 (pu (abin Try.prog .eql 3 r3.1 (.d (.int .i64 2))) r4.2 fun r5 =>
 cn (asB r5.1)
 (some (.normal, [r1.1, r5.1], r5.2))
 (pu (abin Try.prog .eql 3 r3.1 (.d (.int .i64 3))) r5.2 fun r6 =>
 cn (asB r6.1)
 (some (.normal, [r1.1, r6.1], r6.2))
 (pu (abin Try.prog .eql 3 r3.1 (.d (.int .i64 4))) r6.2 fun r7 =>
 cn (asB r7.1)
 (some (.normal, [r1.1, r7.1], r7.2))
 (pu (abin Try.prog .eql 3 r3.1 (.d (.int .i64 5))) r7.2 fun r8 =>
 cn (asB r8.1)
 (some (.normal, [r1.1, r8.1], r8.2))
 (pu (abin Try.prog .eql 3 r3.1 (.d (.int .i64 7))) r8.2 fun r9 =>
 cn (asB r9.1)
 (some (.normal, [r1.1, r9.1], r9.2))
 (pu (abin Try.prog .eql 3 r3.1 (.d (.int .i64 8))) r9.2 fun r10 =>
 cn (asB r10.1)
 (some (.normal, [r1.1, r10.1], r10.2))
 (pu (abin Try.prog .eql 3 r3.1 (.d (.int .i64 9))) r10.2 fun r11 =>
 cn (asB r11.1)
 (some (.normal, [r1.1, r11.1], r11.2))
 (pu (abin Try.prog .eql 3 r3.1 (.d (.int .i64 11))) r11.2 fun r12 =>
 some (.normal, [r1.1, r12.1], r12.2)))))))))) fun j13 =>
 dsp j13.1 (cn (asB (gv j13 1))
 (pu (fa 1 (gv j13 0)) j13.2.2 fun r14 =>
 pu (ld r14.2 r14.1) r14.2 fun r15 =>
 rt r15.1 r15.2)
 (rt (.d (.int .i64 (-1))) j13.2.2)) none []

/-! #### rushlight/ir.plain -/
noncomputable def fi84 : FI := ⟨39, 0, [.cell 2 56], (.seq (rgn Try.f84.body 0) (.cut ⟨[1, 2], none, []⟩ (.seq (rgn Try.f84.body 1) (.cond (.tmp 10) (rgn Try.f84.body 2) .skip)) (.seq (rgn Try.f84.body 3) (.seq (rgn Try.f84.body 4) (.cut ⟨[1, 2], none, []⟩ (.seq (rgn Try.f84.body 5) (.block 0 (.seq (rgn Try.f84.body 6) (.cond (.tmp 18) (rgn Try.f84.body 7) (.cut ⟨[1, 2, 17, 21], none, []⟩ (.seq (rgn Try.f84.body 8) (.cond (.tmp 21) .skip (rgn Try.f84.body 9))) (.cond (.tmp 21) (rgn Try.f84.body 10) (.cut ⟨[1, 2, 17, 25], none, []⟩ (.seq (rgn Try.f84.body 11) (.cond (.tmp 25) .skip (rgn Try.f84.body 12))) (.cond (.tmp 25) (rgn Try.f84.body 13) (.cut ⟨[1, 2, 17, 30], none, []⟩ (.seq (rgn Try.f84.body 14) (.cond (.tmp 30) .skip (rgn Try.f84.body 15))) (.cond (.tmp 30) (rgn Try.f84.body 16) (.seq (rgn Try.f84.body 17) (.cond (.tmp 35) (rgn Try.f84.body 18) .skip)))))))))))) (.seq (rgn Try.f84.body 19) .ret))))))⟩
theorem fits84 : Fits Try.prog 84 fi84 Try.f84 := ⟨by kernel_rfl, by kernel_rfl, by kernel_rfl, by kernel_rfl, by kernel_rfl⟩
set_option maxRecDepth 100000 in
noncomputable def s84 (call : ACall) (lim : Nat) (a0 : AV) (H : Heap) : Option Res :=
 bi (bx a0 H) fun r1 =>
 bi (al [.d (.int .i64 0), .d (.int .i64 0), .d (.int .i64 0), .d (.int .i64 0), .d (.int .i64 0), .d (.int .i64 0), .d (.int .i64 0), .d (.int .i64 0), .d (.int .u32 0), .d (.seq true 0 []), .d (.bool false)] r1.2) fun r2 =>
 jn
 (pu (fa 0 r1.1) r2.2 fun r3 =>
 pu (ld r3.2 r3.1) r3.2 fun r4 =>
 pu (abin Try.prog .eql 3 r4.1 (.d (.int .i64 6))) r4.2 fun r5 =>
 gd (yv r5.1) false (pm (ldA 11 r5.2 r1.1) r5.2) r5.2 fun r6 =>
 gd (yv r5.1) false (call 85 [r6.1] r6.2) r6.2 fun r7 =>
 gd (yv r5.1) false (pm (abin Try.prog .neq 3 r7.1 (.d (.int .i64 (-1)))) r7.2) r7.2 fun r8 =>
 bi (pk r5.1 (.d (.bool true)) r8.1 r8.2) fun r9 =>
 cn (asB r9.1)
 (pu (fa 10 r1.1) r9.2 fun r10 =>
 bi (stA 1 lim r10.2 r10.1 (.d (.bool false))) fun r11 =>
 some (.normal, [r1.1, r2.1], r11.2))
 (some (.normal, [r1.1, r2.1], r9.2))) fun j12 =>
 dsp j12.1 (pu (fa 1 (gv j12 0)) j12.2.2 fun r13 =>
 bi (stA 1 lim r13.2 r13.1 (.d (.int .i64 (-1)))) fun r14 =>
 pu (fa 2 (gv j12 0)) r14.2 fun r15 =>
 bi (stA 1 lim r15.2 r15.1 (.d (.int .i64 (-1)))) fun r16 =>
 pu (fa 3 (gv j12 0)) r16.2 fun r17 =>
 bi (stA 1 lim r17.2 r17.1 (.d (.int .i64 (-1)))) fun r18 =>
 pu (fa 9 (gv j12 0)) r18.2 fun r19 =>
 bi (stA 1 lim r19.2 r19.1 (.d (.seq true 0 []))) fun r20 =>
 jn
 (pu (fa 0 (gv j12 0)) r20.2 fun r21 =>
 pu (ld r21.2 r21.1) r21.2 fun r22 =>
 pu (abin Try.prog .eql 3 r22.1 (.d (.int .i64 1))) r22.2 fun r23 =>
 cn (asB r23.1)
 (pu (fa 8 (gv j12 0)) r23.2 fun r24 =>
 bi (stA 1 lim r24.2 r24.1 (.d (.int .u32 0))) fun r25 =>
 some (.normal, [(gv j12 0), (gv j12 1)], r25.2))
 (jn
 (pu (abin Try.prog .eql 3 r22.1 (.d (.int .i64 3))) r23.2 fun r26 =>
 cn (asB r26.1)
 (some (.normal, [(gv j12 0), (gv j12 1), r22.1, r26.1], r26.2))
 (pu (abin Try.prog .eql 3 r22.1 (.d (.int .i64 4))) r26.2 fun r27 =>
 some (.normal, [(gv j12 0), (gv j12 1), r22.1, r27.1], r27.2))) fun j28 =>
 dsp j28.1 (cn (asB (gv j28 3))
 (pu (fa 4 (gv j28 0)) j28.2.2 fun r29 =>
 bi (stA 1 lim r29.2 r29.1 (.d (.int .i64 0))) fun r30 =>
 some (.normal, [(gv j28 0), (gv j28 1)], r30.2))
 (jn
 (pu (abin Try.prog .eql 3 (gv j28 2) (.d (.int .i64 6))) j28.2.2 fun r31 =>
 cn (asB r31.1)
 (some (.normal, [(gv j28 0), (gv j28 1), (gv j28 2), r31.1], r31.2))
 (pu (abin Try.prog .eql 3 (gv j28 2) (.d (.int .i64 5))) r31.2 fun r32 =>
 some (.normal, [(gv j28 0), (gv j28 1), (gv j28 2), r32.1], r32.2))) fun j33 =>
 dsp j33.1 (cn (asB (gv j33 3))
 (pu (fa 6 (gv j33 0)) j33.2.2 fun r34 =>
 bi (stA 1 lim r34.2 r34.1 (.d (.int .i64 0))) fun r35 =>
 pu (fa 7 (gv j33 0)) r35.2 fun r36 =>
 bi (stA 1 lim r36.2 r36.1 (.d (.int .i64 0))) fun r37 =>
 some (.normal, [(gv j33 0), (gv j33 1)], r37.2))
 (jn
 (pu (abin Try.prog .eql 3 (gv j33 2) (.d (.int .i64 7))) j33.2.2 fun r38 =>
 cn (asB r38.1)
 (some (.normal, [(gv j33 0), (gv j33 1), (gv j33 2), r38.1], r38.2))
 (pu (abin Try.prog .eql 3 (gv j33 2) (.d (.int .i64 8))) r38.2 fun r39 =>
 some (.normal, [(gv j33 0), (gv j33 1), (gv j33 2), r39.1], r39.2))) fun j40 =>
 dsp j40.1 (cn (asB (gv j40 3))
 (pu (fa 6 (gv j40 0)) j40.2.2 fun r41 =>
 bi (stA 1 lim r41.2 r41.1 (.d (.int .i64 0))) fun r42 =>
 pu (fa 5 (gv j40 0)) r42.2 fun r43 =>
 bi (stA 1 lim r43.2 r43.1 (.d (.int .i64 0))) fun r44 =>
 some (.normal, [(gv j40 0), (gv j40 1)], r44.2))
 (pu (abin Try.prog .eql 3 (gv j40 2) (.d (.int .i64 9))) j40.2.2 fun r45 =>
 cn (asB r45.1)
 (pu (fa 5 (gv j40 0)) r45.2 fun r46 =>
 bi (stA 1 lim r46.2 r46.1 (.d (.int .i64 0))) fun r47 =>
 some (.normal, [(gv j40 0), (gv j40 1)], r47.2))
 (some (.normal, [(gv j40 0), (gv j40 1)], r45.2)))) none [])) none [])) none [])) fun j48 =>
 dsp j48.1 (pu (ldA 11 j48.2.2 (gv j48 0)) j48.2.2 fun r49 =>
 bi (stA 11 lim r49.2 (gv j48 1) r49.1) fun r50 =>
 rs [ldA 11 r50.2 (gv j48 1)] r50.2) none []) none []

/-! #### rushlight/ir.bare -/
noncomputable def fi79 : FI := ⟨45, 0, [.tmp 2], (.seq (rgn Try.f79.body 0) (.seq (rgn Try.f79.body 1) (.seq (rgn Try.f79.body 2) .ret)))⟩
theorem fits79 : Fits Try.prog 79 fi79 Try.f79 := ⟨by kernel_rfl, by kernel_rfl, by kernel_rfl, by kernel_rfl, by kernel_rfl⟩
set_option maxRecDepth 100000 in
noncomputable def s79 (call : ACall) (lim : Nat) (a0 : AV) (H : Heap) : Option Res :=
 bi (bx a0 H) fun r1 =>
 pu (ldA 11 r1.2 r1.1) r1.2 fun r2 =>
 bi (call 84 [r2.1] r2.2) fun r3 =>
 bi (al [.d (.int .i64 0), .d (.int .i64 0), .d (.int .i64 0), .d (.int .i64 0), .d (.int .i64 0), .d (.int .i64 0), .d (.int .i64 0), .d (.int .i64 0), .d (.int .u32 0), .d (.seq true 0 []), .d (.bool false)] r3.2) fun r4 =>
 bi (stA 11 lim r4.2 r4.1 r3.1) fun r5 =>
 pu (fa 4 r4.1) r5.2 fun r6 =>
 pu (ld r6.2 r6.1) r6.2 fun r7 =>
 pu (abin Try.prog .eql 3 r7.1 (.d (.int .i64 0))) r7.2 fun r8 =>
 gd (yv r8.1) true (pm (fa 5 r4.1) r8.2) r8.2 fun r9 =>
 gd (yv r8.1) true (pm (ld r9.2 r9.1) r9.2) r9.2 fun r10 =>
 gd (yv r8.1) true (pm (abin Try.prog .eql 3 r10.1 (.d (.int .i64 0))) r10.2) r10.2 fun r11 =>
 bi (pk r8.1 r11.1 (.d (.bool false)) r11.2) fun r12 =>
 gd (yv r12.1) true (pm (fa 6 r4.1) r12.2) r12.2 fun r13 =>
 gd (yv r12.1) true (pm (ld r13.2 r13.1) r13.2) r13.2 fun r14 =>
 gd (yv r12.1) true (pm (abin Try.prog .eql 3 r14.1 (.d (.int .i64 0))) r14.2) r14.2 fun r15 =>
 bi (pk r12.1 r15.1 (.d (.bool false)) r15.2) fun r16 =>
 gd (yv r16.1) true (pm (fa 7 r4.1) r16.2) r16.2 fun r17 =>
 gd (yv r16.1) true (pm (ld r17.2 r17.1) r17.2) r17.2 fun r18 =>
 gd (yv r16.1) true (pm (abin Try.prog .eql 3 r18.1 (.d (.int .i64 0))) r18.2) r18.2 fun r19 =>
 bi (pk r16.1 r19.1 (.d (.bool false)) r19.2) fun r20 =>
 gd (yv r20.1) true (pm (fa 8 r4.1) r20.2) r20.2 fun r21 =>
 gd (yv r20.1) true (pm (ld r21.2 r21.1) r21.2) r21.2 fun r22 =>
 gd (yv r20.1) true (pm (abin Try.prog .eql 31 r22.1 (.d (.int .u32 0))) r22.2) r22.2 fun r23 =>
 bi (pk r20.1 r23.1 (.d (.bool false)) r23.2) fun r24 =>
 gd (yv r24.1) true (pm (fa 10 r4.1) r24.2) r24.2 fun r25 =>
 gd (yv r24.1) true (pm (ld r25.2 r25.1) r25.2) r25.2 fun r26 =>
 gd (yv r24.1) true (pm (aun .not r26.1) r26.2) r26.2 fun r27 =>
 bi (pk r24.1 r27.1 (.d (.bool false)) r27.2) fun r28 =>
 gd (yv r28.1) true (pm (fa 0 r1.1) r28.2) r28.2 fun r29 =>
 gd (yv r28.1) true (pm (ld r29.2 r29.1) r29.2) r29.2 fun r30 =>
 gd (yv r28.1) true (pm (abin Try.prog .eql 3 r30.1 (.d (.int .i64 9))) r30.2) r30.2 fun r31 =>
 gd (yv r28.1) true (some (r31.1, r31.2)) r31.2 fun r32 =>
 gd (yv r32.1) false (pm (fa 9 r1.1) r32.2) r32.2 fun r33 =>
 gd (yv r32.1) false (pm (ld r33.2 r33.1) r33.2) r33.2 fun r34 =>
 gd (yv r32.1) false (pm (lnS r34.1) r34.2) r34.2 fun r35 =>
 gd (yv r32.1) false (pm (abin Try.prog .eql 3 r35.1 (.d (.int .i64 0))) r35.2) r35.2 fun r36 =>
 gd (yv r28.1) true (pk r32.1 (.d (.bool true)) r36.1 r36.2) r36.2 fun r37 =>
 bi (pk r28.1 r37.1 (.d (.bool false)) r37.2) fun r38 =>
 rt r38.1 r38.2

/-! #### (rushlight/ir.looker).reg -/
noncomputable def fi81 : FI := ⟨20, 0, [.tmp 6], (.seq (rgn Try.f81.body 0) (.seq (.seq (rgn Try.f81.body 1) (.cond (.tmp 8) (.seq (rgn Try.f81.body 2) .ret) .skip)) (.seq (rgn Try.f81.body 3) .ret)))⟩
theorem fits81 : Fits Try.prog 81 fi81 Try.f81 := ⟨by kernel_rfl, by kernel_rfl, by kernel_rfl, by kernel_rfl, by kernel_rfl⟩
set_option maxRecDepth 100000 in
noncomputable def s81 (call : ACall) (lim : Nat) (a0 a1 a2 : AV) (H : Heap) : Option Res :=
 bi (bx a0 H) fun r1 =>
 pu (aun .not a2) r1.2 fun r2 =>
 cn (asB r2.1)
 (pu (abin Try.prog .eql 3 a1 (.d (.int .i64 (-1)))) r2.2 fun r3 =>
 rt r3.1 r3.2)
 (pu (abin Try.prog .geq 3 a1 (.d (.int .i64 0))) r2.2 fun r4 =>
 gd (yv r4.1) true (some (a1, r4.2)) r4.2 fun r5 =>
 gd (yv r4.1) true (pm (fa 4 r1.1) r5.2) r5.2 fun r6 =>
 gd (yv r4.1) true (pm (fa 3 r6.1) r6.2) r6.2 fun r7 =>
 gd (yv r4.1) true (pm (ld r7.2 r7.1) r7.2) r7.2 fun r8 =>
 gd (yv r4.1) true (pm (abin Try.prog .lss 3 r5.1 r8.1) r8.2) r8.2 fun r9 =>
 bi (pk r4.1 r9.1 (.d (.bool false)) r9.2) fun r10 =>
 rt r10.1 r10.2)

/-! #### (rushlight/ir.looker).call -/
noncomputable def fi80 : FI := ⟨55, 0, [.tmp 4], (.seq (rgn Try.f80.body 0) (.seq (.seq (rgn Try.f80.body 1) (.cond (.tmp 19) (.seq (rgn Try.f80.body 2) .ret) .skip)) (.seq (rgn Try.f80.body 3) (.seq (.seq (rgn Try.f80.body 4) (.cond (.tmp 42) (.seq (rgn Try.f80.body 5) .ret) .skip)) (.seq (.seq (rgn Try.f80.body 6) (.block 0 (.loop ⟨[2, 44, 45, 46], some [4], [(0, [])]⟩ (.seq (rgn Try.f80.body 7) (.seq (.cond (.tmp 47) .skip (.exit 0)) (.seq (.block 1 (.seq (rgn Try.f80.body 8) (.seq (rgn Try.f80.body 9) (.cond (.tmp 53) (.seq (rgn Try.f80.body 10) .ret) .skip)))) (rgn Try.f80.body 11))))))) (.seq (rgn Try.f80.body 12) .ret))))))⟩
theorem fits80 : Fits Try.prog 80 fi80 Try.f80 := ⟨by kernel_rfl, by kernel_rfl, by kernel_rfl, by kernel_rfl, by kernel_rfl⟩
set_option maxRecDepth 100000 in
/-- A round: what is kept: [2, 44, 45, 46]. -/
noncomputable def s80.l0 (call : ACall) (lim : Nat) (v41 : List AV) (h42 : Heap) : Option Res :=
 pu (abin Try.prog .lss 3 (v41.getD 3 .junk) (v41.getD 2 .junk)) h42 fun r43 =>
 cn (asB r43.1)
 (pu (ixS 1 (v41.getD 1 .junk) (v41.getD 3 .junk)) r43.2 fun r44 =>
 pu (ld r44.2 r44.1) r44.2 fun r45 =>
 pu (ldA 10 r45.2 (v41.getD 0 .junk)) r45.2 fun r46 =>
 bi (call 81 [r46.1, r45.1, .d (.bool true)] r46.2) fun r47 =>
 pu (aun .not r47.1) r47.2 fun r48 =>
 cn (asB r48.1)
 (some (.ret, [.d (.bool false)], r48.2))
 (pu (abin Try.prog .add 3 (v41.getD 3 .junk) (.d (.int .i64 1))) r48.2 fun r49 =>
 some (.normal, [(v41.getD 0 .junk), (v41.getD 1 .junk), (v41.getD 2 .junk), r49.1], r49.2)))
 (some (.exit 0, [], r43.2))
set_option maxRecDepth 100000 in
noncomputable def s80 (call : ACall) (lim : Nat) (a0 a1 : AV) (H : Heap) : Option Res :=
 bi (bx a0 H) fun r1 =>
 bi (bx a1 r1.2) fun r2 =>
 pu (fa 5 r2.1) r2.2 fun r3 =>
 pu (ld r3.2 r3.1) r3.2 fun r4 =>
 pu (abin Try.prog .lss 3 r4.1 (.d (.int .i64 0))) r4.2 fun r5 =>
 gd (yv r5.1) false (pm (fa 5 r2.1) r5.2) r5.2 fun r6 =>
 gd (yv r5.1) false (pm (ld r6.2 r6.1) r6.2) r6.2 fun r7 =>
 gd (yv r5.1) false (pm (fa 0 r1.1) r7.2) r7.2 fun r8 =>
 gd (yv r5.1) false (pm (fa 2 r8.1) r8.2) r8.2 fun r9 =>
 gd (yv r5.1) false (pm (ld r9.2 r9.1) r9.2) r9.2 fun r10 =>
 gd (yv r5.1) false (pm (lnS r10.1) r10.2) r10.2 fun r11 =>
 gd (yv r5.1) false (pm (abin Try.prog .geq 3 r7.1 r11.1) r11.2) r11.2 fun r12 =>
 bi (pk r5.1 (.d (.bool true)) r12.1 r12.2) fun r13 =>
 cn (asB r13.1)
 (rt (.d (.bool false)) r13.2)
 (pu (fa 0 r1.1) r13.2 fun r14 =>
 pu (fa 2 r14.1) r14.2 fun r15 =>
 pu (ld r15.2 r15.1) r15.2 fun r16 =>
 pu (fa 5 r2.1) r16.2 fun r17 =>
 pu (ld r17.2 r17.1) r17.2 fun r18 =>
 pu (ixS 6 r16.1 r18.1) r18.2 fun r19 =>
 pu (ldA 6 r19.2 r19.1) r19.2 fun r20 =>
 bi (al [.d (.str ⟨#[]⟩), .d (.bool false), .d (.int .i64 0), .d (.int .i64 0), .d (.seq true 0 []), .d (.seq true 0 [])] r20.2) fun r21 =>
 bi (stA 6 lim r21.2 r21.1 r20.1) fun r22 =>
 pu (fa 9 r2.1) r22.2 fun r23 =>
 pu (ld r23.2 r23.1) r23.2 fun r24 =>
 pu (lnS r24.1) r24.2 fun r25 =>
 pu (fa 2 r21.1) r25.2 fun r26 =>
 pu (ld r26.2 r26.1) r26.2 fun r27 =>
 pu (abin Try.prog .neq 3 r25.1 r27.1) r27.2 fun r28 =>
 gd (yv r28.1) false (pm (ldA 10 r28.2 r1.1) r28.2) r28.2 fun r29 =>
 gd (yv r28.1) false (pm (fa 1 r2.1) r29.2) r29.2 fun r30 =>
 gd (yv r28.1) false (pm (ld r30.2 r30.1) r30.2) r30.2 fun r31 =>
 gd (yv r28.1) false (pm (fa 1 r21.1) r31.2) r31.2 fun r32 =>
 gd (yv r28.1) false (pm (ld r32.2 r32.1) r32.2) r32.2 fun r33 =>
 gd (yv r28.1) false (pm (aun .not r33.1) r33.2) r33.2 fun r34 =>
 gd (yv r28.1) false (call 81 [r29.1, r31.1, r34.1] r34.2) r34.2 fun r35 =>
 gd (yv r28.1) false (pm (aun .not r35.1) r35.2) r35.2 fun r36 =>
 bi (pk r28.1 (.d (.bool true)) r36.1 r36.2) fun r37 =>
 cn (asB r37.1)
 (rt (.d (.bool false)) r37.2)
 (pu (fa 9 r2.1) r37.2 fun r38 =>
 pu (ld r38.2 r38.1) r38.2 fun r39 =>
 pu (lnS r39.1) r39.2 fun r40 =>
 lp (s80.l0 call lim) [r1.1, r39.1, r40.1, .d (.int .i64 0)] r40.2 fun j50 =>
 dsp j50.1 none (rt (gv j50 0) j50.2.2) [(0, rt (.d (.bool true)) j50.2.2)]))

/-! #### rushlight/ir.off -/
noncomputable def fi82 : FI := ⟨9, 0, [.tmp 2], (.seq (rgn Try.f82.body 0) (.seq (rgn Try.f82.body 1) .ret))⟩
theorem fits82 : Fits Try.prog 82 fi82 Try.f82 := ⟨by kernel_rfl, by kernel_rfl, by kernel_rfl, by kernel_rfl, by kernel_rfl⟩
set_option maxRecDepth 100000 in
noncomputable def s82 (call : ACall) (lim : Nat) (a0 : AV) (H : Heap) : Option Res :=
 pu (abin Try.prog .geq 3 a0 (.d (.int .i64 (-32768)))) H fun r1 =>
 gd (yv r1.1) true (some (a0, r1.2)) r1.2 fun r2 =>
 gd (yv r1.1) true (pm (abin Try.prog .leq 3 r2.1 (.d (.int .i64 32768))) r2.2) r2.2 fun r3 =>
 bi (pk r1.1 r3.1 (.d (.bool false)) r3.2) fun r4 =>
 rt r4.1 r4.2

/-! #### (rushlight/ir.looker).ins -/
noncomputable def fi73 : FI := ⟨156, 0, [.tmp 4], (.seq (rgn Try.f73.body 0) (.seq (rgn Try.f73.body 1) (.seq (rgn Try.f73.body 2) (.seq (.seq (rgn Try.f73.body 3) (.cond (.tmp 39) (.seq (rgn Try.f73.body 4) .ret) .skip)) (.seq (.seq (rgn Try.f73.body 5) (.cond (.tmp 42) (.seq (rgn Try.f73.body 6) .ret) .skip)) (.seq (.seq (rgn Try.f73.body 7) (.cond (.tmp 79) (.seq (rgn Try.f73.body 8) .ret) .skip)) (.seq (.seq (rgn Try.f73.body 9) (.block 0 (.seq (rgn Try.f73.body 10) (.cond (.tmp 82) (.seq (rgn Try.f73.body 11) .ret) (.seq (rgn Try.f73.body 12) (.cond (.tmp 92) (.seq (rgn Try.f73.body 13) .ret) (.cut ⟨[2, 3, 81, 102], none, []⟩ (.seq (rgn Try.f73.body 14) (.cond (.tmp 102) .skip (rgn Try.f73.body 15))) (.cond (.tmp 102) (.seq (rgn Try.f73.body 16) .ret) (.seq (rgn Try.f73.body 17) (.cond (.tmp 118) (.seq (rgn Try.f73.body 18) .ret) (.seq (rgn Try.f73.body 19) (.cond (.tmp 137) (.seq (rgn Try.f73.body 20) .ret) .skip)))))))))))) (.seq (rgn Try.f73.body 21) .ret))))))))⟩
theorem fits73 : Fits Try.prog 73 fi73 Try.f73 := ⟨by kernel_rfl, by kernel_rfl, by kernel_rfl, by kernel_rfl, by kernel_rfl⟩
set_option maxRecDepth 100000 in
noncomputable def s73 (call : ACall) (lim : Nat) (a0 a1 : AV) (H : Heap) : Option Res :=
 bi (bx a0 H) fun r1 =>
 bi (bx a1 r1.2) fun r2 =>
 pu (fa 0 r2.1) r2.2 fun r3 =>
 pu (ld r3.2 r3.1) r3.2 fun r4 =>
 bi (call 78 [r4.1] r4.2) fun r5 =>
 pu (aextract r5.1 0) r5.2 fun r6 =>
 pu (aextract r5.1 1) r6.2 fun r7 =>
 pu (fa 0 r2.1) r7.2 fun r8 =>
 pu (ld r8.2 r8.1) r8.2 fun r9 =>
 pu (abin Try.prog .neq 3 r9.1 (.d (.int .i64 6))) r9.2 fun r10 =>
 gd (yv r10.1) true (pm (fa 0 r2.1) r10.2) r10.2 fun r11 =>
 gd (yv r10.1) true (pm (ld r11.2 r11.1) r11.2) r11.2 fun r12 =>
 gd (yv r10.1) true (pm (abin Try.prog .neq 3 r12.1 (.d (.int .i64 10))) r12.2) r12.2 fun r13 =>
 bi (pk r10.1 r13.1 (.d (.bool false)) r13.2) fun r14 =>
 gd (yv r14.1) true (pm (fa 0 r2.1) r14.2) r14.2 fun r15 =>
 gd (yv r14.1) true (pm (ld r15.2 r15.1) r15.2) r15.2 fun r16 =>
 gd (yv r14.1) true (pm (abin Try.prog .neq 3 r16.1 (.d (.int .i64 12))) r16.2) r16.2 fun r17 =>
 bi (pk r14.1 r17.1 (.d (.bool false)) r17.2) fun r18 =>
 pu (fa 0 r2.1) r18.2 fun r19 =>
 pu (ld r19.2 r19.1) r19.2 fun r20 =>
 pu (abin Try.prog .lss 3 r20.1 (.d (.int .i64 1))) r20.2 fun r21 =>
 gd (yv r21.1) false (pm (fa 0 r2.1) r21.2) r21.2 fun r22 =>
 gd (yv r21.1) false (pm (ld r22.2 r22.1) r22.2) r22.2 fun r23 =>
 gd (yv r21.1) false (pm (abin Try.prog .gtr 3 r23.1 (.d (.int .i64 12))) r23.2) r23.2 fun r24 =>
 bi (pk r21.1 (.d (.bool true)) r24.1 r24.2) fun r25 =>
 gd (yv r25.1) false (pm (ldA 11 r25.2 r2.1) r25.2) r25.2 fun r26 =>
 gd (yv r25.1) false (call 79 [r26.1] r26.2) r26.2 fun r27 =>
 gd (yv r25.1) false (pm (aun .not r27.1) r27.2) r27.2 fun r28 =>
 bi (pk r25.1 (.d (.bool true)) r28.1 r28.2) fun r29 =>
 cn (asB r29.1)
 (rt (.d (.bool false)) r29.2)
 (pu (fa 0 r2.1) r29.2 fun r30 =>
 pu (ld r30.2 r30.1) r30.2 fun r31 =>
 pu (abin Try.prog .eql 3 r31.1 (.d (.int .i64 9))) r31.2 fun r32 =>
 cn (asB r32.1)
 (pu (ldA 10 r32.2 r1.1) r32.2 fun r33 =>
 pu (ldA 11 r33.2 r2.1) r33.2 fun r34 =>
 bi (call 80 [r33.1, r34.1] r34.2) fun r35 =>
 gd (yv r35.1) true (pm (ldA 10 r35.2 r1.1) r35.2) r35.2 fun r36 =>
 gd (yv r35.1) true (pm (fa 2 r2.1) r36.2) r36.2 fun r37 =>
 gd (yv r35.1) true (pm (ld r37.2 r37.1) r37.2) r37.2 fun r38 =>
 gd (yv r35.1) true (call 81 [r36.1, r38.1, .d (.bool false)] r38.2) r38.2 fun r39 =>
 bi (pk r35.1 r39.1 (.d (.bool false)) r39.2) fun r40 =>
 gd (yv r40.1) true (pm (ldA 10 r40.2 r1.1) r40.2) r40.2 fun r41 =>
 gd (yv r40.1) true (pm (fa 3 r2.1) r41.2) r41.2 fun r42 =>
 gd (yv r40.1) true (pm (ld r42.2 r42.1) r42.2) r42.2 fun r43 =>
 gd (yv r40.1) true (call 81 [r41.1, r43.1, .d (.bool false)] r43.2) r43.2 fun r44 =>
 bi (pk r40.1 r44.1 (.d (.bool false)) r44.2) fun r45 =>
 rt r45.1 r45.2)
 (pu (ldA 10 r32.2 r1.1) r32.2 fun r46 =>
 pu (fa 1 r2.1) r46.2 fun r47 =>
 pu (ld r47.2 r47.1) r47.2 fun r48 =>
 bi (call 81 [r46.1, r48.1, r18.1] r48.2) fun r49 =>
 pu (aun .not r49.1) r49.2 fun r50 =>
 gd (yv r50.1) false (pm (ldA 10 r50.2 r1.1) r50.2) r50.2 fun r51 =>
 gd (yv r50.1) false (pm (fa 2 r2.1) r51.2) r51.2 fun r52 =>
 gd (yv r50.1) false (pm (ld r52.2 r52.1) r52.2) r52.2 fun r53 =>
 gd (yv r50.1) false (some (r6.1, r53.2)) r53.2 fun r54 =>
 gd (yv r50.1) false (call 81 [r51.1, r53.1, r54.1] r54.2) r54.2 fun r55 =>
 gd (yv r50.1) false (pm (aun .not r55.1) r55.2) r55.2 fun r56 =>
 bi (pk r50.1 (.d (.bool true)) r56.1 r56.2) fun r57 =>
 gd (yv r57.1) false (pm (ldA 10 r57.2 r1.1) r57.2) r57.2 fun r58 =>
 gd (yv r57.1) false (pm (fa 3 r2.1) r58.2) r58.2 fun r59 =>
 gd (yv r57.1) false (pm (ld r59.2 r59.1) r59.2) r59.2 fun r60 =>
 gd (yv r57.1) false (some (r7.1, r60.2)) r60.2 fun r61 =>
 gd (yv r57.1) false (call 81 [r58.1, r60.1, r61.1] r61.2) r61.2 fun r62 =>
 gd (yv r57.1) false (pm (aun .not r62.1) r62.2) r62.2 fun r63 =>
 bi (pk r57.1 (.d (.bool true)) r63.1 r63.2) fun r64 =>
 cn (asB r64.1)
 (rt (.d (.bool false)) r64.2)
 (pu (fa 0 r2.1) r64.2 fun r65 =>
 pu (ld r65.2 r65.1) r65.2 fun r66 =>
 pu (abin Try.prog .eql 3 r66.1 (.d (.int .i64 3))) r66.2 fun r67 =>
 cn (asB r67.1)
 (pu (fa 4 r2.1) r67.2 fun r68 =>
 pu (ld r68.2 r68.1) r68.2 fun r69 =>
 pu (abin Try.prog .geq 3 r69.1 (.d (.int .i64 1))) r69.2 fun r70 =>
 gd (yv r70.1) true (pm (fa 4 r2.1) r70.2) r70.2 fun r71 =>
 gd (yv r70.1) true (pm (ld r71.2 r71.1) r71.2) r71.2 fun r72 =>
 gd (yv r70.1) true (pm (abin Try.prog .leq 3 r72.1 (.d (.int .i64 16))) r72.2) r72.2 fun r73 =>
 bi (pk r70.1 r73.1 (.d (.bool false)) r73.2) fun r74 =>
 rt r74.1 r74.2)
 (pu (abin Try.prog .eql 3 r66.1 (.d (.int .i64 4))) r67.2 fun r75 =>
 cn (asB r75.1)
 (pu (fa 4 r2.1) r75.2 fun r76 =>
 pu (ld r76.2 r76.1) r76.2 fun r77 =>
 pu (abin Try.prog .geq 3 r77.1 (.d (.int .i64 17))) r77.2 fun r78 =>
 gd (yv r78.1) true (pm (fa 4 r2.1) r78.2) r78.2 fun r79 =>
 gd (yv r78.1) true (pm (ld r79.2 r79.1) r79.2) r79.2 fun r80 =>
 gd (yv r78.1) true (pm (abin Try.prog .leq 3 r80.1 (.d (.int .i64 19))) r80.2) r80.2 fun r81 =>
 bi (pk r78.1 r81.1 (.d (.bool false)) r81.2) fun r82 =>
 rt r82.1 r82.2)
 (jn
 (pu (abin Try.prog .eql 3 r66.1 (.d (.int .i64 5))) r75.2 fun r83 =>
 cn (asB r83.1)
 (some (.normal, [r1.1, r2.1, r66.1, r83.1], r83.2))
 (pu (abin Try.prog .eql 3 r66.1 (.d (.int .i64 6))) r83.2 fun r84 =>
 some (.normal, [r1.1, r2.1, r66.1, r84.1], r84.2))) fun j85 =>
 dsp j85.1 (cn (asB (gv j85 3))
 (pu (fa 7 (gv j85 1)) j85.2.2 fun r86 =>
 pu (ld r86.2 r86.1) r86.2 fun r87 =>
 pu (abin Try.prog .eql 3 r87.1 (.d (.int .i64 1))) r87.2 fun r88 =>
 gd (yv r88.1) false (pm (fa 7 (gv j85 1)) r88.2) r88.2 fun r89 =>
 gd (yv r88.1) false (pm (ld r89.2 r89.1) r89.2) r89.2 fun r90 =>
 gd (yv r88.1) false (pm (abin Try.prog .eql 3 r90.1 (.d (.int .i64 4))) r90.2) r90.2 fun r91 =>
 bi (pk r88.1 (.d (.bool true)) r91.1 r91.2) fun r92 =>
 gd (yv r92.1) true (pm (fa 6 (gv j85 1)) r92.2) r92.2 fun r93 =>
 gd (yv r92.1) true (pm (ld r93.2 r93.1) r93.2) r93.2 fun r94 =>
 gd (yv r92.1) true (call 82 [r94.1] r94.2) r94.2 fun r95 =>
 bi (pk r92.1 r95.1 (.d (.bool false)) r95.2) fun r96 =>
 rt r96.1 r96.2)
 (pu (abin Try.prog .eql 3 (gv j85 2) (.d (.int .i64 7))) j85.2.2 fun r97 =>
 cn (asB r97.1)
 (pu (fa 5 (gv j85 1)) r97.2 fun r98 =>
 pu (ld r98.2 r98.1) r98.2 fun r99 =>
 pu (abin Try.prog .geq 3 r99.1 (.d (.int .i64 0))) r99.2 fun r100 =>
 gd (yv r100.1) true (pm (fa 5 (gv j85 1)) r100.2) r100.2 fun r101 =>
 gd (yv r100.1) true (pm (ld r101.2 r101.1) r101.2) r101.2 fun r102 =>
 gd (yv r100.1) true (pm (fa 4 (gv j85 0)) r102.2) r102.2 fun r103 =>
 gd (yv r100.1) true (pm (fa 4 r103.1) r103.2) r103.2 fun r104 =>
 gd (yv r100.1) true (pm (ld r104.2 r104.1) r104.2) r104.2 fun r105 =>
 gd (yv r100.1) true (pm (lnS r105.1) r105.2) r105.2 fun r106 =>
 gd (yv r100.1) true (pm (abin Try.prog .lss 3 r102.1 r106.1) r106.2) r106.2 fun r107 =>
 bi (pk r100.1 r107.1 (.d (.bool false)) r107.2) fun r108 =>
 gd (yv r108.1) true (pm (fa 6 (gv j85 1)) r108.2) r108.2 fun r109 =>
 gd (yv r108.1) true (pm (ld r109.2 r109.1) r109.2) r109.2 fun r110 =>
 gd (yv r108.1) true (call 82 [r110.1] r110.2) r110.2 fun r111 =>
 bi (pk r108.1 r111.1 (.d (.bool false)) r111.2) fun r112 =>
 rt r112.1 r112.2)
 (pu (abin Try.prog .eql 3 (gv j85 2) (.d (.int .i64 8))) r97.2 fun r113 =>
 cn (asB r113.1)
 (pu (fa 5 (gv j85 1)) r113.2 fun r114 =>
 pu (ld r114.2 r114.1) r114.2 fun r115 =>
 pu (abin Try.prog .geq 3 r115.1 (.d (.int .i64 0))) r115.2 fun r116 =>
 gd (yv r116.1) true (pm (fa 5 (gv j85 1)) r116.2) r116.2 fun r117 =>
 gd (yv r116.1) true (pm (ld r117.2 r117.1) r117.2) r117.2 fun r118 =>
 gd (yv r116.1) true (pm (fa 0 (gv j85 0)) r118.2) r118.2 fun r119 =>
 gd (yv r116.1) true (pm (fa 0 r119.1) r119.2) r119.2 fun r120 =>
 gd (yv r116.1) true (pm (ld r120.2 r120.1) r120.2) r120.2 fun r121 =>
 gd (yv r116.1) true (pm (lnS r121.1) r121.2) r121.2 fun r122 =>
 gd (yv r116.1) true (pm (abin Try.prog .lss 3 r118.1 r122.1) r122.2) r122.2 fun r123 =>
 bi (pk r116.1 r123.1 (.d (.bool false)) r123.2) fun r124 =>
 gd (yv r124.1) true (pm (fa 6 (gv j85 1)) r124.2) r124.2 fun r125 =>
 gd (yv r124.1) true (pm (ld r125.2 r125.1) r125.2) r125.2 fun r126 =>
 gd (yv r124.1) true (call 82 [r126.1] r126.2) r126.2 fun r127 =>
 bi (pk r124.1 r127.1 (.d (.bool false)) r127.2) fun r128 =>
 rt r128.1 r128.2)
 (rt (.d (.bool true)) r113.2)))) none [])))))

/-! #### (rushlight/ir.looker).block -/
noncomputable def fi83 : FI := ⟨15, 0, [.tmp 4], (.seq (rgn Try.f83.body 0) (.seq (rgn Try.f83.body 1) .ret))⟩
theorem fits83 : Fits Try.prog 83 fi83 Try.f83 := ⟨by kernel_rfl, by kernel_rfl, by kernel_rfl, by kernel_rfl, by kernel_rfl⟩
set_option maxRecDepth 100000 in
noncomputable def s83 (call : ACall) (lim : Nat) (a0 a1 : AV) (H : Heap) : Option Res :=
 bi (bx a0 H) fun r1 =>
 pu (abin Try.prog .geq 3 a1 (.d (.int .i64 0))) r1.2 fun r2 =>
 gd (yv r2.1) true (some (a1, r2.2)) r2.2 fun r3 =>
 gd (yv r2.1) true (pm (fa 4 r1.1) r3.2) r3.2 fun r4 =>
 gd (yv r2.1) true (pm (fa 5 r4.1) r4.2) r4.2 fun r5 =>
 gd (yv r2.1) true (pm (ld r5.2 r5.1) r5.2) r5.2 fun r6 =>
 gd (yv r2.1) true (pm (lnS r6.1) r6.2) r6.2 fun r7 =>
 gd (yv r2.1) true (pm (abin Try.prog .lss 3 r3.1 r7.1) r7.2) r7.2 fun r8 =>
 bi (pk r2.1 r8.1 (.d (.bool false)) r8.2) fun r9 =>
 rt r9.1 r9.2

/-! #### (rushlight/ir.looker).end -/
noncomputable def fi74 : FI := ⟨61, 0, [.tmp 4], (.seq (rgn Try.f74.body 0) (.seq (.seq (rgn Try.f74.body 1) (.block 0 (.seq (rgn Try.f74.body 2) (.cond (.tmp 7) (.seq (rgn Try.f74.body 3) .ret) (.seq (rgn Try.f74.body 4) (.cond (.tmp 23) (.seq (rgn Try.f74.body 5) .ret) (.seq (rgn Try.f74.body 6) (.cond (.tmp 41) (.seq (rgn Try.f74.body 7) .ret) .skip)))))))) (.seq (rgn Try.f74.body 8) .ret)))⟩
theorem fits74 : Fits Try.prog 74 fi74 Try.f74 := ⟨by kernel_rfl, by kernel_rfl, by kernel_rfl, by kernel_rfl, by kernel_rfl⟩
set_option maxRecDepth 100000 in
noncomputable def s74 (call : ACall) (lim : Nat) (a0 a1 : AV) (H : Heap) : Option Res :=
 bi (bx a0 H) fun r1 =>
 bi (bx a1 r1.2) fun r2 =>
 pu (fa 1 r2.1) r2.2 fun r3 =>
 pu (ld r3.2 r3.1) r3.2 fun r4 =>
 pu (abin Try.prog .eql 3 r4.1 (.d (.int .i64 1))) r4.2 fun r5 =>
 cn (asB r5.1)
 (pu (ldA 10 r5.2 r1.1) r5.2 fun r6 =>
 pu (fa 3 r2.1) r6.2 fun r7 =>
 pu (ld r7.2 r7.1) r7.2 fun r8 =>
 bi (call 83 [r6.1, r8.1] r8.2) fun r9 =>
 gd (yv r9.1) true (pm (fa 2 r2.1) r9.2) r9.2 fun r10 =>
 gd (yv r9.1) true (pm (ld r10.2 r10.1) r10.2) r10.2 fun r11 =>
 gd (yv r9.1) true (pm (abin Try.prog .eql 3 r11.1 (.d (.int .i64 (-1)))) r11.2) r11.2 fun r12 =>
 bi (pk r9.1 r12.1 (.d (.bool false)) r12.2) fun r13 =>
 gd (yv r13.1) true (pm (fa 4 r2.1) r13.2) r13.2 fun r14 =>
 gd (yv r13.1) true (pm (ld r14.2 r14.1) r14.2) r14.2 fun r15 =>
 gd (yv r13.1) true (pm (abin Try.prog .eql 3 r15.1 (.d (.int .i64 0))) r15.2) r15.2 fun r16 =>
 bi (pk r13.1 r16.1 (.d (.bool false)) r16.2) fun r17 =>
 rt r17.1 r17.2)
 (pu (abin Try.prog .eql 3 r4.1 (.d (.int .i64 2))) r5.2 fun r18 =>
 cn (asB r18.1)
 (pu (ldA 10 r18.2 r1.1) r18.2 fun r19 =>
 pu (fa 3 r2.1) r19.2 fun r20 =>
 pu (ld r20.2 r20.1) r20.2 fun r21 =>
 bi (call 83 [r19.1, r21.1] r21.2) fun r22 =>
 gd (yv r22.1) true (pm (ldA 10 r22.2 r1.1) r22.2) r22.2 fun r23 =>
 gd (yv r22.1) true (pm (fa 4 r2.1) r23.2) r23.2 fun r24 =>
 gd (yv r22.1) true (pm (ld r24.2 r24.1) r24.2) r24.2 fun r25 =>
 gd (yv r22.1) true (call 83 [r23.1, r25.1] r25.2) r25.2 fun r26 =>
 bi (pk r22.1 r26.1 (.d (.bool false)) r26.2) fun r27 =>
 gd (yv r27.1) true (pm (ldA 10 r27.2 r1.1) r27.2) r27.2 fun r28 =>
 gd (yv r27.1) true (pm (fa 2 r2.1) r28.2) r28.2 fun r29 =>
 gd (yv r27.1) true (pm (ld r29.2 r29.1) r29.2) r29.2 fun r30 =>
 gd (yv r27.1) true (call 81 [r28.1, r30.1, .d (.bool true)] r30.2) r30.2 fun r31 =>
 bi (pk r27.1 r31.1 (.d (.bool false)) r31.2) fun r32 =>
 rt r32.1 r32.2)
 (pu (abin Try.prog .eql 3 r4.1 (.d (.int .i64 3))) r18.2 fun r33 =>
 cn (asB r33.1)
 (pu (ldA 10 r33.2 r1.1) r33.2 fun r34 =>
 pu (fa 2 r2.1) r34.2 fun r35 =>
 pu (ld r35.2 r35.1) r35.2 fun r36 =>
 pu (fa 4 r1.1) r36.2 fun r37 =>
 pu (fa 1 r37.1) r37.2 fun r38 =>
 pu (ld r38.2 r38.1) r38.2 fun r39 =>
 pu (aun .not r39.1) r39.2 fun r40 =>
 bi (call 81 [r34.1, r36.1, r40.1] r40.2) fun r41 =>
 gd (yv r41.1) true (pm (fa 3 r2.1) r41.2) r41.2 fun r42 =>
 gd (yv r41.1) true (pm (ld r42.2 r42.1) r42.2) r42.2 fun r43 =>
 gd (yv r41.1) true (pm (abin Try.prog .eql 3 r43.1 (.d (.int .i64 0))) r43.2) r43.2 fun r44 =>
 bi (pk r41.1 r44.1 (.d (.bool false)) r44.2) fun r45 =>
 gd (yv r45.1) true (pm (fa 4 r2.1) r45.2) r45.2 fun r46 =>
 gd (yv r45.1) true (pm (ld r46.2 r46.1) r46.2) r46.2 fun r47 =>
 gd (yv r45.1) true (pm (abin Try.prog .eql 3 r47.1 (.d (.int .i64 0))) r47.2) r47.2 fun r48 =>
 bi (pk r45.1 r48.1 (.d (.bool false)) r48.2) fun r49 =>
 rt r49.1 r49.2)
 (rt (.d (.bool false)) r33.2)))

/-! #### (rushlight/ir.looker).proc -/
noncomputable def fi60 : FI := ⟨87, 0, [.tmp 2], (.seq (rgn Try.f60.body 0) (.seq (rgn Try.f60.body 1) (.seq (.seq (rgn Try.f60.body 2) (.cond (.tmp 62) (.seq (rgn Try.f60.body 3) .ret) .skip)) (.seq (.seq (rgn Try.f60.body 4) (.block 0 (.loop ⟨[1, 64, 65, 66], some [2], [(0, [])]⟩ (.seq (rgn Try.f60.body 5) (.seq (.cond (.tmp 67) .skip (.exit 0)) (.seq (.block 1 (.seq (rgn Try.f60.body 6) (.seq (.seq (rgn Try.f60.body 7) (.block 2 (.loop ⟨[1, 5, 64, 65, 66, 71, 72, 73], some [2], [(2, [1, 5, 64, 65, 66])]⟩ (.seq (rgn Try.f60.body 8) (.seq (.cond (.tmp 74) .skip (.exit 2)) (.seq (.block 3 (.seq (rgn Try.f60.body 9) (.seq (rgn Try.f60.body 10) (.cond (.tmp 80) (.seq (rgn Try.f60.body 11) .ret) .skip)))) (rgn Try.f60.body 12))))))) (.seq (rgn Try.f60.body 13) (.cond (.tmp 85) (.seq (rgn Try.f60.body 14) .ret) .skip))))) (rgn Try.f60.body 15))))))) (.seq (rgn Try.f60.body 16) .ret)))))⟩
theorem fits60 : Fits Try.prog 60 fi60 Try.f60 := ⟨by kernel_rfl, by kernel_rfl, by kernel_rfl, by kernel_rfl, by kernel_rfl⟩
set_option maxRecDepth 100000 in
/-- A round: what is kept: [1, 5, 64, 65, 66, 71, 72, 73]. -/
noncomputable def s60.l0 (call : ACall) (lim : Nat) (v64 : List AV) (h65 : Heap) : Option Res :=
 pu (abin Try.prog .lss 3 (v64.getD 7 .junk) (v64.getD 6 .junk)) h65 fun r66 =>
 cn (asB r66.1)
 (pu (ixS 11 (v64.getD 5 .junk) (v64.getD 7 .junk)) r66.2 fun r67 =>
 pu (ldA 11 r67.2 r67.1) r67.2 fun r68 =>
 bi (al [.d (.int .i64 0), .d (.int .i64 0), .d (.int .i64 0), .d (.int .i64 0), .d (.int .i64 0), .d (.int .i64 0), .d (.int .i64 0), .d (.int .i64 0), .d (.int .u32 0), .d (.seq true 0 []), .d (.bool false)] r68.2) fun r69 =>
 bi (stA 11 lim r69.2 r69.1 r68.1) fun r70 =>
 pu (ldA 10 r70.2 (v64.getD 0 .junk)) r70.2 fun r71 =>
 pu (ldA 11 r71.2 r69.1) r71.2 fun r72 =>
 bi (call 73 [r71.1, r72.1] r72.2) fun r73 =>
 pu (aun .not r73.1) r73.2 fun r74 =>
 cn (asB r74.1)
 (some (.ret, [.d (.bool false)], r74.2))
 (pu (abin Try.prog .add 3 (v64.getD 7 .junk) (.d (.int .i64 1))) r74.2 fun r75 =>
 some (.normal, [(v64.getD 0 .junk), (v64.getD 1 .junk), (v64.getD 2 .junk), (v64.getD 3 .junk), (v64.getD 4 .junk), (v64.getD 5 .junk), (v64.getD 6 .junk), r75.1], r75.2)))
 (some (.exit 2, [(v64.getD 0 .junk), (v64.getD 1 .junk), (v64.getD 2 .junk), (v64.getD 3 .junk), (v64.getD 4 .junk)], r66.2))
set_option maxRecDepth 100000 in
/-- A round: what is kept: [1, 64, 65, 66]. -/
noncomputable def s60.l1 (call : ACall) (lim : Nat) (v54 : List AV) (h55 : Heap) : Option Res :=
 pu (abin Try.prog .lss 3 (v54.getD 3 .junk) (v54.getD 2 .junk)) h55 fun r56 =>
 cn (asB r56.1)
 (pu (ixS 5 (v54.getD 1 .junk) (v54.getD 3 .junk)) r56.2 fun r57 =>
 pu (ldA 5 r57.2 r57.1) r57.2 fun r58 =>
 bi (al [.d (.seq true 0 []), .d (.int .i64 0), .d (.int .i64 0), .d (.int .i64 0), .d (.int .i64 0)] r58.2) fun r59 =>
 bi (stA 5 lim r59.2 r59.1 r58.1) fun r60 =>
 pu (fa 0 r59.1) r60.2 fun r61 =>
 pu (ld r61.2 r61.1) r61.2 fun r62 =>
 pu (lnS r62.1) r62.2 fun r63 =>
 lp (s60.l0 call lim) [(v54.getD 0 .junk), r59.1, (v54.getD 1 .junk), (v54.getD 2 .junk), (v54.getD 3 .junk), r62.1, r63.1, .d (.int .i64 0)] r63.2 fun j76 =>
 dsp j76.1 none (some (.ret, [(gv j76 0)], j76.2.2)) [(2, pu (ldA 10 j76.2.2 (gv j76 0)) j76.2.2 fun r77 =>
 pu (ldA 5 r77.2 (gv j76 1)) r77.2 fun r78 =>
 bi (call 74 [r77.1, r78.1] r78.2) fun r79 =>
 pu (aun .not r79.1) r79.2 fun r80 =>
 cn (asB r80.1)
 (some (.ret, [.d (.bool false)], r80.2))
 (pu (abin Try.prog .add 3 (gv j76 4) (.d (.int .i64 1))) r80.2 fun r81 =>
 some (.normal, [(gv j76 0), (gv j76 2), (gv j76 3), r81.1], r81.2)))])
 (some (.exit 0, [], r56.2))
set_option maxRecDepth 100000 in
noncomputable def s60 (call : ACall) (lim : Nat) (a0 : AV) (H : Heap) : Option Res :=
 bi (bx a0 H) fun r1 =>
 pu (fa 4 r1.1) r1.2 fun r2 =>
 pu (ldA 6 r2.2 r2.1) r2.2 fun r3 =>
 bi (al [.d (.str ⟨#[]⟩), .d (.bool false), .d (.int .i64 0), .d (.int .i64 0), .d (.seq true 0 []), .d (.seq true 0 [])] r3.2) fun r4 =>
 bi (stA 6 lim r4.2 r4.1 r3.1) fun r5 =>
 pu (fa 2 r4.1) r5.2 fun r6 =>
 pu (ld r6.2 r6.1) r6.2 fun r7 =>
 pu (abin Try.prog .lss 3 r7.1 (.d (.int .i64 0))) r7.2 fun r8 =>
 gd (yv r8.1) false (pm (fa 2 r4.1) r8.2) r8.2 fun r9 =>
 gd (yv r8.1) false (pm (ld r9.2 r9.1) r9.2) r9.2 fun r10 =>
 gd (yv r8.1) false (pm (abin Try.prog .gtr 3 r10.1 (.d (.int .i64 6))) r10.2) r10.2 fun r11 =>
 bi (pk r8.1 (.d (.bool true)) r11.1 r11.2) fun r12 =>
 gd (yv r12.1) false (pm (fa 3 r4.1) r12.2) r12.2 fun r13 =>
 gd (yv r12.1) false (pm (ld r13.2 r13.1) r13.2) r13.2 fun r14 =>
 gd (yv r12.1) false (pm (fa 2 r4.1) r14.2) r14.2 fun r15 =>
 gd (yv r12.1) false (pm (ld r15.2 r15.1) r15.2) r15.2 fun r16 =>
 gd (yv r12.1) false (pm (abin Try.prog .lss 3 r14.1 r16.1) r16.2) r16.2 fun r17 =>
 bi (pk r12.1 (.d (.bool true)) r17.1 r17.2) fun r18 =>
 gd (yv r18.1) false (pm (fa 3 r4.1) r18.2) r18.2 fun r19 =>
 gd (yv r18.1) false (pm (ld r19.2 r19.1) r19.2) r19.2 fun r20 =>
 gd (yv r18.1) false (pm (abin Try.prog .gtr 3 r20.1 (.d (.int .i64 8000))) r20.2) r20.2 fun r21 =>
 bi (pk r18.1 (.d (.bool true)) r21.1 r21.2) fun r22 =>
 gd (yv r22.1) false (pm (fa 4 r4.1) r22.2) r22.2 fun r23 =>
 gd (yv r22.1) false (pm (ld r23.2 r23.1) r23.2) r23.2 fun r24 =>
 gd (yv r22.1) false (pm (lnS r24.1) r24.2) r24.2 fun r25 =>
 gd (yv r22.1) false (pm (abin Try.prog .gtr 3 r25.1 (.d (.int .i64 400))) r25.2) r25.2 fun r26 =>
 bi (pk r22.1 (.d (.bool true)) r26.1 r26.2) fun r27 =>
 gd (yv r27.1) false (pm (fa 5 r4.1) r27.2) r27.2 fun r28 =>
 gd (yv r27.1) false (pm (ld r28.2 r28.1) r28.2) r28.2 fun r29 =>
 gd (yv r27.1) false (pm (lnS r29.1) r29.2) r29.2 fun r30 =>
 gd (yv r27.1) false (pm (abin Try.prog .lss 3 r30.1 (.d (.int .i64 1))) r30.2) r30.2 fun r31 =>
 bi (pk r27.1 (.d (.bool true)) r31.1 r31.2) fun r32 =>
 gd (yv r32.1) false (pm (fa 5 r4.1) r32.2) r32.2 fun r33 =>
 gd (yv r32.1) false (pm (ld r33.2 r33.1) r33.2) r33.2 fun r34 =>
 gd (yv r32.1) false (pm (lnS r34.1) r34.2) r34.2 fun r35 =>
 gd (yv r32.1) false (pm (abin Try.prog .gtr 3 r35.1 (.d (.int .i64 4000))) r35.2) r35.2 fun r36 =>
 bi (pk r32.1 (.d (.bool true)) r36.1 r36.2) fun r37 =>
 gd (yv r37.1) false (pm (fa 4 r4.1) r37.2) r37.2 fun r38 =>
 gd (yv r37.1) false (pm (ld r38.2 r38.1) r38.2) r38.2 fun r39 =>
 gd (yv r37.1) false (call 37 [r39.1] r39.2) r39.2 fun r40 =>
 gd (yv r37.1) false (pm (aun .not r40.1) r40.2) r40.2 fun r41 =>
 bi (pk r37.1 (.d (.bool true)) r41.1 r41.2) fun r42 =>
 gd (yv r42.1) false (pm (ldA 6 r42.2 r4.1) r42.2) r42.2 fun r43 =>
 gd (yv r42.1) false (call 72 [r43.1] r43.2) r43.2 fun r44 =>
 gd (yv r42.1) false (pm (fa 5 r4.1) r44.2) r44.2 fun r45 =>
 gd (yv r42.1) false (pm (ld r45.2 r45.1) r45.2) r45.2 fun r46 =>
 gd (yv r42.1) false (pm (lnS r46.1) r46.2) r46.2 fun r47 =>
 gd (yv r42.1) false (pm (abin Try.prog .sub 3 r44.1 r47.1) r47.2) r47.2 fun r48 =>
 gd (yv r42.1) false (pm (abin Try.prog .gtr 3 r48.1 (.d (.int .i64 20000))) r48.2) r48.2 fun r49 =>
 bi (pk r42.1 (.d (.bool true)) r49.1 r49.2) fun r50 =>
 cn (asB r50.1)
 (rt (.d (.bool false)) r50.2)
 (pu (fa 5 r4.1) r50.2 fun r51 =>
 pu (ld r51.2 r51.1) r51.2 fun r52 =>
 pu (lnS r52.1) r52.2 fun r53 =>
 lp (s60.l1 call lim) [r1.1, r52.1, r53.1, .d (.int .i64 0)] r53.2 fun j82 =>
 dsp j82.1 none (rt (gv j82 0) j82.2.2) [(0, rt (.d (.bool true)) j82.2.2)])

/-! #### rushlight/ir.Proc -/
noncomputable def fi38 : FI := ⟨25, 0, [.tmp 4], (.seq (rgn Try.f38.body 0) (.seq (.block 0 (.seq (rgn Try.f38.body 1) (.cond (.tmp 5) (.seq (rgn Try.f38.body 2) .ret) (.seq (rgn Try.f38.body 3) (.cond (.tmp 15) (.seq (rgn Try.f38.body 4) .ret) .skip))))) (.seq (rgn Try.f38.body 5) .ret)))⟩
theorem fits38 : Fits Try.prog 38 fi38 Try.f38 := ⟨by kernel_rfl, by kernel_rfl, by kernel_rfl, by kernel_rfl, by kernel_rfl⟩
set_option maxRecDepth 100000 in
noncomputable def s38 (call : ACall) (lim : Nat) (a0 a1 : AV) (H : Heap) : Option Res :=
 bi (bx a0 H) fun r1 =>
 pu (abin Try.prog .lss 3 a1 (.d (.int .i64 0))) r1.2 fun r2 =>
 gd (yv r2.1) false (some (a1, r2.2)) r2.2 fun r3 =>
 gd (yv r2.1) false (pm (fa 2 r1.1) r3.2) r3.2 fun r4 =>
 gd (yv r2.1) false (pm (ld r4.2 r4.1) r4.2) r4.2 fun r5 =>
 gd (yv r2.1) false (pm (lnS r5.1) r5.2) r5.2 fun r6 =>
 gd (yv r2.1) false (pm (abin Try.prog .geq 3 r3.1 r6.1) r6.2) r6.2 fun r7 =>
 bi (pk r2.1 (.d (.bool true)) r7.1 r7.2) fun r8 =>
 cn (asB r8.1)
 (rt (.d (.int .i64 4)) r8.2)
 (pu (ldA 4 r8.2 r1.1) r8.2 fun r9 =>
 pu (fa 2 r1.1) r9.2 fun r10 =>
 pu (ld r10.2 r10.1) r10.2 fun r11 =>
 pu (ixS 6 r11.1 a1) r11.2 fun r12 =>
 pu (ldA 6 r12.2 r12.1) r12.2 fun r13 =>
 pu (bld [(0, 4), (4, 6)] [.d (.seq true 0 []), .d (.seq true 0 []), .d (.seq true 0 []), .d (.int .i64 0), .d (.str ⟨#[]⟩), .d (.bool false), .d (.int .i64 0), .d (.int .i64 0), .d (.seq true 0 []), .d (.seq true 0 [])] [(0, r9.1), (1, r13.1)]) r13.2 fun r14 =>
 bi (call 60 [r14.1] r14.2) fun r15 =>
 pu (aun .not r15.1) r15.2 fun r16 =>
 cn (asB r16.1)
 (rt (.d (.int .i64 3)) r16.2)
 (rt (.d (.int .i64 0)) r16.2))

/-! #### rushlight/ir.Check -/
noncomputable def fi18 : FI := ⟨93, 0, [.tmp 2], (.seq (rgn Try.f18.body 0) (.seq (.seq (rgn Try.f18.body 1) (.cond (.tmp 50) (.seq (rgn Try.f18.body 2) .ret) .skip)) (.seq (.seq (rgn Try.f18.body 3) (.block 0 (.loop ⟨[1, 52, 53, 54], some [2], [(0, [1])]⟩ (.seq (rgn Try.f18.body 4) (.seq (.cond (.tmp 55) .skip (.exit 0)) (.seq (.block 1 (.seq (rgn Try.f18.body 5) (.seq (rgn Try.f18.body 6) (.cond (.tmp 67) (.seq (rgn Try.f18.body 7) .ret) .skip)))) (rgn Try.f18.body 8))))))) (.seq (.seq (rgn Try.f18.body 9) (.seq (rgn Try.f18.body 10) (.cond (.tmp 81) (.seq (rgn Try.f18.body 11) .ret) .skip))) (.seq (.seq (rgn Try.f18.body 12) (.block 2 (.loop ⟨[1, 84, 85], some [2], [(2, [])]⟩ (.seq (rgn Try.f18.body 13) (.seq (.cond (.tmp 86) .skip (.exit 2)) (.seq (.block 3 (.seq (rgn Try.f18.body 14) (.seq (rgn Try.f18.body 15) (.cond (.tmp 91) (.seq (rgn Try.f18.body 16) .ret) .skip)))) (rgn Try.f18.body 17))))))) (.seq (rgn Try.f18.body 18) .ret))))))⟩
theorem fits18 : Fits Try.prog 18 fi18 Try.f18 := ⟨by kernel_rfl, by kernel_rfl, by kernel_rfl, by kernel_rfl, by kernel_rfl⟩
set_option maxRecDepth 100000 in
/-- A round: what is kept: [1, 52, 53, 54]. -/
noncomputable def s18.l0 (call : ACall) (lim : Nat) (v43 : List AV) (h44 : Heap) : Option Res :=
 pu (abin Try.prog .lss 3 (v43.getD 3 .junk) (v43.getD 2 .junk)) h44 fun r45 =>
 cn (asB r45.1)
 (pu (ixS 1 (v43.getD 1 .junk) (v43.getD 3 .junk)) r45.2 fun r46 =>
 pu (ld r46.2 r46.1) r46.2 fun r47 =>
 pu (lnS r47.1) r47.2 fun r48 =>
 pu (fa 0 (v43.getD 0 .junk)) r48.2 fun r49 =>
 pu (ld r49.2 r49.1) r49.2 fun r50 =>
 pu (ixS 4 r50.1 (v43.getD 3 .junk)) r50.2 fun r51 =>
 pu (fa 1 r51.1) r51.2 fun r52 =>
 pu (ld r52.2 r52.1) r52.2 fun r53 =>
 pu (abin Try.prog .neq 3 r48.1 r53.1) r53.2 fun r54 =>
 cn (asB r54.1)
 (some (.ret, [.d (.int .i64 3)], r54.2))
 (pu (abin Try.prog .add 3 (v43.getD 3 .junk) (.d (.int .i64 1))) r54.2 fun r55 =>
 some (.normal, [(v43.getD 0 .junk), (v43.getD 1 .junk), (v43.getD 2 .junk), r55.1], r55.2)))
 (some (.exit 0, [(v43.getD 0 .junk)], r45.2))
set_option maxRecDepth 100000 in
/-- A round: what is kept: [1, 84, 85]. -/
noncomputable def s18.l1 (call : ACall) (lim : Nat) (v74 : List AV) (h75 : Heap) : Option Res :=
 pu (abin Try.prog .lss 3 (v74.getD 2 .junk) (v74.getD 1 .junk)) h75 fun r76 =>
 cn (asB r76.1)
 (pu (ldA 4 r76.2 (v74.getD 0 .junk)) r76.2 fun r77 =>
 bi (call 38 [r77.1, (v74.getD 2 .junk)] r77.2) fun r78 =>
 pu (abin Try.prog .neq 32 r78.1 (.d (.int .i64 0))) r78.2 fun r79 =>
 cn (asB r79.1)
 (some (.ret, [.d (.int .i64 3)], r79.2))
 (pu (abin Try.prog .add 3 (v74.getD 2 .junk) (.d (.int .i64 1))) r79.2 fun r80 =>
 some (.normal, [(v74.getD 0 .junk), (v74.getD 1 .junk), r80.1], r80.2)))
 (some (.exit 2, [], r76.2))
set_option maxRecDepth 100000 in
noncomputable def s18 (call : ACall) (lim : Nat) (a0 : AV) (H : Heap) : Option Res :=
 bi (bx a0 H) fun r1 =>
 pu (fa 1 r1.1) r1.2 fun r2 =>
 pu (ld r2.2 r2.1) r2.2 fun r3 =>
 pu (lnS r3.1) r3.2 fun r4 =>
 pu (fa 0 r1.1) r4.2 fun r5 =>
 pu (ld r5.2 r5.1) r5.2 fun r6 =>
 pu (lnS r6.1) r6.2 fun r7 =>
 pu (abin Try.prog .neq 3 r4.1 r7.1) r7.2 fun r8 =>
 gd (yv r8.1) false (pm (fa 0 r1.1) r8.2) r8.2 fun r9 =>
 gd (yv r8.1) false (pm (ld r9.2 r9.1) r9.2) r9.2 fun r10 =>
 gd (yv r8.1) false (pm (lnS r10.1) r10.2) r10.2 fun r11 =>
 gd (yv r8.1) false (pm (abin Try.prog .gtr 3 r11.1 (.d (.int .i64 200))) r11.2) r11.2 fun r12 =>
 bi (pk r8.1 (.d (.bool true)) r12.1 r12.2) fun r13 =>
 gd (yv r13.1) false (pm (fa 0 r1.1) r13.2) r13.2 fun r14 =>
 gd (yv r13.1) false (pm (ld r14.2 r14.1) r14.2) r14.2 fun r15 =>
 gd (yv r13.1) false (call 37 [r15.1] r15.2) r15.2 fun r16 =>
 gd (yv r13.1) false (pm (aun .not r16.1) r16.2) r16.2 fun r17 =>
 bi (pk r13.1 (.d (.bool true)) r17.1 r17.2) fun r18 =>
 gd (yv r18.1) false (pm (fa 2 r1.1) r18.2) r18.2 fun r19 =>
 gd (yv r18.1) false (pm (ld r19.2 r19.1) r19.2) r19.2 fun r20 =>
 gd (yv r18.1) false (pm (lnS r20.1) r20.2) r20.2 fun r21 =>
 gd (yv r18.1) false (pm (abin Try.prog .lss 3 r21.1 (.d (.int .i64 1))) r21.2) r21.2 fun r22 =>
 bi (pk r18.1 (.d (.bool true)) r22.1 r22.2) fun r23 =>
 gd (yv r23.1) false (pm (fa 2 r1.1) r23.2) r23.2 fun r24 =>
 gd (yv r23.1) false (pm (ld r24.2 r24.1) r24.2) r24.2 fun r25 =>
 gd (yv r23.1) false (pm (lnS r25.1) r25.2) r25.2 fun r26 =>
 gd (yv r23.1) false (pm (abin Try.prog .gtr 3 r26.1 (.d (.int .i64 200))) r26.2) r26.2 fun r27 =>
 bi (pk r23.1 (.d (.bool true)) r27.1 r27.2) fun r28 =>
 gd (yv r28.1) false (pm (fa 3 r1.1) r28.2) r28.2 fun r29 =>
 gd (yv r28.1) false (pm (ld r29.2 r29.1) r29.2) r29.2 fun r30 =>
 gd (yv r28.1) false (pm (abin Try.prog .lss 3 r30.1 (.d (.int .i64 0))) r30.2) r30.2 fun r31 =>
 bi (pk r28.1 (.d (.bool true)) r31.1 r31.2) fun r32 =>
 gd (yv r32.1) false (pm (fa 3 r1.1) r32.2) r32.2 fun r33 =>
 gd (yv r32.1) false (pm (ld r33.2 r33.1) r33.2) r33.2 fun r34 =>
 gd (yv r32.1) false (pm (fa 2 r1.1) r34.2) r34.2 fun r35 =>
 gd (yv r32.1) false (pm (ld r35.2 r35.1) r35.2) r35.2 fun r36 =>
 gd (yv r32.1) false (pm (lnS r36.1) r36.2) r36.2 fun r37 =>
 gd (yv r32.1) false (pm (abin Try.prog .geq 3 r34.1 r37.1) r37.2) r37.2 fun r38 =>
 bi (pk r32.1 (.d (.bool true)) r38.1 r38.2) fun r39 =>
 cn (asB r39.1)
 (rt (.d (.int .i64 3)) r39.2)
 (pu (fa 1 r1.1) r39.2 fun r40 =>
 pu (ld r40.2 r40.1) r40.2 fun r41 =>
 pu (lnS r41.1) r41.2 fun r42 =>
 lp (s18.l0 call lim) [r1.1, r41.1, r42.1, .d (.int .i64 0)] r42.2 fun j56 =>
 dsp j56.1 none (rt (gv j56 0) j56.2.2) [(0, pu (fa 2 (gv j56 0)) j56.2.2 fun r57 =>
 pu (ld r57.2 r57.1) r57.2 fun r58 =>
 pu (fa 3 (gv j56 0)) r58.2 fun r59 =>
 pu (ld r59.2 r59.1) r59.2 fun r60 =>
 pu (ixS 6 r58.1 r60.1) r60.2 fun r61 =>
 pu (ldA 6 r61.2 r61.1) r61.2 fun r62 =>
 bi (al [.d (.str ⟨#[]⟩), .d (.bool false), .d (.int .i64 0), .d (.int .i64 0), .d (.seq true 0 []), .d (.seq true 0 [])] r62.2) fun r63 =>
 bi (stA 6 lim r63.2 r63.1 r62.1) fun r64 =>
 pu (fa 2 r63.1) r64.2 fun r65 =>
 pu (ld r65.2 r65.1) r65.2 fun r66 =>
 pu (abin Try.prog .neq 3 r66.1 (.d (.int .i64 0))) r66.2 fun r67 =>
 gd (yv r67.1) false (pm (fa 1 r63.1) r67.2) r67.2 fun r68 =>
 gd (yv r67.1) false (pm (ld r68.2 r68.1) r68.2) r68.2 fun r69 =>
 bi (pk r67.1 (.d (.bool true)) r69.1 r69.2) fun r70 =>
 cn (asB r70.1)
 (rt (.d (.int .i64 3)) r70.2)
 (pu (fa 2 (gv j56 0)) r70.2 fun r71 =>
 pu (ld r71.2 r71.1) r71.2 fun r72 =>
 pu (lnS r72.1) r72.2 fun r73 =>
 lp (s18.l1 call lim) [(gv j56 0), r73.1, .d (.int .i64 0)] r73.2 fun j81 =>
 dsp j81.1 none (rt (gv j81 0) j81.2.2) [(2, rt (.d (.int .i64 0)) j81.2.2)]))])

/-! #### rushlight/irrun.up -/
noncomputable def fi35 : FI := ⟨8, 0, [.tmp 2], (.seq (rgn Try.f35.body 0) (.seq (rgn Try.f35.body 1) .ret))⟩
theorem fits35 : Fits Try.prog 35 fi35 Try.f35 := ⟨by kernel_rfl, by kernel_rfl, by kernel_rfl, by kernel_rfl, by kernel_rfl⟩
set_option maxRecDepth 100000 in
noncomputable def s35 (call : ACall) (lim : Nat) (a0 : AV) (H : Heap) : Option Res :=
 pu (abin Try.prog .add 3 a0 (.d (.int .i64 4))) H fun r1 =>
 pu (abin Try.prog .sub 3 r1.1 (.d (.int .i64 1))) r1.2 fun r2 =>
 pu (abin Try.prog .quo 3 r2.1 (.d (.int .i64 4))) r2.2 fun r3 =>
 pu (abin Try.prog .mul 3 r3.1 (.d (.int .i64 4))) r3.2 fun r4 =>
 rt r4.1 r4.2

/-! #### rushlight/irrun.Place -/
noncomputable def fi14 : FI := ⟨26, 0, [.tmp 2, .tmp 3], (.seq (rgn Try.f14.body 0) (.seq (rgn Try.f14.body 1) (.seq (rgn Try.f14.body 2) (.seq (.seq (rgn Try.f14.body 3) (.block 0 (.loop ⟨[4, 5, 8, 9, 10], none, [(0, [4, 5])]⟩ (.seq (rgn Try.f14.body 4) (.seq (.cond (.tmp 11) .skip (.exit 0)) (.seq (.block 1 (.seq (rgn Try.f14.body 5) (.seq (rgn Try.f14.body 6) (rgn Try.f14.body 7)))) (rgn Try.f14.body 8))))))) (.seq (rgn Try.f14.body 9) .ret)))))⟩
theorem fits14 : Fits Try.prog 14 fi14 Try.f14 := ⟨by kernel_rfl, by kernel_rfl, by kernel_rfl, by kernel_rfl, by kernel_rfl⟩
set_option maxRecDepth 100000 in
/-- A round: what is kept: [4, 5, 8, 9, 10]. -/
noncomputable def s14.l0 (call : ACall) (lim : Nat) (v2 : List AV) (h3 : Heap) : Option Res :=
 pu (abin Try.prog .lss 3 (v2.getD 4 .junk) (v2.getD 3 .junk)) h3 fun r4 =>
 cn (asB r4.1)
 (pu (ixS 4 (v2.getD 2 .junk) (v2.getD 4 .junk)) r4.2 fun r5 =>
 pu (ldA 4 r5.2 r5.1) r5.2 fun r6 =>
 bi (al [.d (.str ⟨#[]⟩), .d (.int .i64 0), .d (.int .i64 0), .d (.int .i64 0)] r6.2) fun r7 =>
 bi (stA 4 lim r7.2 r7.1 r6.1) fun r8 =>
 bi (bldS 1 1 [.d (.int .i64 0)] [(0, (v2.getD 0 .junk))] r8.2) fun r9 =>
 bi (app 1 8 lim r9.2 (v2.getD 1 .junk) (elS 1 r9.2 r9.1)) fun r10 =>
 pu (fa 1 r7.1) r10.2 fun r11 =>
 pu (ld r11.2 r11.1) r11.2 fun r12 =>
 pu (abin Try.prog .add 3 (v2.getD 0 .junk) r12.1) r12.2 fun r13 =>
 bi (call 35 [r13.1] r13.2) fun r14 =>
 pu (abin Try.prog .add 3 (v2.getD 4 .junk) (.d (.int .i64 1))) r14.2 fun r15 =>
 some (.normal, [r14.1, r10.1, (v2.getD 2 .junk), (v2.getD 3 .junk), r15.1], r15.2))
 (some (.exit 0, [(v2.getD 0 .junk), (v2.getD 1 .junk)], r4.2))
set_option maxRecDepth 100000 in
noncomputable def s14 (call : ACall) (lim : Nat) (a0 : AV) (H : Heap) : Option Res :=
 pu (lnS a0) H fun r1 =>
 lp (s14.l0 call lim) [.d (.int .i64 0), .d (.seq true 0 []), a0, r1.1, .d (.int .i64 0)] r1.2 fun j16 =>
 dsp j16.1 none none [(0, rt (.tup [(gv j16 1), (gv j16 0)]) j16.2.2)]

/-! #### (*rushlight/irrun.runner).stop -/
noncomputable def fi39 : FI := ⟨10, 2, [.tmp 4], (.seq (rgn Try.f39.body 0) (.seq (rgn Try.f39.body 1) (.seq (rgn Try.f39.body 2) .ret)))⟩
theorem fits39 : Fits Try.prog 39 fi39 Try.f39 := ⟨by kernel_rfl, by kernel_rfl, by kernel_rfl, by kernel_rfl, by kernel_rfl⟩
set_option maxRecDepth 100000 in
noncomputable def s39 (call : ACall) (lim : Nat) (a0 a1 : AV) (H : Heap) : Option Res :=
 pu (anil a0) H fun r1 =>
 pu (fa 8 r1.1) r1.2 fun r2 =>
 pu (fa 3 r2.1) r2.2 fun r3 =>
 bi (stA 1 lim r3.2 r3.1 a1) fun r4 =>
 rt (.d (.bool false)) r4.2

/-! #### (*rushlight/irrun.runner).step -/
noncomputable def fi40 : FI := ⟨17, 2, [.tmp 2], (.seq (rgn Try.f40.body 0) (.seq (.seq (rgn Try.f40.body 1) (.cond (.tmp 7) (.seq (rgn Try.f40.body 2) .ret) .skip)) (.seq (rgn Try.f40.body 3) (.seq (rgn Try.f40.body 4) .ret))))⟩
theorem fits40 : Fits Try.prog 40 fi40 Try.f40 := ⟨by kernel_rfl, by kernel_rfl, by kernel_rfl, by kernel_rfl, by kernel_rfl⟩
set_option maxRecDepth 100000 in
noncomputable def s40 (call : ACall) (lim : Nat) (a0 : AV) (H : Heap) : Option Res :=
 pu (anil a0) H fun r1 =>
 pu (fa 12 r1.1) r1.2 fun r2 =>
 pu (ld r2.2 r2.1) r2.2 fun r3 =>
 pu (abin Try.prog .eql 3 r3.1 (.d (.int .i64 0))) r3.2 fun r4 =>
 cn (asB r4.1)
 (bi (call 39 [a0, .d (.int .i64 16)] r4.2) fun r5 =>
 rt r5.1 r5.2)
 (pu (anil a0) r4.2 fun r6 =>
 pu (fa 12 r6.1) r6.2 fun r7 =>
 pu (ld r7.2 r7.1) r7.2 fun r8 =>
 pu (abin Try.prog .sub 3 r8.1 (.d (.int .i64 1))) r8.2 fun r9 =>
 pu (anil a0) r9.2 fun r10 =>
 pu (fa 12 r10.1) r10.2 fun r11 =>
 bi (stA 1 lim r11.2 r11.1 r9.1) fun r12 =>
 rt (.d (.bool true)) r12.2)

/-! #### (rushlight/irrun.registers).set -/
noncomputable def fi61 : FI := ⟨11, 2, [], (.seq (rgn Try.f61.body 0) (rgn Try.f61.body 1))⟩
theorem fits61 : Fits Try.prog 61 fi61 Try.f61 := ⟨by kernel_rfl, by kernel_rfl, by kernel_rfl, by kernel_rfl, by kernel_rfl⟩
set_option maxRecDepth 100000 in
noncomputable def s61 (call : ACall) (lim : Nat) (a0 a1 a2 : AV) (H : Heap) : Option Res :=
 bi (bx a0 H) fun r1 =>
 pu (fa 0 r1.1) r1.2 fun r2 =>
 pu (ld r2.2 r2.1) r2.2 fun r3 =>
 pu (ixS 1 r3.1 a1) r3.2 fun r4 =>
 bi (stA 1 lim r4.2 r4.1 a2) fun r5 =>
 rt (.tup []) r5.2

/-! #### (rushlight/irrun.registers).get -/
noncomputable def fi42 : FI := ⟨10, 0, [.tmp 4], (.seq (rgn Try.f42.body 0) (.seq (rgn Try.f42.body 1) .ret))⟩
theorem fits42 : Fits Try.prog 42 fi42 Try.f42 := ⟨by kernel_rfl, by kernel_rfl, by kernel_rfl, by kernel_rfl, by kernel_rfl⟩
set_option maxRecDepth 100000 in
noncomputable def s42 (call : ACall) (lim : Nat) (a0 a1 : AV) (H : Heap) : Option Res :=
 bi (bx a0 H) fun r1 =>
 pu (fa 0 r1.1) r1.2 fun r2 =>
 pu (ld r2.2 r2.1) r2.2 fun r3 =>
 pu (ixS 1 r3.1 a1) r3.2 fun r4 =>
 pu (ld r4.2 r4.1) r4.2 fun r5 =>
 rt r5.1 r5.2

/-! #### rushlight/word.Add -/
noncomputable def fi23 : FI := ⟨8, 0, [.tmp 4], (.seq (rgn Try.f23.body 0) (.seq (rgn Try.f23.body 1) .ret))⟩
theorem fits23 : Fits Try.prog 23 fi23 Try.f23 := ⟨by kernel_rfl, by kernel_rfl, by kernel_rfl, by kernel_rfl, by kernel_rfl⟩
set_option maxRecDepth 100000 in
noncomputable def s23 (call : ACall) (lim : Nat) (a0 a1 : AV) (H : Heap) : Option Res :=
 pu (abin Try.prog .add 31 a0 a1) H fun r1 =>
 rt r1.1 r1.2

/-! #### rushlight/word.Sub -/
noncomputable def fi24 : FI := ⟨8, 0, [.tmp 4], (.seq (rgn Try.f24.body 0) (.seq (rgn Try.f24.body 1) .ret))⟩
theorem fits24 : Fits Try.prog 24 fi24 Try.f24 := ⟨by kernel_rfl, by kernel_rfl, by kernel_rfl, by kernel_rfl, by kernel_rfl⟩
set_option maxRecDepth 100000 in
noncomputable def s24 (call : ACall) (lim : Nat) (a0 a1 : AV) (H : Heap) : Option Res :=
 pu (abin Try.prog .sub 31 a0 a1) H fun r1 =>
 rt r1.1 r1.2

/-! #### rushlight/word.Mul -/
noncomputable def fi25 : FI := ⟨8, 0, [.tmp 4], (.seq (rgn Try.f25.body 0) (.seq (rgn Try.f25.body 1) .ret))⟩
theorem fits25 : Fits Try.prog 25 fi25 Try.f25 := ⟨by kernel_rfl, by kernel_rfl, by kernel_rfl, by kernel_rfl, by kernel_rfl⟩
set_option maxRecDepth 100000 in
noncomputable def s25 (call : ACall) (lim : Nat) (a0 a1 : AV) (H : Heap) : Option Res :=
 pu (abin Try.prog .mul 31 a0 a1) H fun r1 =>
 rt r1.1 r1.2

/-! #### rushlight/word.signed -/
noncomputable def fi48 : FI := ⟨15, 0, [.tmp 6], (.seq (rgn Try.f48.body 0) (.seq (rgn Try.f48.body 1) .ret))⟩
theorem fits48 : Fits Try.prog 48 fi48 Try.f48 := ⟨by kernel_rfl, by kernel_rfl, by kernel_rfl, by kernel_rfl, by kernel_rfl⟩
set_option maxRecDepth 100000 in
noncomputable def s48 (call : ACall) (lim : Nat) (a0 a1 a2 : AV) (H : Heap) : Option Res :=
 pu (cvI .i32 a0) H fun r1 =>
 pu (cvI .i64 r1.1) r1.2 fun r2 =>
 pu (cvI .i32 a1) r2.2 fun r3 =>
 pu (cvI .i64 r3.1) r3.2 fun r4 =>
 bi (cal call a2 [r2.1, r4.1] r4.2) fun r5 =>
 rt r5.1 r5.2

/-! #### rushlight/word.Div$1 -/
noncomputable def fi49 : FI := ⟨8, 0, [.tmp 4], (.seq (rgn Try.f49.body 0) (.seq (rgn Try.f49.body 1) .ret))⟩
theorem fits49 : Fits Try.prog 49 fi49 Try.f49 := ⟨by kernel_rfl, by kernel_rfl, by kernel_rfl, by kernel_rfl, by kernel_rfl⟩
set_option maxRecDepth 100000 in
noncomputable def s49 (call : ACall) (lim : Nat) (a0 a1 : AV) (H : Heap) : Option Res :=
 pu (abin Try.prog .quo 2 a0 a1) H fun r1 =>
 rt r1.1 r1.2

/-! #### rushlight/word.Div -/
noncomputable def fi26 : FI := ⟨11, 0, [.tmp 4], (.seq (rgn Try.f26.body 0) (.seq (.seq (rgn Try.f26.body 1) (.cond (.tmp 6) (.seq (rgn Try.f26.body 2) .ret) .skip)) (.seq (rgn Try.f26.body 3) .ret)))⟩
theorem fits26 : Fits Try.prog 26 fi26 Try.f26 := ⟨by kernel_rfl, by kernel_rfl, by kernel_rfl, by kernel_rfl, by kernel_rfl⟩
set_option maxRecDepth 100000 in
noncomputable def s26 (call : ACall) (lim : Nat) (a0 a1 : AV) (H : Heap) : Option Res :=
 pu (abin Try.prog .eql 31 a1 (.d (.int .u32 0))) H fun r1 =>
 cn (asB r1.1)
 (rt (.d (.int .u32 4294967295)) r1.2)
 (bi (call 48 [a0, a1, .fn 49 []] r1.2) fun r2 =>
 pu (cvI .u32 r2.1) r2.2 fun r3 =>
 rt r3.1 r3.2)

/-! #### rushlight/word.Rem$1 -/
noncomputable def fi50 : FI := ⟨8, 0, [.tmp 4], (.seq (rgn Try.f50.body 0) (.seq (rgn Try.f50.body 1) .ret))⟩
theorem fits50 : Fits Try.prog 50 fi50 Try.f50 := ⟨by kernel_rfl, by kernel_rfl, by kernel_rfl, by kernel_rfl, by kernel_rfl⟩
set_option maxRecDepth 100000 in
noncomputable def s50 (call : ACall) (lim : Nat) (a0 a1 : AV) (H : Heap) : Option Res :=
 pu (abin Try.prog .rem 2 a0 a1) H fun r1 =>
 rt r1.1 r1.2

/-! #### rushlight/word.Rem -/
noncomputable def fi27 : FI := ⟨12, 0, [.tmp 4], (.seq (rgn Try.f27.body 0) (.seq (.seq (rgn Try.f27.body 1) (.cond (.tmp 6) (.seq (rgn Try.f27.body 2) .ret) .skip)) (.seq (rgn Try.f27.body 3) .ret)))⟩
theorem fits27 : Fits Try.prog 27 fi27 Try.f27 := ⟨by kernel_rfl, by kernel_rfl, by kernel_rfl, by kernel_rfl, by kernel_rfl⟩
set_option maxRecDepth 100000 in
noncomputable def s27 (call : ACall) (lim : Nat) (a0 a1 : AV) (H : Heap) : Option Res :=
 pu (abin Try.prog .eql 31 a1 (.d (.int .u32 0))) H fun r1 =>
 cn (asB r1.1)
 (rt a0 r1.2)
 (bi (call 48 [a0, a1, .fn 50 []] r1.2) fun r2 =>
 pu (cvI .u32 r2.1) r2.2 fun r3 =>
 rt r3.1 r3.2)

/-! #### rushlight/word.Left -/
noncomputable def fi28 : FI := ⟨9, 0, [.tmp 4], (.seq (rgn Try.f28.body 0) (.seq (rgn Try.f28.body 1) .ret))⟩
theorem fits28 : Fits Try.prog 28 fi28 Try.f28 := ⟨by kernel_rfl, by kernel_rfl, by kernel_rfl, by kernel_rfl, by kernel_rfl⟩
set_option maxRecDepth 100000 in
noncomputable def s28 (call : ACall) (lim : Nat) (a0 a1 : AV) (H : Heap) : Option Res :=
 pu (abin Try.prog .and 31 a1 (.d (.int .u32 31))) H fun r1 =>
 pu (abin Try.prog .shl 31 a0 r1.1) r1.2 fun r2 =>
 rt r2.1 r2.2

/-! #### rushlight/word.RightS -/
noncomputable def fi29 : FI := ⟨11, 0, [.tmp 4], (.seq (rgn Try.f29.body 0) (.seq (rgn Try.f29.body 1) .ret))⟩
theorem fits29 : Fits Try.prog 29 fi29 Try.f29 := ⟨by kernel_rfl, by kernel_rfl, by kernel_rfl, by kernel_rfl, by kernel_rfl⟩
set_option maxRecDepth 100000 in
noncomputable def s29 (call : ACall) (lim : Nat) (a0 a1 : AV) (H : Heap) : Option Res :=
 pu (cvI .i32 a0) H fun r1 =>
 pu (abin Try.prog .and 31 a1 (.d (.int .u32 31))) r1.2 fun r2 =>
 pu (abin Try.prog .shr 21 r1.1 r2.1) r2.2 fun r3 =>
 pu (cvI .u32 r3.1) r3.2 fun r4 =>
 rt r4.1 r4.2

/-! #### rushlight/irrun.bit -/
noncomputable def fi30 : FI := ⟨4, 0, [.tmp 2], (.seq (rgn Try.f30.body 0) (.seq (.seq (rgn Try.f30.body 1) (.cond (.tmp 3) (.seq (rgn Try.f30.body 2) .ret) .skip)) (.seq (rgn Try.f30.body 3) .ret)))⟩
theorem fits30 : Fits Try.prog 30 fi30 Try.f30 := ⟨by kernel_rfl, by kernel_rfl, by kernel_rfl, by kernel_rfl, by kernel_rfl⟩
set_option maxRecDepth 100000 in
noncomputable def s30 (call : ACall) (lim : Nat) (a0 : AV) (H : Heap) : Option Res :=
 cn (asB a0)
 (rt (.d (.int .u32 1)) H)
 (rt (.d (.int .u32 0)) H)

/-! #### rushlight/word.bit -/
noncomputable def fi51 : FI := ⟨4, 0, [.tmp 2], (.seq (rgn Try.f51.body 0) (.seq (.seq (rgn Try.f51.body 1) (.cond (.tmp 3) (.seq (rgn Try.f51.body 2) .ret) .skip)) (.seq (rgn Try.f51.body 3) .ret)))⟩
theorem fits51 : Fits Try.prog 51 fi51 Try.f51 := ⟨by kernel_rfl, by kernel_rfl, by kernel_rfl, by kernel_rfl, by kernel_rfl⟩
set_option maxRecDepth 100000 in
noncomputable def s51 (call : ACall) (lim : Nat) (a0 : AV) (H : Heap) : Option Res :=
 cn (asB a0)
 (rt (.d (.int .u32 1)) H)
 (rt (.d (.int .u32 0)) H)

/-! #### rushlight/word.Less -/
noncomputable def fi31 : FI := ⟨11, 0, [.tmp 4], (.seq (rgn Try.f31.body 0) (.seq (rgn Try.f31.body 1) .ret))⟩
theorem fits31 : Fits Try.prog 31 fi31 Try.f31 := ⟨by kernel_rfl, by kernel_rfl, by kernel_rfl, by kernel_rfl, by kernel_rfl⟩
set_option maxRecDepth 100000 in
noncomputable def s31 (call : ACall) (lim : Nat) (a0 a1 : AV) (H : Heap) : Option Res :=
 pu (cvI .i32 a0) H fun r1 =>
 pu (cvI .i32 a1) r1.2 fun r2 =>
 pu (abin Try.prog .lss 21 r1.1 r2.1) r2.2 fun r3 =>
 bi (call 51 [r3.1] r3.2) fun r4 =>
 rt r4.1 r4.2

/-! #### rushlight/irrun.Fn -/
noncomputable def fi12 : FI := ⟨105, 0, [.tmp 6], (.seq (rgn Try.f12.body 0) (.seq (.seq (rgn Try.f12.body 1) (.block 0 (.seq (rgn Try.f12.body 2) (.cond (.tmp 8) (.seq (rgn Try.f12.body 3) .ret) (.seq (rgn Try.f12.body 4) (.cond (.tmp 13) (.seq (rgn Try.f12.body 5) .ret) (.seq (rgn Try.f12.body 6) (.cond (.tmp 18) (.seq (rgn Try.f12.body 7) .ret) (.seq (rgn Try.f12.body 8) (.cond (.tmp 23) (.seq (rgn Try.f12.body 9) .ret) (.seq (rgn Try.f12.body 10) (.cond (.tmp 28) (.seq (rgn Try.f12.body 11) .ret) (.seq (rgn Try.f12.body 12) (.cond (.tmp 33) (.seq (rgn Try.f12.body 13) .ret) (.seq (rgn Try.f12.body 14) (.cond (.tmp 38) (.seq (rgn Try.f12.body 15) .ret) (.seq (rgn Try.f12.body 16) (.cond (.tmp 43) (.seq (rgn Try.f12.body 17) .ret) (.seq (rgn Try.f12.body 18) (.cond (.tmp 48) (.seq (rgn Try.f12.body 19) .ret) (.seq (rgn Try.f12.body 20) (.cond (.tmp 53) (.seq (rgn Try.f12.body 21) .ret) (.seq (rgn Try.f12.body 22) (.cond (.tmp 58) (.seq (rgn Try.f12.body 23) .ret) (.seq (rgn Try.f12.body 24) (.cond (.tmp 64) (.seq (rgn Try.f12.body 25) .ret) (.seq (rgn Try.f12.body 26) (.cond (.tmp 70) (.seq (rgn Try.f12.body 27) .ret) (.seq (rgn Try.f12.body 28) (.cond (.tmp 75) (.seq (rgn Try.f12.body 29) .ret) (.seq (rgn Try.f12.body 30) (.cond (.tmp 80) (.seq (rgn Try.f12.body 31) .ret) (.seq (rgn Try.f12.body 32) (.cond (.tmp 86) (.seq (rgn Try.f12.body 33) .ret) (.seq (rgn Try.f12.body 34) (.cond (.tmp 92) (.seq (rgn Try.f12.body 35) .ret) (.seq (rgn Try.f12.body 36) (.cond (.tmp 96) (.seq (rgn Try.f12.body 37) .ret) (.seq (rgn Try.f12.body 38) (.cond (.tmp 100) (.seq (rgn Try.f12.body 39) .ret) .skip)))))))))))))))))))))))))))))))))))))))) (.seq (rgn Try.f12.body 40) .ret)))⟩
theorem fits12 : Fits Try.prog 12 fi12 Try.f12 := ⟨by kernel_rfl, by kernel_rfl, by kernel_rfl, by kernel_rfl, by kernel_rfl⟩
set_option maxRecDepth 100000 in
noncomputable def s12 (call : ACall) (lim : Nat) (a0 a1 a2 : AV) (H : Heap) : Option Res :=
 pu (abin Try.prog .eql 3 a0 (.d (.int .i64 1))) H fun r1 =>
 cn (asB r1.1)
 (bi (call 23 [a1, a2] r1.2) fun r2 =>
 rt r2.1 r2.2)
 (pu (abin Try.prog .eql 3 a0 (.d (.int .i64 2))) r1.2 fun r3 =>
 cn (asB r3.1)
 (bi (call 24 [a1, a2] r3.2) fun r4 =>
 rt r4.1 r4.2)
 (pu (abin Try.prog .eql 3 a0 (.d (.int .i64 3))) r3.2 fun r5 =>
 cn (asB r5.1)
 (bi (call 25 [a1, a2] r5.2) fun r6 =>
 rt r6.1 r6.2)
 (pu (abin Try.prog .eql 3 a0 (.d (.int .i64 4))) r5.2 fun r7 =>
 cn (asB r7.1)
 (bi (call 26 [a1, a2] r7.2) fun r8 =>
 rt r8.1 r8.2)
 (pu (abin Try.prog .eql 3 a0 (.d (.int .i64 5))) r7.2 fun r9 =>
 cn (asB r9.1)
 (bi (call 27 [a1, a2] r9.2) fun r10 =>
 rt r10.1 r10.2)
 (pu (abin Try.prog .eql 3 a0 (.d (.int .i64 6))) r9.2 fun r11 =>
 cn (asB r11.1)
 (pu (abin Try.prog .and 31 a1 a2) r11.2 fun r12 =>
 rt r12.1 r12.2)
 (pu (abin Try.prog .eql 3 a0 (.d (.int .i64 7))) r11.2 fun r13 =>
 cn (asB r13.1)
 (pu (abin Try.prog .or 31 a1 a2) r13.2 fun r14 =>
 rt r14.1 r14.2)
 (pu (abin Try.prog .eql 3 a0 (.d (.int .i64 8))) r13.2 fun r15 =>
 cn (asB r15.1)
 (pu (abin Try.prog .xor 31 a1 a2) r15.2 fun r16 =>
 rt r16.1 r16.2)
 (pu (abin Try.prog .eql 3 a0 (.d (.int .i64 9))) r15.2 fun r17 =>
 cn (asB r17.1)
 (bi (call 28 [a1, a2] r17.2) fun r18 =>
 rt r18.1 r18.2)
 (pu (abin Try.prog .eql 3 a0 (.d (.int .i64 10))) r17.2 fun r19 =>
 cn (asB r19.1)
 (bi (call 29 [a1, a2] r19.2) fun r20 =>
 rt r20.1 r20.2)
 (pu (abin Try.prog .eql 3 a0 (.d (.int .i64 11))) r19.2 fun r21 =>
 cn (asB r21.1)
 (pu (abin Try.prog .eql 31 a1 a2) r21.2 fun r22 =>
 bi (call 30 [r22.1] r22.2) fun r23 =>
 rt r23.1 r23.2)
 (pu (abin Try.prog .eql 3 a0 (.d (.int .i64 12))) r21.2 fun r24 =>
 cn (asB r24.1)
 (pu (abin Try.prog .neq 31 a1 a2) r24.2 fun r25 =>
 bi (call 30 [r25.1] r25.2) fun r26 =>
 rt r26.1 r26.2)
 (pu (abin Try.prog .eql 3 a0 (.d (.int .i64 13))) r24.2 fun r27 =>
 cn (asB r27.1)
 (bi (call 31 [a1, a2] r27.2) fun r28 =>
 rt r28.1 r28.2)
 (pu (abin Try.prog .eql 3 a0 (.d (.int .i64 14))) r27.2 fun r29 =>
 cn (asB r29.1)
 (bi (call 31 [a2, a1] r29.2) fun r30 =>
 rt r30.1 r30.2)
 (pu (abin Try.prog .eql 3 a0 (.d (.int .i64 15))) r29.2 fun r31 =>
 cn (asB r31.1)
 (bi (call 31 [a2, a1] r31.2) fun r32 =>
 pu (abin Try.prog .sub 31 (.d (.int .u32 1)) r32.1) r32.2 fun r33 =>
 rt r33.1 r33.2)
 (pu (abin Try.prog .eql 3 a0 (.d (.int .i64 16))) r31.2 fun r34 =>
 cn (asB r34.1)
 (bi (call 31 [a1, a2] r34.2) fun r35 =>
 pu (abin Try.prog .sub 31 (.d (.int .u32 1)) r35.1) r35.2 fun r36 =>
 rt r36.1 r36.2)
 (pu (abin Try.prog .eql 3 a0 (.d (.int .i64 17))) r34.2 fun r37 =>
 cn (asB r37.1)
 (bi (call 24 [.d (.int .u32 0), a1] r37.2) fun r38 =>
 rt r38.1 r38.2)
 (pu (abin Try.prog .eql 3 a0 (.d (.int .i64 18))) r37.2 fun r39 =>
 cn (asB r39.1)
 (pu (aun .xor a1) r39.2 fun r40 =>
 rt r40.1 r40.2)
 (pu (abin Try.prog .eql 3 a0 (.d (.int .i64 19))) r39.2 fun r41 =>
 cn (asB r41.1)
 (pu (abin Try.prog .eql 31 a1 (.d (.int .u32 0))) r41.2 fun r42 =>
 bi (call 30 [r42.1] r42.2) fun r43 =>
 rt r43.1 r43.2)
 (rt (.d (.int .u32 0)) r41.2)))))))))))))))))))

/-! #### (*rushlight/irrun.runner).place -/
noncomputable def fi75 : FI := ⟨29, 2, [.tmp 6, .tmp 7], (.seq (rgn Try.f75.body 0) (.seq (rgn Try.f75.body 1) (.seq (.seq (rgn Try.f75.body 2) (.cond (.tmp 25) (.seq (rgn Try.f75.body 3) .ret) .skip)) (.seq (rgn Try.f75.body 4) .ret))))⟩
theorem fits75 : Fits Try.prog 75 fi75 Try.f75 := ⟨by kernel_rfl, by kernel_rfl, by kernel_rfl, by kernel_rfl, by kernel_rfl⟩
set_option maxRecDepth 100000 in
noncomputable def s75 (call : ACall) (lim : Nat) (a0 a1 a2 : AV) (H : Heap) : Option Res :=
 pu (cvI .i64 a1) H fun r1 =>
 pu (abin Try.prog .sub 3 r1.1 (.d (.int .i64 268435456))) r1.2 fun r2 =>
 pu (abin Try.prog .lss 3 r2.1 (.d (.int .i64 0))) r2.2 fun r3 =>
 gd (yv r3.1) false (some (r2.1, r3.2)) r3.2 fun r4 =>
 gd (yv r3.1) false (some (a2, r4.2)) r4.2 fun r5 =>
 gd (yv r3.1) false (pm (abin Try.prog .sub 3 (.d (.int .i64 65536)) r5.1) r5.2) r5.2 fun r6 =>
 gd (yv r3.1) false (pm (abin Try.prog .gtr 3 r4.1 r6.1) r6.2) r6.2 fun r7 =>
 bi (pk r3.1 (.d (.bool true)) r7.1 r7.2) fun r8 =>
 gd (yv r8.1) false (some (r2.1, r8.2)) r8.2 fun r9 =>
 gd (yv r8.1) false (some (a2, r9.2)) r9.2 fun r10 =>
 gd (yv r8.1) false (pm (abin Try.prog .rem 3 r9.1 r10.1) r10.2) r10.2 fun r11 =>
 gd (yv r8.1) false (pm (abin Try.prog .neq 3 r11.1 (.d (.int .i64 0))) r11.2) r11.2 fun r12 =>
 bi (pk r8.1 (.d (.bool true)) r12.1 r12.2) fun r13 =>
 cn (asB r13.1)
 (bi (call 39 [a0, .d (.int .i64 12)] r13.2) fun r14 =>
 rt (.tup [.d (.int .i64 0), r14.1]) r14.2)
 (rt (.tup [r2.1, .d (.bool true)]) r13.2)

/-! #### (*rushlight/irrun.runner).load -/
noncomputable def fi62 : FI := ⟨42, 2, [.tmp 6, .tmp 7], (.seq (rgn Try.f62.body 0) (.seq (rgn Try.f62.body 1) (.seq (.seq (rgn Try.f62.body 2) (.cond (.tmp 20) (.seq (rgn Try.f62.body 3) .ret) .skip)) (.seq (rgn Try.f62.body 4) (.seq (.seq (rgn Try.f62.body 5) (.block 0 (.loop ⟨[0, 8, 10, 21, 22], none, [(0, [10])]⟩ (.seq (rgn Try.f62.body 6) (.seq (.cond (.tmp 23) .skip (.exit 0)) (.seq (.block 1 (.seq (rgn Try.f62.body 7) (rgn Try.f62.body 8))) (rgn Try.f62.body 9))))))) (.seq (rgn Try.f62.body 10) .ret))))))⟩
theorem fits62 : Fits Try.prog 62 fi62 Try.f62 := ⟨by kernel_rfl, by kernel_rfl, by kernel_rfl, by kernel_rfl, by kernel_rfl⟩
set_option maxRecDepth 100000 in
/-- A round: what is kept: [0, 8, 10, 21, 22]. -/
noncomputable def s62.l0 (call : ACall) (lim : Nat) (v5 : List AV) (h6 : Heap) : Option Res :=
 pu (abin Try.prog .lss 3 (v5.getD 4 .junk) (v5.getD 3 .junk)) h6 fun r7 =>
 cn (asB r7.1)
 (pu (anil (v5.getD 0 .junk)) r7.2 fun r8 =>
 pu (fa 4 r8.1) r8.2 fun r9 =>
 pu (ld r9.2 r9.1) r9.2 fun r10 =>
 pu (abin Try.prog .add 3 (v5.getD 1 .junk) (v5.getD 4 .junk)) r10.2 fun r11 =>
 pu (ixS 1 r10.1 r11.1) r11.2 fun r12 =>
 pu (ld r12.2 r12.1) r12.2 fun r13 =>
 pu (cvI .u32 r13.1) r13.2 fun r14 =>
 pu (abin Try.prog .mul 3 (.d (.int .i64 8)) (v5.getD 4 .junk)) r14.2 fun r15 =>
 pu (abin Try.prog .shl 31 r14.1 r15.1) r15.2 fun r16 =>
 pu (abin Try.prog .or 31 (v5.getD 2 .junk) r16.1) r16.2 fun r17 =>
 pu (abin Try.prog .add 3 (v5.getD 4 .junk) (.d (.int .i64 1))) r17.2 fun r18 =>
 some (.normal, [(v5.getD 0 .junk), (v5.getD 1 .junk), r17.1, (v5.getD 3 .junk), r18.1], r18.2))
 (some (.exit 0, [(v5.getD 2 .junk)], r7.2))
set_option maxRecDepth 100000 in
noncomputable def s62 (call : ACall) (lim : Nat) (a0 a1 a2 : AV) (H : Heap) : Option Res :=
 bi (call 75 [a0, a1, a2] H) fun r1 =>
 pu (aextract r1.1 0) r1.2 fun r2 =>
 pu (aextract r1.1 1) r2.2 fun r3 =>
 pu (aun .not r3.1) r3.2 fun r4 =>
 cn (asB r4.1)
 (rt (.tup [.d (.int .u32 0), .d (.bool false)]) r4.2)
 (lp (s62.l0 call lim) [a0, r2.1, .d (.int .u32 0), a2, .d (.int .i64 0)] r4.2 fun j19 =>
 dsp j19.1 none none [(0, rt (.tup [(gv j19 0), .d (.bool true)]) j19.2.2)])

/-! #### (*rushlight/irrun.runner).store -/
noncomputable def fi63 : FI := ⟨39, 2, [.tmp 8], (.seq (rgn Try.f63.body 0) (.seq (rgn Try.f63.body 1) (.seq (.seq (rgn Try.f63.body 2) (.cond (.tmp 20) (.seq (rgn Try.f63.body 3) .ret) .skip)) (.seq (.seq (rgn Try.f63.body 4) (.block 0 (.loop ⟨[0, 3, 9, 21, 22], none, [(0, [])]⟩ (.seq (rgn Try.f63.body 5) (.seq (.cond (.tmp 23) .skip (.exit 0)) (.seq (.block 1 (.seq (rgn Try.f63.body 6) (rgn Try.f63.body 7))) (rgn Try.f63.body 8))))))) (.seq (rgn Try.f63.body 9) .ret)))))⟩
theorem fits63 : Fits Try.prog 63 fi63 Try.f63 := ⟨by kernel_rfl, by kernel_rfl, by kernel_rfl, by kernel_rfl, by kernel_rfl⟩
set_option maxRecDepth 100000 in
/-- A round: what is kept: [0, 3, 9, 21, 22]. -/
noncomputable def s63.l0 (call : ACall) (lim : Nat) (v5 : List AV) (h6 : Heap) : Option Res :=
 pu (abin Try.prog .lss 3 (v5.getD 4 .junk) (v5.getD 3 .junk)) h6 fun r7 =>
 cn (asB r7.1)
 (pu (anil (v5.getD 0 .junk)) r7.2 fun r8 =>
 pu (fa 4 r8.1) r8.2 fun r9 =>
 pu (ld r9.2 r9.1) r9.2 fun r10 =>
 pu (abin Try.prog .add 3 (v5.getD 2 .junk) (v5.getD 4 .junk)) r10.2 fun r11 =>
 pu (abin Try.prog .mul 3 (.d (.int .i64 8)) (v5.getD 4 .junk)) r11.2 fun r12 =>
 pu (abin Try.prog .shr 31 (v5.getD 1 .junk) r12.1) r12.2 fun r13 =>
 pu (cvI .u8 r13.1) r13.2 fun r14 =>
 pu (ixS 1 r10.1 r11.1) r14.2 fun r15 =>
 bi (stA 1 lim r15.2 r15.1 r14.1) fun r16 =>
 pu (abin Try.prog .add 3 (v5.getD 4 .junk) (.d (.int .i64 1))) r16.2 fun r17 =>
 some (.normal, [(v5.getD 0 .junk), (v5.getD 1 .junk), (v5.getD 2 .junk), (v5.getD 3 .junk), r17.1], r17.2))
 (some (.exit 0, [], r7.2))
set_option maxRecDepth 100000 in
noncomputable def s63 (call : ACall) (lim : Nat) (a0 a1 a2 a3 : AV) (H : Heap) : Option Res :=
 bi (call 75 [a0, a1, a2] H) fun r1 =>
 pu (aextract r1.1 0) r1.2 fun r2 =>
 pu (aextract r1.1 1) r2.2 fun r3 =>
 pu (aun .not r3.1) r3.2 fun r4 =>
 cn (asB r4.1)
 (rt (.d (.bool false)) r4.2)
 (lp (s63.l0 call lim) [a0, a3, r2.1, a2, .d (.int .i64 0)] r4.2 fun j18 =>
 dsp j18.1 none none [(0, rt (.d (.bool true)) j18.2.2)])

/-! #### (*rushlight/irrun.runner).into -/
noncomputable def fi64 : FI := ⟨56, 2, [.tmp 6], (.seq (rgn Try.f64.body 0) (.seq (rgn Try.f64.body 1) (.seq (.seq (rgn Try.f64.body 2) (.block 0 (.loop ⟨[0, 1, 5, 7, 13, 14, 15], none, [(0, [0, 1, 5, 7])]⟩ (.seq (rgn Try.f64.body 3) (.seq (.cond (.tmp 16) .skip (.exit 0)) (.seq (.block 1 (.seq (rgn Try.f64.body 4) (rgn Try.f64.body 5))) (rgn Try.f64.body 6))))))) (.seq (rgn Try.f64.body 7) (.cut ⟨[11], none, []⟩ (.seq (rgn Try.f64.body 8) (.cond (.tmp 46) (rgn Try.f64.body 9) .skip)) (.seq (rgn Try.f64.body 10) .ret))))))⟩
theorem fits64 : Fits Try.prog 64 fi64 Try.f64 := ⟨by kernel_rfl, by kernel_rfl, by kernel_rfl, by kernel_rfl, by kernel_rfl⟩
set_option maxRecDepth 100000 in
/-- A round: what is kept: [0, 1, 5, 7, 13, 14, 15]. -/
noncomputable def s64.l0 (call : ACall) (lim : Nat) (v5 : List AV) (h6 : Heap) : Option Res :=
 pu (abin Try.prog .lss 3 (v5.getD 6 .junk) (v5.getD 5 .junk)) h6 fun r7 =>
 cn (asB r7.1)
 (pu (ixS 1 (v5.getD 4 .junk) (v5.getD 6 .junk)) r7.2 fun r8 =>
 pu (ld r8.2 r8.1) r8.2 fun r9 =>
 pu (anil (v5.getD 1 .junk)) r9.2 fun r10 =>
 pu (fa 0 r10.1) r10.2 fun r11 =>
 pu (ldA 1 r11.2 r11.1) r11.2 fun r12 =>
 bi (call 42 [r12.1, r9.1] r12.2) fun r13 =>
 bi (bldS 1 1 [.d (.int .u32 0)] [(0, r13.1)] r13.2) fun r14 =>
 bi (app 1 4 lim r14.2 (v5.getD 3 .junk) (elS 1 r14.2 r14.1)) fun r15 =>
 pu (abin Try.prog .add 3 (v5.getD 6 .junk) (.d (.int .i64 1))) r15.2 fun r16 =>
 some (.normal, [(v5.getD 0 .junk), (v5.getD 1 .junk), (v5.getD 2 .junk), r15.1, (v5.getD 4 .junk), (v5.getD 5 .junk), r16.1], r16.2))
 (some (.exit 0, [(v5.getD 0 .junk), (v5.getD 1 .junk), (v5.getD 2 .junk), (v5.getD 3 .junk)], r7.2))
set_option maxRecDepth 100000 in
noncomputable def s64 (call : ACall) (lim : Nat) (a0 a1 a2 : AV) (H : Heap) : Option Res :=
 bi (bx a2 H) fun r1 =>
 pu (fa 9 r1.1) r1.2 fun r2 =>
 pu (ld r2.2 r2.1) r2.2 fun r3 =>
 pu (lnS r3.1) r3.2 fun r4 =>
 lp (s64.l0 call lim) [a0, a1, r1.1, .d (.seq true 0 []), r3.1, r4.1, .d (.int .i64 0)] r4.2 fun j17 =>
 dsp j17.1 none none [(0, pu (fa 5 (gv j17 2)) j17.2.2 fun r18 =>
 pu (ld r18.2 r18.1) r18.2 fun r19 =>
 pu (anil (gv j17 1)) r19.2 fun r20 =>
 pu (fa 8 r20.1) r20.2 fun r21 =>
 pu (ld r21.2 r21.1) r21.2 fun r22 =>
 bi (call 19 [(gv j17 0), r19.1, (gv j17 3), r22.1] r22.2) fun r23 =>
 pu (aextract r23.1 0) r23.2 fun r24 =>
 pu (aextract r23.1 1) r24.2 fun r25 =>
 jn
 (gd (yv r25.1) true (pm (fa 1 (gv j17 2)) r25.2) r25.2 fun r26 =>
 gd (yv r25.1) true (pm (ld r26.2 r26.1) r26.2) r26.2 fun r27 =>
 gd (yv r25.1) true (pm (abin Try.prog .neq 3 r27.1 (.d (.int .i64 (-1)))) r27.2) r27.2 fun r28 =>
 bi (pk r25.1 r28.1 (.d (.bool false)) r28.2) fun r29 =>
 cn (asB r29.1)
 (pu (anil (gv j17 1)) r29.2 fun r30 =>
 pu (fa 0 r30.1) r30.2 fun r31 =>
 pu (ldA 1 r31.2 r31.1) r31.2 fun r32 =>
 pu (fa 1 (gv j17 2)) r32.2 fun r33 =>
 pu (ld r33.2 r33.1) r33.2 fun r34 =>
 bi (call 61 [r32.1, r34.1, r24.1] r34.2) fun r35 =>
 some (.normal, [r25.1], r35.2))
 (some (.normal, [r25.1], r29.2))) fun j36 =>
 dsp j36.1 (rt (gv j36 0) j36.2.2) none [])]

/-! #### (*rushlight/irrun.runner).input -/
noncomputable def fi65 : FI := ⟨35, 2, [.tmp 2], (.seq (rgn Try.f65.body 0) (.seq (rgn Try.f65.body 1) (.seq (.seq (rgn Try.f65.body 2) (.cond (.tmp 22) (.seq (rgn Try.f65.body 3) .ret) .skip)) (.seq (rgn Try.f65.body 4) .ret))))⟩
theorem fits65 : Fits Try.prog 65 fi65 Try.f65 := ⟨by kernel_rfl, by kernel_rfl, by kernel_rfl, by kernel_rfl, by kernel_rfl⟩
set_option maxRecDepth 100000 in
noncomputable def s65 (call : ACall) (lim : Nat) (a0 : AV) (H : Heap) : Option Res :=
 pu (anil a0) H fun r1 =>
 pu (fa 8 r1.1) r1.2 fun r2 =>
 pu (fa 1 r2.1) r2.2 fun r3 =>
 pu (ld r3.2 r3.1) r3.2 fun r4 =>
 pu (abin Try.prog .add 3 r4.1 (.d (.int .i64 1))) r4.2 fun r5 =>
 pu (anil a0) r5.2 fun r6 =>
 pu (fa 8 r6.1) r6.2 fun r7 =>
 pu (fa 1 r7.1) r7.2 fun r8 =>
 bi (stA 1 lim r8.2 r8.1 r5.1) fun r9 =>
 pu (anil a0) r9.2 fun r10 =>
 pu (fa 8 r10.1) r10.2 fun r11 =>
 pu (fa 1 r11.1) r11.2 fun r12 =>
 pu (ld r12.2 r12.1) r12.2 fun r13 =>
 pu (anil a0) r13.2 fun r14 =>
 pu (fa 7 r14.1) r14.2 fun r15 =>
 pu (ld r15.2 r15.1) r15.2 fun r16 =>
 pu (lnS r16.1) r16.2 fun r17 =>
 pu (abin Try.prog .gtr 3 r13.1 r17.1) r17.2 fun r18 =>
 cn (asB r18.1)
 (rt (.d (.int .u32 0)) r18.2)
 (pu (anil a0) r18.2 fun r19 =>
 pu (fa 7 r19.1) r19.2 fun r20 =>
 pu (ld r20.2 r20.1) r20.2 fun r21 =>
 pu (anil a0) r21.2 fun r22 =>
 pu (fa 8 r22.1) r22.2 fun r23 =>
 pu (fa 1 r23.1) r23.2 fun r24 =>
 pu (ld r24.2 r24.1) r24.2 fun r25 =>
 pu (abin Try.prog .sub 3 r25.1 (.d (.int .i64 1))) r25.2 fun r26 =>
 pu (ixS 1 r21.1 r26.1) r26.2 fun r27 =>
 pu (ld r27.2 r27.1) r27.2 fun r28 =>
 rt r28.1 r28.2)

/-! #### (*rushlight/irrun.runner).ins -/
noncomputable def fi41 : FI := ⟨223, 2, [.tmp 6], (.seq (rgn Try.f41.body 0) (.cut ⟨[], some [6], []⟩ (.seq (rgn Try.f41.body 1) (.block 0 (.seq (rgn Try.f41.body 2) (.cond (.tmp 11) (rgn Try.f41.body 3) (.seq (rgn Try.f41.body 4) (.cond (.tmp 22) (rgn Try.f41.body 5) (.seq (rgn Try.f41.body 6) (.cond (.tmp 38) (rgn Try.f41.body 7) (.seq (rgn Try.f41.body 8) (.cond (.tmp 64) (rgn Try.f41.body 9) (.seq (rgn Try.f41.body 10) (.cond (.tmp 83) (.seq (rgn Try.f41.body 11) (.seq (.seq (rgn Try.f41.body 12) (.cond (.tmp 104) (.seq (rgn Try.f41.body 13) .ret) .skip)) (rgn Try.f41.body 14))) (.seq (rgn Try.f41.body 15) (.cond (.tmp 113) (.seq (rgn Try.f41.body 16) .ret) (.seq (rgn Try.f41.body 17) (.cond (.tmp 137) (rgn Try.f41.body 18) (.seq (rgn Try.f41.body 19) (.cond (.tmp 164) (rgn Try.f41.body 20) (.seq (rgn Try.f41.body 21) (.cond (.tmp 186) (.seq (rgn Try.f41.body 22) .ret) (.seq (rgn Try.f41.body 23) (.cond (.tmp 192) (rgn Try.f41.body 24) (.seq (rgn Try.f41.body 25) (.cond (.tmp 212) (rgn Try.f41.body 26) .skip)))))))))))))))))))))))) (.seq (rgn Try.f41.body 27) .ret)))⟩
theorem fits41 : Fits Try.prog 41 fi41 Try.f41 := ⟨by kernel_rfl, by kernel_rfl, by kernel_rfl, by kernel_rfl, by kernel_rfl⟩
set_option maxRecDepth 100000 in
noncomputable def s41 (call : ACall) (lim : Nat) (a0 a1 a2 : AV) (H : Heap) : Option Res :=
 bi (bx a2 H) fun r1 =>
 jn
 (pu (fa 0 r1.1) r1.2 fun r2 =>
 pu (ld r2.2 r2.1) r2.2 fun r3 =>
 pu (abin Try.prog .eql 3 r3.1 (.d (.int .i64 1))) r3.2 fun r4 =>
 cn (asB r4.1)
 (pu (anil a1) r4.2 fun r5 =>
 pu (fa 0 r5.1) r5.2 fun r6 =>
 pu (ldA 1 r6.2 r6.1) r6.2 fun r7 =>
 pu (fa 1 r1.1) r7.2 fun r8 =>
 pu (ld r8.2 r8.1) r8.2 fun r9 =>
 pu (fa 8 r1.1) r9.2 fun r10 =>
 pu (ld r10.2 r10.1) r10.2 fun r11 =>
 bi (call 61 [r7.1, r9.1, r11.1] r11.2) fun r12 =>
 some (.normal, [], r12.2))
 (pu (abin Try.prog .eql 3 r3.1 (.d (.int .i64 2))) r4.2 fun r13 =>
 cn (asB r13.1)
 (pu (anil a1) r13.2 fun r14 =>
 pu (fa 0 r14.1) r14.2 fun r15 =>
 pu (ldA 1 r15.2 r15.1) r15.2 fun r16 =>
 pu (fa 1 r1.1) r16.2 fun r17 =>
 pu (ld r17.2 r17.1) r17.2 fun r18 =>
 pu (anil a1) r18.2 fun r19 =>
 pu (fa 0 r19.1) r19.2 fun r20 =>
 pu (ldA 1 r20.2 r20.1) r20.2 fun r21 =>
 pu (fa 2 r1.1) r21.2 fun r22 =>
 pu (ld r22.2 r22.1) r22.2 fun r23 =>
 bi (call 42 [r21.1, r23.1] r23.2) fun r24 =>
 bi (call 61 [r16.1, r18.1, r24.1] r24.2) fun r25 =>
 some (.normal, [], r25.2))
 (pu (abin Try.prog .eql 3 r3.1 (.d (.int .i64 3))) r13.2 fun r26 =>
 cn (asB r26.1)
 (pu (anil a1) r26.2 fun r27 =>
 pu (fa 0 r27.1) r27.2 fun r28 =>
 pu (ldA 1 r28.2 r28.1) r28.2 fun r29 =>
 pu (fa 1 r1.1) r29.2 fun r30 =>
 pu (ld r30.2 r30.1) r30.2 fun r31 =>
 pu (fa 4 r1.1) r31.2 fun r32 =>
 pu (ld r32.2 r32.1) r32.2 fun r33 =>
 pu (anil a1) r33.2 fun r34 =>
 pu (fa 0 r34.1) r34.2 fun r35 =>
 pu (ldA 1 r35.2 r35.1) r35.2 fun r36 =>
 pu (fa 2 r1.1) r36.2 fun r37 =>
 pu (ld r37.2 r37.1) r37.2 fun r38 =>
 bi (call 42 [r36.1, r38.1] r38.2) fun r39 =>
 pu (anil a1) r39.2 fun r40 =>
 pu (fa 0 r40.1) r40.2 fun r41 =>
 pu (ldA 1 r41.2 r41.1) r41.2 fun r42 =>
 pu (fa 3 r1.1) r42.2 fun r43 =>
 pu (ld r43.2 r43.1) r43.2 fun r44 =>
 bi (call 42 [r42.1, r44.1] r44.2) fun r45 =>
 bi (call 12 [r33.1, r39.1, r45.1] r45.2) fun r46 =>
 bi (call 61 [r29.1, r31.1, r46.1] r46.2) fun r47 =>
 some (.normal, [], r47.2))
 (pu (abin Try.prog .eql 3 r3.1 (.d (.int .i64 4))) r26.2 fun r48 =>
 cn (asB r48.1)
 (pu (anil a1) r48.2 fun r49 =>
 pu (fa 0 r49.1) r49.2 fun r50 =>
 pu (ldA 1 r50.2 r50.1) r50.2 fun r51 =>
 pu (fa 1 r1.1) r51.2 fun r52 =>
 pu (ld r52.2 r52.1) r52.2 fun r53 =>
 pu (fa 4 r1.1) r53.2 fun r54 =>
 pu (ld r54.2 r54.1) r54.2 fun r55 =>
 pu (anil a1) r55.2 fun r56 =>
 pu (fa 0 r56.1) r56.2 fun r57 =>
 pu (ldA 1 r57.2 r57.1) r57.2 fun r58 =>
 pu (fa 2 r1.1) r58.2 fun r59 =>
 pu (ld r59.2 r59.1) r59.2 fun r60 =>
 bi (call 42 [r58.1, r60.1] r60.2) fun r61 =>
 bi (call 12 [r55.1, r61.1, .d (.int .u32 0)] r61.2) fun r62 =>
 bi (call 61 [r51.1, r53.1, r62.1] r62.2) fun r63 =>
 some (.normal, [], r63.2))
 (pu (abin Try.prog .eql 3 r3.1 (.d (.int .i64 5))) r48.2 fun r64 =>
 cn (asB r64.1)
 (pu (anil a1) r64.2 fun r65 =>
 pu (fa 0 r65.1) r65.2 fun r66 =>
 pu (ldA 1 r66.2 r66.1) r66.2 fun r67 =>
 pu (fa 2 r1.1) r67.2 fun r68 =>
 pu (ld r68.2 r68.1) r68.2 fun r69 =>
 bi (call 42 [r67.1, r69.1] r69.2) fun r70 =>
 pu (fa 6 r1.1) r70.2 fun r71 =>
 pu (ld r71.2 r71.1) r71.2 fun r72 =>
 pu (cvI .u32 r72.1) r72.2 fun r73 =>
 pu (abin Try.prog .add 31 r70.1 r73.1) r73.2 fun r74 =>
 pu (fa 7 r1.1) r74.2 fun r75 =>
 pu (ld r75.2 r75.1) r75.2 fun r76 =>
 bi (call 62 [a0, r74.1, r76.1] r76.2) fun r77 =>
 pu (aextract r77.1 0) r77.2 fun r78 =>
 pu (aextract r77.1 1) r78.2 fun r79 =>
 pu (aun .not r79.1) r79.2 fun r80 =>
 cn (asB r80.1)
 (some (.ret, [.d (.bool false)], r80.2))
 (pu (anil a1) r80.2 fun r81 =>
 pu (fa 0 r81.1) r81.2 fun r82 =>
 pu (ldA 1 r82.2 r82.1) r82.2 fun r83 =>
 pu (fa 1 r1.1) r83.2 fun r84 =>
 pu (ld r84.2 r84.1) r84.2 fun r85 =>
 bi (call 61 [r83.1, r85.1, r78.1] r85.2) fun r86 =>
 some (.normal, [], r86.2)))
 (pu (abin Try.prog .eql 3 r3.1 (.d (.int .i64 6))) r64.2 fun r87 =>
 cn (asB r87.1)
 (pu (anil a1) r87.2 fun r88 =>
 pu (fa 0 r88.1) r88.2 fun r89 =>
 pu (ldA 1 r89.2 r89.1) r89.2 fun r90 =>
 pu (fa 2 r1.1) r90.2 fun r91 =>
 pu (ld r91.2 r91.1) r91.2 fun r92 =>
 bi (call 42 [r90.1, r92.1] r92.2) fun r93 =>
 pu (fa 6 r1.1) r93.2 fun r94 =>
 pu (ld r94.2 r94.1) r94.2 fun r95 =>
 pu (cvI .u32 r95.1) r95.2 fun r96 =>
 pu (abin Try.prog .add 31 r93.1 r96.1) r96.2 fun r97 =>
 pu (fa 7 r1.1) r97.2 fun r98 =>
 pu (ld r98.2 r98.1) r98.2 fun r99 =>
 pu (anil a1) r99.2 fun r100 =>
 pu (fa 0 r100.1) r100.2 fun r101 =>
 pu (ldA 1 r101.2 r101.1) r101.2 fun r102 =>
 pu (fa 3 r1.1) r102.2 fun r103 =>
 pu (ld r103.2 r103.1) r103.2 fun r104 =>
 bi (call 42 [r102.1, r104.1] r104.2) fun r105 =>
 bi (call 63 [a0, r97.1, r99.1, r105.1] r105.2) fun r106 =>
 some (.ret, [r106.1], r106.2))
 (pu (abin Try.prog .eql 3 r3.1 (.d (.int .i64 7))) r87.2 fun r107 =>
 cn (asB r107.1)
 (pu (anil a1) r107.2 fun r108 =>
 pu (fa 0 r108.1) r108.2 fun r109 =>
 pu (ldA 1 r109.2 r109.1) r109.2 fun r110 =>
 pu (fa 1 r1.1) r110.2 fun r111 =>
 pu (ld r111.2 r111.1) r111.2 fun r112 =>
 pu (anil a1) r112.2 fun r113 =>
 pu (fa 8 r113.1) r113.2 fun r114 =>
 pu (ld r114.2 r114.1) r114.2 fun r115 =>
 pu (abin Try.prog .add 3 (.d (.int .i64 268435456)) r115.1) r115.2 fun r116 =>
 pu (anil a1) r116.2 fun r117 =>
 pu (fa 7 r117.1) r117.2 fun r118 =>
 pu (ld r118.2 r118.1) r118.2 fun r119 =>
 pu (fa 5 r1.1) r119.2 fun r120 =>
 pu (ld r120.2 r120.1) r120.2 fun r121 =>
 pu (ixS 1 r119.1 r121.1) r121.2 fun r122 =>
 pu (ld r122.2 r122.1) r122.2 fun r123 =>
 pu (abin Try.prog .add 3 r116.1 r123.1) r123.2 fun r124 =>
 pu (fa 6 r1.1) r124.2 fun r125 =>
 pu (ld r125.2 r125.1) r125.2 fun r126 =>
 pu (abin Try.prog .add 3 r124.1 r126.1) r126.2 fun r127 =>
 pu (cvI .u32 r127.1) r127.2 fun r128 =>
 bi (call 61 [r110.1, r112.1, r128.1] r128.2) fun r129 =>
 some (.normal, [], r129.2))
 (pu (abin Try.prog .eql 3 r3.1 (.d (.int .i64 8))) r107.2 fun r130 =>
 cn (asB r130.1)
 (pu (anil a1) r130.2 fun r131 =>
 pu (fa 0 r131.1) r131.2 fun r132 =>
 pu (ldA 1 r132.2 r132.1) r132.2 fun r133 =>
 pu (fa 1 r1.1) r133.2 fun r134 =>
 pu (ld r134.2 r134.1) r134.2 fun r135 =>
 pu (anil a0) r135.2 fun r136 =>
 pu (fa 5 r136.1) r136.2 fun r137 =>
 pu (ld r137.2 r137.1) r137.2 fun r138 =>
 pu (fa 5 r1.1) r138.2 fun r139 =>
 pu (ld r139.2 r139.1) r139.2 fun r140 =>
 pu (ixS 1 r138.1 r140.1) r140.2 fun r141 =>
 pu (ld r141.2 r141.1) r141.2 fun r142 =>
 pu (abin Try.prog .add 3 (.d (.int .i64 268435456)) r142.1) r142.2 fun r143 =>
 pu (fa 6 r1.1) r143.2 fun r144 =>
 pu (ld r144.2 r144.1) r144.2 fun r145 =>
 pu (abin Try.prog .add 3 r143.1 r145.1) r145.2 fun r146 =>
 pu (cvI .u32 r146.1) r146.2 fun r147 =>
 bi (call 61 [r133.1, r135.1, r147.1] r147.2) fun r148 =>
 some (.normal, [], r148.2))
 (pu (abin Try.prog .eql 3 r3.1 (.d (.int .i64 9))) r130.2 fun r149 =>
 cn (asB r149.1)
 (pu (ldA 11 r149.2 r1.1) r149.2 fun r150 =>
 bi (call 64 [a0, a1, r150.1] r150.2) fun r151 =>
 some (.ret, [r151.1], r151.2))
 (pu (abin Try.prog .eql 3 r3.1 (.d (.int .i64 10))) r149.2 fun r152 =>
 cn (asB r152.1)
 (pu (anil a0) r152.2 fun r153 =>
 pu (fa 8 r153.1) r153.2 fun r154 =>
 pu (fa 0 r154.1) r154.2 fun r155 =>
 pu (ld r155.2 r155.1) r155.2 fun r156 =>
 pu (anil a1) r156.2 fun r157 =>
 pu (fa 0 r157.1) r157.2 fun r158 =>
 pu (ldA 1 r158.2 r158.1) r158.2 fun r159 =>
 pu (fa 2 r1.1) r159.2 fun r160 =>
 pu (ld r160.2 r160.1) r160.2 fun r161 =>
 bi (call 42 [r159.1, r161.1] r161.2) fun r162 =>
 bi (bldS 1 1 [.d (.int .u32 0)] [(0, r162.1)] r162.2) fun r163 =>
 ck [again lim (pm (ld r163.2 r155.1) r163.2) r156.1 r163.2] (
 bi (app 1 4 lim r163.2 r156.1 (elS 1 r163.2 r163.1)) fun r164 =>
 pu (anil a0) r164.2 fun r165 =>
 pu (fa 8 r165.1) r165.2 fun r166 =>
 pu (fa 0 r166.1) r166.2 fun r167 =>
 bi (stA 1 lim r167.2 r167.1 r164.1) fun r168 =>
 some (.normal, [], r168.2)))
 (pu (abin Try.prog .eql 3 r3.1 (.d (.int .i64 11))) r152.2 fun r169 =>
 cn (asB r169.1)
 (pu (anil a1) r169.2 fun r170 =>
 pu (fa 0 r170.1) r170.2 fun r171 =>
 pu (ldA 1 r171.2 r171.1) r171.2 fun r172 =>
 pu (fa 1 r1.1) r172.2 fun r173 =>
 pu (ld r173.2 r173.1) r173.2 fun r174 =>
 bi (call 65 [a0] r174.2) fun r175 =>
 ck [again lim (pm (ldA 1 r175.2 r171.1) r175.2) r172.1 r175.2, again lim (pm (ld r175.2 r173.1) r175.2) r174.1 r175.2] (
 bi (call 61 [r172.1, r174.1, r175.1] r175.2) fun r176 =>
 some (.normal, [], r176.2)))
 (some (.normal, [], r169.2))))))))))))) fun j177 =>
 dsp j177.1 (rt (.d (.bool true)) j177.2.2) (rt (gv j177 0) j177.2.2) []

/-! #### (*rushlight/irrun.runner).call -/
noncomputable def fi19 : FI := ⟨138, 2, [.tmp 8, .tmp 9], (.seq (rgn Try.f19.body 0) (.seq (rgn Try.f19.body 1) (.seq (rgn Try.f19.body 2) (.seq (rgn Try.f19.body 3) (.seq (.seq (rgn Try.f19.body 4) (.cond (.tmp 58) (.seq (rgn Try.f19.body 5) .ret) .skip)) (.seq (rgn Try.f19.body 6) (.seq (rgn Try.f19.body 7) (.seq (rgn Try.f19.body 8) (.block 0 (.loop ⟨[0, 10, 13, 14], some [8, 9], []⟩ (.block 1 (.seq (rgn Try.f19.body 9) (.seq (.seq (rgn Try.f19.body 10) (.block 2 (.loop ⟨[0, 10, 13, 15, 81, 82, 83], some [8, 9], [(2, [0, 10, 13, 15])]⟩ (.seq (rgn Try.f19.body 11) (.seq (.cond (.tmp 84) .skip (.exit 2)) (.seq (.block 3 (.seq (rgn Try.f19.body 12) (.seq (rgn Try.f19.body 13) (.cond (.tmp 96) (.seq (rgn Try.f19.body 14) .ret) .skip)))) (rgn Try.f19.body 15))))))) (.seq (.seq (rgn Try.f19.body 16) (.cond (.tmp 100) (.seq (rgn Try.f19.body 17) .ret) .skip)) (.seq (rgn Try.f19.body 18) (.cut ⟨[0, 10, 13, 14, 15], none, []⟩ (.seq (rgn Try.f19.body 19) (.cond (.tmp 115) (rgn Try.f19.body 20) .skip)) (.seq (rgn Try.f19.body 21) (.cond (.tmp 120) (.seq (rgn Try.f19.body 22) (.seq (.seq (rgn Try.f19.body 23) (.cond (.tmp 130) (.seq (rgn Try.f19.body 24) .ret) .skip)) (.seq (rgn Try.f19.body 25) .ret))) .skip))))))))))))))))))⟩
theorem fits19 : Fits Try.prog 19 fi19 Try.f19 := ⟨by kernel_rfl, by kernel_rfl, by kernel_rfl, by kernel_rfl, by kernel_rfl⟩
set_option maxRecDepth 100000 in
/-- A round: what is kept: [0, 10, 13, 15, 81, 82, 83]. -/
noncomputable def s19.l0 (call : ACall) (lim : Nat) (v59 : List AV) (h60 : Heap) : Option Res :=
 pu (abin Try.prog .lss 3 (v59.getD 6 .junk) (v59.getD 5 .junk)) h60 fun r61 =>
 cn (asB r61.1)
 (pu (ixS 11 (v59.getD 4 .junk) (v59.getD 6 .junk)) r61.2 fun r62 =>
 pu (ldA 11 r62.2 r62.1) r62.2 fun r63 =>
 bi (al [.d (.int .i64 0), .d (.int .i64 0), .d (.int .i64 0), .d (.int .i64 0), .d (.int .i64 0), .d (.int .i64 0), .d (.int .i64 0), .d (.int .i64 0), .d (.int .u32 0), .d (.seq true 0 []), .d (.bool false)] r63.2) fun r64 =>
 bi (stA 11 lim r64.2 r64.1 r63.1) fun r65 =>
 bi (call 40 [(v59.getD 0 .junk)] r65.2) fun r66 =>
 pu (aun .not r66.1) r66.2 fun r67 =>
 gd (yv r67.1) false (some ((v59.getD 0 .junk), r67.2)) r67.2 fun r68 =>
 gd (yv r67.1) false (some ((v59.getD 2 .junk), r68.2)) r68.2 fun r69 =>
 gd (yv r67.1) false (pm (ldA 11 r69.2 r64.1) r69.2) r69.2 fun r70 =>
 gd (yv r67.1) false (call 41 [r68.1, r69.1, r70.1] r70.2) r70.2 fun r71 =>
 gd (yv r67.1) false (pm (aun .not r71.1) r71.2) r71.2 fun r72 =>
 bi (pk r67.1 (.d (.bool true)) r72.1 r72.2) fun r73 =>
 cn (asB r73.1)
 (some (.ret, [.d (.int .u32 0), .d (.bool false)], r73.2))
 (pu (abin Try.prog .add 3 (v59.getD 6 .junk) (.d (.int .i64 1))) r73.2 fun r74 =>
 some (.normal, [(v59.getD 0 .junk), (v59.getD 1 .junk), (v59.getD 2 .junk), (v59.getD 3 .junk), (v59.getD 4 .junk), (v59.getD 5 .junk), r74.1], r74.2)))
 (some (.exit 2, [(v59.getD 0 .junk), (v59.getD 1 .junk), (v59.getD 2 .junk), (v59.getD 3 .junk)], r61.2))
set_option maxRecDepth 100000 in
/-- A round: what is kept: [0, 10, 13, 14]. -/
noncomputable def s19.l1 (call : ACall) (lim : Nat) (v48 : List AV) (h49 : Heap) : Option Res :=
 pu (fa 5 (v48.getD 1 .junk)) h49 fun r50 =>
 pu (ld r50.2 r50.1) r50.2 fun r51 =>
 pu (ixS 5 r51.1 (v48.getD 3 .junk)) r51.2 fun r52 =>
 pu (ldA 5 r52.2 r52.1) r52.2 fun r53 =>
 bi (al [.d (.seq true 0 []), .d (.int .i64 0), .d (.int .i64 0), .d (.int .i64 0), .d (.int .i64 0)] r53.2) fun r54 =>
 bi (stA 5 lim r54.2 r54.1 r53.1) fun r55 =>
 pu (fa 0 r54.1) r55.2 fun r56 =>
 pu (ld r56.2 r56.1) r56.2 fun r57 =>
 pu (lnS r57.1) r57.2 fun r58 =>
 lp (s19.l0 call lim) [(v48.getD 0 .junk), (v48.getD 1 .junk), (v48.getD 2 .junk), r54.1, r57.1, r58.1, .d (.int .i64 0)] r58.2 fun j75 =>
 dsp j75.1 none (some (.ret, [(gv j75 0), (gv j75 1)], j75.2.2)) [(2, bi (call 40 [(gv j75 0)] j75.2.2) fun r76 =>
 pu (aun .not r76.1) r76.2 fun r77 =>
 cn (asB r77.1)
 (some (.ret, [.d (.int .u32 0), .d (.bool false)], r77.2))
 (pu (fa 3 (gv j75 3)) r77.2 fun r78 =>
 pu (ld r78.2 r78.1) r78.2 fun r79 =>
 jn
 (pu (fa 1 (gv j75 3)) r79.2 fun r80 =>
 pu (ld r80.2 r80.1) r80.2 fun r81 =>
 pu (abin Try.prog .eql 3 r81.1 (.d (.int .i64 2))) r81.2 fun r82 =>
 gd (yv r82.1) true (some ((gv j75 2), r82.2)) r82.2 fun r83 =>
 gd (yv r82.1) true (pm (anil r83.1) r83.2) r83.2 fun r84 =>
 gd (yv r82.1) true (pm (fa 0 r84.1) r84.2) r84.2 fun r85 =>
 gd (yv r82.1) true (pm (ldA 1 r85.2 r85.1) r85.2) r85.2 fun r86 =>
 gd (yv r82.1) true (pm (fa 2 (gv j75 3)) r86.2) r86.2 fun r87 =>
 gd (yv r82.1) true (pm (ld r87.2 r87.1) r87.2) r87.2 fun r88 =>
 gd (yv r82.1) true (call 42 [r86.1, r88.1] r88.2) r88.2 fun r89 =>
 gd (yv r82.1) true (pm (abin Try.prog .eql 31 r89.1 (.d (.int .u32 0))) r89.2) r89.2 fun r90 =>
 bi (pk r82.1 r90.1 (.d (.bool false)) r90.2) fun r91 =>
 cn (asB r91.1)
 (pu (fa 4 (gv j75 3)) r91.2 fun r92 =>
 pu (ld r92.2 r92.1) r92.2 fun r93 =>
 some (.normal, [(gv j75 0), (gv j75 1), (gv j75 2), r93.1, (gv j75 3)], r93.2))
 (some (.normal, [(gv j75 0), (gv j75 1), (gv j75 2), r79.1, (gv j75 3)], r91.2))) fun j94 =>
 dsp j94.1 (pu (fa 1 (gv j94 4)) j94.2.2 fun r95 =>
 pu (ld r95.2 r95.1) r95.2 fun r96 =>
 pu (abin Try.prog .eql 3 r96.1 (.d (.int .i64 3))) r96.2 fun r97 =>
 cn (asB r97.1)
 (pu (anil (gv j94 0)) r97.2 fun r98 =>
 pu (fa 13 r98.1) r98.2 fun r99 =>
 pu (ld r99.2 r99.1) r99.2 fun r100 =>
 pu (abin Try.prog .sub 3 r100.1 (.d (.int .i64 1))) r100.2 fun r101 =>
 pu (anil (gv j94 0)) r101.2 fun r102 =>
 pu (fa 13 r102.1) r102.2 fun r103 =>
 bi (stA 1 lim r103.2 r103.1 r101.1) fun r104 =>
 pu (fa 2 (gv j94 4)) r104.2 fun r105 =>
 pu (ld r105.2 r105.1) r105.2 fun r106 =>
 pu (abin Try.prog .eql 3 r106.1 (.d (.int .i64 (-1)))) r106.2 fun r107 =>
 cn (asB r107.1)
 (some (.ret, [.d (.int .u32 0), .d (.bool true)], r107.2))
 (pu (anil (gv j94 2)) r107.2 fun r108 =>
 pu (fa 0 r108.1) r108.2 fun r109 =>
 pu (ldA 1 r109.2 r109.1) r109.2 fun r110 =>
 pu (fa 2 (gv j94 4)) r110.2 fun r111 =>
 pu (ld r111.2 r111.1) r111.2 fun r112 =>
 bi (call 42 [r110.1, r112.1] r112.2) fun r113 =>
 some (.ret, [r113.1, .d (.bool true)], r113.2)))
 (some (.normal, [(gv j94 0), (gv j94 1), (gv j94 2), (gv j94 3)], r97.2))) none []))]
set_option maxRecDepth 100000 in
noncomputable def s19 (call : ACall) (lim : Nat) (a0 a1 a2 a3 : AV) (H : Heap) : Option Res :=
 pu (anil a0) H fun r1 =>
 pu (fa 0 r1.1) r1.2 fun r2 =>
 pu (fa 2 r2.1) r2.2 fun r3 =>
 pu (ld r3.2 r3.1) r3.2 fun r4 =>
 pu (ixS 6 r4.1 a1) r4.2 fun r5 =>
 pu (ldA 6 r5.2 r5.1) r5.2 fun r6 =>
 bi (al [.d (.str ⟨#[]⟩), .d (.bool false), .d (.int .i64 0), .d (.int .i64 0), .d (.seq true 0 []), .d (.seq true 0 [])] r6.2) fun r7 =>
 bi (stA 6 lim r7.2 r7.1 r6.1) fun r8 =>
 pu (fa 4 r7.1) r8.2 fun r9 =>
 pu (ld r9.2 r9.1) r9.2 fun r10 =>
 bi (call 14 [r10.1] r10.2) fun r11 =>
 pu (aextract r11.1 0) r11.2 fun r12 =>
 pu (aextract r11.1 1) r12.2 fun r13 =>
 pu (fa 3 r7.1) r13.2 fun r14 =>
 pu (ld r14.2 r14.1) r14.2 fun r15 =>
 bi (mkS 1 4 [.d (.int .u32 0)] r15.2 r15.1 r15.1) fun r16 =>
 pu (bld [(0, 1)] [.d (.seq true 0 [])] [(0, r16.1)]) r16.2 fun r17 =>
 pu (ldA 6 r17.2 r7.1) r17.2 fun r18 =>
 ck [again lim (pm (ldA 6 r15.2 r7.1) r15.2) r18.1 r15.2] (
 pu (abin Try.prog .sub 3 a3 r13.1) r18.2 fun r19 =>
 pu (bld [(0, 1), (1, 6), (7, 1), (8, 1)] [.d (.seq true 0 []), .d (.str ⟨#[]⟩), .d (.bool false), .d (.int .i64 0), .d (.int .i64 0), .d (.seq true 0 []), .d (.seq true 0 []), .d (.seq true 0 []), .d (.int .i64 0)] [(0, r17.1), (1, r18.1), (2, r12.1), (3, r19.1)]) r19.2 fun r20 =>
 bi (bx r20.1 r20.2) fun r21 =>
 pu (anil r21.1) r21.2 fun r22 =>
 pu (fa 8 r22.1) r22.2 fun r23 =>
 pu (ld r23.2 r23.1) r23.2 fun r24 =>
 pu (anil a0) r24.2 fun r25 =>
 pu (fa 6 r25.1) r25.2 fun r26 =>
 pu (ld r26.2 r26.1) r26.2 fun r27 =>
 pu (abin Try.prog .lss 3 r24.1 r27.1) r27.2 fun r28 =>
 gd (yv r28.1) false (some (a0, r28.2)) r28.2 fun r29 =>
 gd (yv r28.1) false (pm (anil r29.1) r29.2) r29.2 fun r30 =>
 gd (yv r28.1) false (pm (fa 13 r30.1) r30.2) r30.2 fun r31 =>
 gd (yv r28.1) false (pm (ld r31.2 r31.1) r31.2) r31.2 fun r32 =>
 gd (yv r28.1) false (pm (abin Try.prog .eql 3 r32.1 (.d (.int .i64 5000))) r32.2) r32.2 fun r33 =>
 bi (pk r28.1 (.d (.bool true)) r33.1 r33.2) fun r34 =>
 cn (asB r34.1)
 (bi (call 39 [a0, .d (.int .i64 8)] r34.2) fun r35 =>
 rt (.tup [.d (.int .u32 0), r35.1]) r35.2)
 (pu (anil r21.1) r34.2 fun r36 =>
 pu (fa 0 r36.1) r36.2 fun r37 =>
 pu (fa 0 r37.1) r37.2 fun r38 =>
 pu (ld r38.2 r38.1) r38.2 fun r39 =>
 bi (cpy 1 lim r39.2 r39.1 (elS 1 r39.2 a2)) fun r40 =>
 pu (anil a0) r40.2 fun r41 =>
 pu (fa 13 r41.1) r41.2 fun r42 =>
 pu (ld r42.2 r42.1) r42.2 fun r43 =>
 pu (abin Try.prog .add 3 r43.1 (.d (.int .i64 1))) r43.2 fun r44 =>
 pu (anil a0) r44.2 fun r45 =>
 pu (fa 13 r45.1) r45.2 fun r46 =>
 bi (stA 1 lim r46.2 r46.1 r44.1) fun r47 =>
 lp (s19.l1 call lim) [a0, r7.1, r21.1, .d (.int .i64 0)] r47.2 fun j114 =>
 dsp j114.1 none (rt (.tup [(gv j114 0), (gv j114 1)]) j114.2.2) []))

/-! #### rushlight/irrun.Run -/
noncomputable def fi10 : FI := ⟨113, 0, [.cell 6 34], (.seq (rgn Try.f10.body 0) (.seq (rgn Try.f10.body 1) (.seq (.seq (rgn Try.f10.body 2) (.seq (rgn Try.f10.body 3) (.cond (.tmp 25) (.seq (rgn Try.f10.body 4) (.seq (rgn Try.f10.body 5) .ret)) .skip))) (.seq (rgn Try.f10.body 6) (.seq (rgn Try.f10.body 7) (.seq (.seq (rgn Try.f10.body 8) (.cond (.tmp 50) (.seq (rgn Try.f10.body 9) (.seq (rgn Try.f10.body 10) .ret)) .skip)) (.seq (rgn Try.f10.body 11) (.seq (.seq (rgn Try.f10.body 12) (.block 0 (.loop ⟨[3, 6, 7, 63, 64, 65], none, [(0, [3, 6, 7])]⟩ (.seq (rgn Try.f10.body 13) (.seq (.cond (.tmp 66) .skip (.exit 0)) (.seq (.block 1 (.seq (rgn Try.f10.body 14) (.seq (rgn Try.f10.body 15) (rgn Try.f10.body 16)))) (rgn Try.f10.body 17))))))) (.cut ⟨[6, 7], none, []⟩ (.seq (rgn Try.f10.body 18) (.seq (rgn Try.f10.body 19) (.cond (.tmp 102) (rgn Try.f10.body 20) .skip))) (.seq (rgn Try.f10.body 21) .ret))))))))))⟩
theorem fits10 : Fits Try.prog 10 fi10 Try.f10 := ⟨by kernel_rfl, by kernel_rfl, by kernel_rfl, by kernel_rfl, by kernel_rfl⟩
set_option maxRecDepth 100000 in
/-- A round: what is kept: [3, 6, 7, 63, 64, 65]. -/
noncomputable def s10.l0 (call : ACall) (lim : Nat) (v45 : List AV) (h46 : Heap) : Option Res :=
 pu (abin Try.prog .lss 3 (v45.getD 5 .junk) (v45.getD 4 .junk)) h46 fun r47 =>
 cn (asB r47.1)
 (pu (ixS 1 (v45.getD 3 .junk) (v45.getD 5 .junk)) r47.2 fun r48 =>
 pu (ld r48.2 r48.1) r48.2 fun r49 =>
 pu (anil (v45.getD 2 .junk)) r49.2 fun r50 =>
 pu (fa 5 r50.1) r50.2 fun r51 =>
 pu (ld r51.2 r51.1) r51.2 fun r52 =>
 pu (abin Try.prog .add 3 (.d (.int .i64 4096)) r49.1) r52.2 fun r53 =>
 bi (bldS 1 1 [.d (.int .i64 0)] [(0, r53.1)] r53.2) fun r54 =>
 bi (app 1 8 lim r54.2 r52.1 (elS 1 r54.2 r54.1)) fun r55 =>
 pu (anil (v45.getD 2 .junk)) r55.2 fun r56 =>
 pu (fa 5 r56.1) r56.2 fun r57 =>
 bi (stA 1 lim r57.2 r57.1 r55.1) fun r58 =>
 pu (anil (v45.getD 2 .junk)) r58.2 fun r59 =>
 pu (fa 4 r59.1) r59.2 fun r60 =>
 pu (ld r60.2 r60.1) r60.2 fun r61 =>
 pu (abin Try.prog .add 3 (.d (.int .i64 4096)) r49.1) r61.2 fun r62 =>
 pu (slS 1 r61.1 (some r62.1) none) r62.2 fun r63 =>
 pu (fa 1 (v45.getD 0 .junk)) r63.2 fun r64 =>
 pu (ld r64.2 r64.1) r64.2 fun r65 =>
 pu (ixS 1 r65.1 (v45.getD 5 .junk)) r65.2 fun r66 =>
 pu (ld r66.2 r66.1) r66.2 fun r67 =>
 bi (cpy 1 lim r67.2 r63.1 (elS 1 r67.2 r67.1)) fun r68 =>
 pu (abin Try.prog .add 3 (v45.getD 5 .junk) (.d (.int .i64 1))) r68.2 fun r69 =>
 some (.normal, [(v45.getD 0 .junk), (v45.getD 1 .junk), (v45.getD 2 .junk), (v45.getD 3 .junk), (v45.getD 4 .junk), r69.1], r69.2))
 (some (.exit 0, [(v45.getD 0 .junk), (v45.getD 1 .junk), (v45.getD 2 .junk)], r47.2))
set_option maxRecDepth 100000 in
noncomputable def s10 (call : ACall) (lim : Nat) (a0 a1 a2 : AV) (H : Heap) : Option Res :=
 bi (bx a0 H) fun r1 =>
 bi (al [.d (.seq true 0 []), .d (.int .i64 0), .d (.int .u32 0), .d (.int .i64 0)] r1.2) fun r2 =>
 pu (ldA 4 r2.2 r1.1) r2.2 fun r3 =>
 pu (amax a2 (.d (.int .i64 0))) r3.2 fun r4 =>
 pu (amin r4.1 (.d (.int .i64 10000000))) r4.2 fun r5 =>
 pu (bld [(0, 4), (4, 1), (5, 1), (6, 1), (7, 1), (8, 4), (12, 1), (13, 1)] [.d (.seq true 0 []), .d (.seq true 0 []), .d (.seq true 0 []), .d (.int .i64 0), .d (.seq true 0 []), .d (.seq true 0 []), .d (.int .i64 0), .d (.seq true 0 []), .d (.seq true 0 []), .d (.int .i64 0), .d (.int .u32 0), .d (.int .i64 0), .d (.int .i64 0), .d (.int .i64 0)] [(0, r3.1), (4, a1), (6, r5.1)]) r5.2 fun r6 =>
 bi (bx r6.1 r6.2) fun r7 =>
 pu (ldA 4 r7.2 r1.1) r7.2 fun r8 =>
 bi (call 18 [r8.1] r8.2) fun r9 =>
 pu (abin Try.prog .neq 32 r9.1 (.d (.int .i64 0))) r9.2 fun r10 =>
 cn (asB r10.1)
 (pu (anil r7.1) r10.2 fun r11 =>
 pu (fa 8 r11.1) r11.2 fun r12 =>
 pu (fa 3 r12.1) r12.2 fun r13 =>
 bi (stA 1 lim r13.2 r13.1 r9.1) fun r14 =>
 pu (anil r7.1) r14.2 fun r15 =>
 pu (fa 8 r15.1) r15.2 fun r16 =>
 pu (ldA 4 r16.2 r16.1) r16.2 fun r17 =>
 bi (stA 4 lim r17.2 r2.1 r17.1) fun r18 =>
 rs [ldA 4 r18.2 r2.1] r18.2)
 (pu (fa 0 r1.1) r10.2 fun r19 =>
 pu (ld r19.2 r19.1) r19.2 fun r20 =>
 bi (call 14 [r20.1] r20.2) fun r21 =>
 pu (aextract r21.1 0) r21.2 fun r22 =>
 pu (aextract r21.1 1) r22.2 fun r23 =>
 pu (abin Try.prog .add 3 (.d (.int .i64 4096)) r23.1) r23.2 fun r24 =>
 pu (anil r7.1) r24.2 fun r25 =>
 pu (fa 6 r25.1) r25.2 fun r26 =>
 bi (stA 1 lim r26.2 r26.1 r24.1) fun r27 =>
 pu (anil r7.1) r27.2 fun r28 =>
 pu (fa 6 r28.1) r28.2 fun r29 =>
 pu (ld r29.2 r29.1) r29.2 fun r30 =>
 pu (abin Try.prog .gtr 3 r30.1 (.d (.int .i64 65536))) r30.2 fun r31 =>
 cn (asB r31.1)
 (pu (anil r7.1) r31.2 fun r32 =>
 pu (fa 8 r32.1) r32.2 fun r33 =>
 pu (fa 3 r33.1) r33.2 fun r34 =>
 bi (stA 1 lim r34.2 r34.1 (.d (.int .i64 8))) fun r35 =>
 pu (anil r7.1) r35.2 fun r36 =>
 pu (fa 8 r36.1) r36.2 fun r37 =>
 pu (ldA 4 r37.2 r37.1) r37.2 fun r38 =>
 bi (stA 4 lim r38.2 r2.1 r38.1) fun r39 =>
 rs [ldA 4 r39.2 r2.1] r39.2)
 (bi (mkS 1 1 [.d (.int .u8 0)] r31.2 (.d (.int .i64 65536)) (.d (.int .i64 65536))) fun r40 =>
 pu (anil r7.1) r40.2 fun r41 =>
 pu (fa 4 r41.1) r41.2 fun r42 =>
 bi (stA 1 lim r42.2 r42.1 r40.1) fun r43 =>
 pu (lnS r22.1) r43.2 fun r44 =>
 lp (s10.l0 call lim) [r1.1, r2.1, r7.1, r22.1, r44.1, .d (.int .i64 0)] r44.2 fun j70 =>
 dsp j70.1 none none [(0, jn
 (pu (fa 3 (gv j70 0)) j70.2.2 fun r71 =>
 pu (ld r71.2 r71.1) r71.2 fun r72 =>
 bi (call 19 [(gv j70 2), r72.1, .d (.seq true 0 []), .d (.int .i64 65536)] r72.2) fun r73 =>
 pu (aextract r73.1 0) r73.2 fun r74 =>
 pu (aextract r73.1 1) r74.2 fun r75 =>
 cn (asB r75.1)
 (pu (abin Try.prog .and 31 r74.1 (.d (.int .u32 255))) r75.2 fun r76 =>
 pu (anil (gv j70 2)) r76.2 fun r77 =>
 pu (fa 8 r77.1) r77.2 fun r78 =>
 pu (fa 2 r78.1) r78.2 fun r79 =>
 bi (stA 1 lim r79.2 r79.1 r76.1) fun r80 =>
 some (.normal, [(gv j70 1), (gv j70 2)], r80.2))
 (some (.normal, [(gv j70 1), (gv j70 2)], r75.2))) fun j81 =>
 dsp j81.1 (pu (anil (gv j81 1)) j81.2.2 fun r82 =>
 pu (fa 8 r82.1) r82.2 fun r83 =>
 pu (ldA 4 r83.2 r83.1) r83.2 fun r84 =>
 bi (stA 4 lim r84.2 (gv j81 0) r84.1) fun r85 =>
 rs [ldA 4 r85.2 (gv j81 0)] r85.2) none [])]))

/-! #### rushlight/rushlightlaw14.awake -/
noncomputable def fi8 : FI := ⟨40, 0, [.tmp 0], (.seq (rgn Try.f8.body 0) (.seq (rgn Try.f8.body 1) (.seq (rgn Try.f8.body 2) (.seq (rgn Try.f8.body 3) .ret))))⟩
theorem fits8 : Fits Try.prog 8 fi8 Try.f8 := ⟨by kernel_rfl, by kernel_rfl, by kernel_rfl, by kernel_rfl, by kernel_rfl⟩
set_option maxRecDepth 100000 in
noncomputable def s8 (call : ACall) (lim : Nat) (H : Heap) : Option Res :=
 pu (bld [(0, 1), (1, 1), (2, 1), (3, 1), (4, 1), (5, 1), (6, 1), (7, 1), (8, 1), (9, 1), (10, 1)] [.d (.int .i64 0), .d (.int .i64 0), .d (.int .i64 0), .d (.int .i64 0), .d (.int .i64 0), .d (.int .i64 0), .d (.int .i64 0), .d (.int .i64 0), .d (.int .u32 0), .d (.seq true 0 []), .d (.bool false)] [(0, .d (.int .i64 11)), (2, .d (.int .i64 (-1))), (3, .d (.int .i64 (-1)))]) H fun r1 =>
 pu (bld [(0, 1), (1, 1), (2, 1), (3, 1), (4, 1), (5, 1), (6, 1), (7, 1), (8, 1), (9, 1), (10, 1)] [.d (.int .i64 0), .d (.int .i64 0), .d (.int .i64 0), .d (.int .i64 0), .d (.int .i64 0), .d (.int .i64 0), .d (.int .i64 0), .d (.int .i64 0), .d (.int .u32 0), .d (.seq true 0 []), .d (.bool false)] [(0, .d (.int .i64 10)), (1, .d (.int .i64 (-1))), (3, .d (.int .i64 (-1)))]) r1.2 fun r2 =>
 bi (bldS 11 2 [.d (.int .i64 0), .d (.int .i64 0), .d (.int .i64 0), .d (.int .i64 0), .d (.int .i64 0), .d (.int .i64 0), .d (.int .i64 0), .d (.int .i64 0), .d (.int .u32 0), .d (.seq true 0 []), .d (.bool false)] [(0, r1.1), (1, r2.1)] r2.2) fun r3 =>
 pu (bld [(0, 1), (1, 1), (2, 1), (3, 1), (4, 1)] [.d (.seq true 0 []), .d (.int .i64 0), .d (.int .i64 0), .d (.int .i64 0), .d (.int .i64 0)] [(0, r3.1), (1, .d (.int .i64 3))]) r3.2 fun r4 =>
 bi (bldS 5 1 [.d (.seq true 0 []), .d (.int .i64 0), .d (.int .i64 0), .d (.int .i64 0), .d (.int .i64 0)] [(0, r4.1)] r4.2) fun r5 =>
 pu (bld [(0, 1), (1, 1), (2, 1), (3, 1), (4, 1), (5, 1)] [.d (.str ⟨#[]⟩), .d (.bool false), .d (.int .i64 0), .d (.int .i64 0), .d (.seq true 0 []), .d (.seq true 0 [])] [(3, .d (.int .i64 1)), (5, r5.1)]) r5.2 fun r6 =>
 bi (al [.d (.str ⟨#[]⟩), .d (.bool false), .d (.int .i64 0), .d (.int .i64 0), .d (.seq true 0 []), .d (.seq true 0 [])] r6.2) fun r7 =>
 bi (stA 6 lim r7.2 r7.1 r6.1) fun r8 =>
 pu (ldA 6 r8.2 r7.1) r8.2 fun r9 =>
 bi (bldS 6 1 [.d (.str ⟨#[]⟩), .d (.bool false), .d (.int .i64 0), .d (.int .i64 0), .d (.seq true 0 []), .d (.seq true 0 [])] [(0, r9.1)] r9.2) fun r10 =>
 pu (bld [(0, 1), (1, 1), (2, 1), (3, 1)] [.d (.seq true 0 []), .d (.seq true 0 []), .d (.seq true 0 []), .d (.int .i64 0)] [(2, r10.1)]) r10.2 fun r11 =>
 bi (bldS 1 1 [.d (.int .u32 0)] [(0, .d (.int .u32 300))] r11.2) fun r12 =>
 bi (call 10 [r11.1, r12.1, .d (.int .i64 10)] r12.2) fun r13 =>
 bi (al [.d (.seq true 0 []), .d (.int .i64 0), .d (.int .u32 0), .d (.int .i64 0)] r13.2) fun r14 =>
 bi (stA 4 lim r14.2 r14.1 r13.1) fun r15 =>
 pu (fa 3 r14.1) r15.2 fun r16 =>
 pu (ld r16.2 r16.1) r16.2 fun r17 =>
 pu (abin Try.prog .eql 32 r17.1 (.d (.int .i64 0))) r17.2 fun r18 =>
 gd (yv r18.1) true (pm (fa 0 r14.1) r18.2) r18.2 fun r19 =>
 gd (yv r18.1) true (pm (ld r19.2 r19.1) r19.2) r19.2 fun r20 =>
 gd (yv r18.1) true (pm (lnS r20.1) r20.2) r20.2 fun r21 =>
 gd (yv r18.1) true (pm (abin Try.prog .eql 3 r21.1 (.d (.int .i64 1))) r21.2) r21.2 fun r22 =>
 bi (pk r18.1 r22.1 (.d (.bool false)) r22.2) fun r23 =>
 gd (yv r23.1) true (pm (fa 0 r14.1) r23.2) r23.2 fun r24 =>
 gd (yv r23.1) true (pm (ld r24.2 r24.1) r24.2) r24.2 fun r25 =>
 gd (yv r23.1) true (pm (ixS 1 r25.1 (.d (.int .i64 0))) r25.2) r25.2 fun r26 =>
 gd (yv r23.1) true (pm (ld r26.2 r26.1) r26.2) r26.2 fun r27 =>
 gd (yv r23.1) true (pm (abin Try.prog .eql 31 r27.1 (.d (.int .u32 300))) r27.2) r27.2 fun r28 =>
 bi (pk r23.1 r28.1 (.d (.bool false)) r28.2) fun r29 =>
 gd (yv r29.1) true (pm (fa 2 r14.1) r29.2) r29.2 fun r30 =>
 gd (yv r29.1) true (pm (ld r30.2 r30.1) r30.2) r30.2 fun r31 =>
 gd (yv r29.1) true (pm (abin Try.prog .eql 31 r31.1 (.d (.int .u32 44))) r31.2) r31.2 fun r32 =>
 bi (pk r29.1 r32.1 (.d (.bool false)) r32.2) fun r33 =>
 gd (yv r33.1) true (pm (fa 1 r14.1) r33.2) r33.2 fun r34 =>
 gd (yv r33.1) true (pm (ld r34.2 r34.1) r34.2) r34.2 fun r35 =>
 gd (yv r33.1) true (pm (abin Try.prog .eql 3 r35.1 (.d (.int .i64 1))) r35.2) r35.2 fun r36 =>
 bi (pk r33.1 r36.1 (.d (.bool false)) r36.2) fun r37 =>
 rt r37.1 r37.2

/-! #### rushlight/rushlightref13.slots -/
noncomputable def fi43 : FI := ⟨46, 0, [.tmp 4], (.seq (rgn Try.f43.body 0) (.seq (.seq (rgn Try.f43.body 1) (.block 0 (.loop ⟨[0, 1, 5], some [4], [(0, [0, 1])]⟩ (.seq (.seq (rgn Try.f43.body 2) (.cond (.tmp 9) .skip (.exit 0))) (.seq (.block 1 (.seq (rgn Try.f43.body 4) (.cond (.tmp 41) (.seq (rgn Try.f43.body 5) .ret) .skip))) (rgn Try.f43.body 3)))))) (.seq (rgn Try.f43.body 6) .ret)))⟩
theorem fits43 : Fits Try.prog 43 fi43 Try.f43 := ⟨by kernel_rfl, by kernel_rfl, by kernel_rfl, by kernel_rfl, by kernel_rfl⟩
set_option maxRecDepth 100000 in
/-- A round: what is kept: [0, 1, 5]. -/
noncomputable def s43.l0 (call : ACall) (lim : Nat) (v1 : List AV) (h2 : Heap) : Option Res :=
 pu (lnS (v1.getD 0 .junk)) h2 fun r3 =>
 pu (abin Try.prog .lss 3 (v1.getD 2 .junk) r3.1) r3.2 fun r4 =>
 cn (asB r4.1)
 (pu (ixS 4 (v1.getD 0 .junk) (v1.getD 2 .junk)) r4.2 fun r5 =>
 pu (fa 1 r5.1) r5.2 fun r6 =>
 pu (ld r6.2 r6.1) r6.2 fun r7 =>
 pu (abin Try.prog .lss 3 r7.1 (.d (.int .i64 1))) r7.2 fun r8 =>
 gd (yv r8.1) false (some ((v1.getD 0 .junk), r8.2)) r8.2 fun r9 =>
 gd (yv r8.1) false (some ((v1.getD 2 .junk), r9.2)) r9.2 fun r10 =>
 gd (yv r8.1) false (pm (ixS 4 r9.1 r10.1) r10.2) r10.2 fun r11 =>
 gd (yv r8.1) false (pm (fa 1 r11.1) r11.2) r11.2 fun r12 =>
 gd (yv r8.1) false (pm (ld r12.2 r12.1) r12.2) r12.2 fun r13 =>
 gd (yv r8.1) false (pm (abin Try.prog .gtr 3 r13.1 (.d (.int .i64 32768))) r13.2) r13.2 fun r14 =>
 bi (pk r8.1 (.d (.bool true)) r14.1 r14.2) fun r15 =>
 gd (yv r15.1) false (some ((v1.getD 0 .junk), r15.2)) r15.2 fun r16 =>
 gd (yv r15.1) false (some ((v1.getD 2 .junk), r16.2)) r16.2 fun r17 =>
 gd (yv r15.1) false (pm (ixS 4 r16.1 r17.1) r17.2) r17.2 fun r18 =>
 gd (yv r15.1) false (pm (fa 2 r18.1) r18.2) r18.2 fun r19 =>
 gd (yv r15.1) false (pm (ld r19.2 r19.1) r19.2) r19.2 fun r20 =>
 gd (yv r15.1) false (pm (abin Try.prog .neq 3 r20.1 (.d (.int .i64 1))) r20.2) r20.2 fun r21 =>
 gd (yv r15.1) false (some (r21.1, r21.2)) r21.2 fun r22 =>
 gd (yv r22.1) true (some ((v1.getD 0 .junk), r22.2)) r22.2 fun r23 =>
 gd (yv r22.1) true (some ((v1.getD 2 .junk), r23.2)) r23.2 fun r24 =>
 gd (yv r22.1) true (pm (ixS 4 r23.1 r24.1) r24.2) r24.2 fun r25 =>
 gd (yv r22.1) true (pm (fa 2 r25.1) r25.2) r25.2 fun r26 =>
 gd (yv r22.1) true (pm (ld r26.2 r26.1) r26.2) r26.2 fun r27 =>
 gd (yv r22.1) true (pm (abin Try.prog .neq 3 r27.1 (.d (.int .i64 4))) r27.2) r27.2 fun r28 =>
 gd (yv r15.1) false (pk r22.1 r28.1 (.d (.bool false)) r28.2) r28.2 fun r29 =>
 bi (pk r15.1 (.d (.bool true)) r29.1 r29.2) fun r30 =>
 cn (asB r30.1)
 (some (.ret, [.d (.bool false)], r30.2))
 (pu (abin Try.prog .add 3 (v1.getD 2 .junk) (.d (.int .i64 1))) r30.2 fun r31 =>
 some (.normal, [(v1.getD 0 .junk), (v1.getD 1 .junk), r31.1], r31.2)))
 (some (.exit 0, [(v1.getD 0 .junk), (v1.getD 1 .junk)], r4.2))
set_option maxRecDepth 100000 in
noncomputable def s43 (call : ACall) (lim : Nat) (a0 a1 : AV) (H : Heap) : Option Res :=
 lp (s43.l0 call lim) [a0, a1, .d (.int .i64 0)] H fun j32 =>
 dsp j32.1 none (rt (gv j32 0) j32.2.2) [(0, pu (lnS (gv j32 0)) j32.2.2 fun r33 =>
 pu (abin Try.prog .leq 3 r33.1 (gv j32 1)) r33.2 fun r34 =>
 rt r34.1 r34.2)]

/-! #### rushlight/rushlightref13.register -/
noncomputable def fi76 : FI := ⟨19, 0, [.tmp 6], (.seq (rgn Try.f76.body 0) (.seq (.seq (rgn Try.f76.body 1) (.cond (.tmp 7) (.seq (rgn Try.f76.body 2) .ret) .skip)) (.seq (rgn Try.f76.body 3) .ret)))⟩
theorem fits76 : Fits Try.prog 76 fi76 Try.f76 := ⟨by kernel_rfl, by kernel_rfl, by kernel_rfl, by kernel_rfl, by kernel_rfl⟩
set_option maxRecDepth 100000 in
noncomputable def s76 (call : ACall) (lim : Nat) (a0 a1 a2 : AV) (H : Heap) : Option Res :=
 bi (bx a0 H) fun r1 =>
 cn (asB a2)
 (pu (abin Try.prog .geq 3 a1 (.d (.int .i64 0))) r1.2 fun r2 =>
 gd (yv r2.1) true (some (a1, r2.2)) r2.2 fun r3 =>
 gd (yv r2.1) true (pm (fa 3 r1.1) r3.2) r3.2 fun r4 =>
 gd (yv r2.1) true (pm (ld r4.2 r4.1) r4.2) r4.2 fun r5 =>
 gd (yv r2.1) true (pm (abin Try.prog .sub 3 r5.1 (.d (.int .i64 1))) r5.2) r5.2 fun r6 =>
 gd (yv r2.1) true (pm (abin Try.prog .leq 3 r3.1 r6.1) r6.2) r6.2 fun r7 =>
 bi (pk r2.1 r7.1 (.d (.bool false)) r7.2) fun r8 =>
 rt r8.1 r8.2)
 (pu (abin Try.prog .eql 3 a1 (.d (.int .i64 (-1)))) r1.2 fun r9 =>
 rt r9.1 r9.2)

/-! #### rushlight/rushlightref13.End -/
noncomputable def fi66 : FI := ⟨76, 0, [.tmp 4], (.seq (rgn Try.f66.body 0) (.seq (rgn Try.f66.body 1) (.seq (.seq (rgn Try.f66.body 2) (.cond (.tmp 19) (.seq (rgn Try.f66.body 3) .ret) .skip)) (.seq (.seq (rgn Try.f66.body 4) (.cond (.tmp 33) (.seq (rgn Try.f66.body 5) .ret) .skip)) (.seq (rgn Try.f66.body 6) .ret)))))⟩
theorem fits66 : Fits Try.prog 66 fi66 Try.f66 := ⟨by kernel_rfl, by kernel_rfl, by kernel_rfl, by kernel_rfl, by kernel_rfl⟩
set_option maxRecDepth 100000 in
noncomputable def s66 (call : ACall) (lim : Nat) (a0 a1 : AV) (H : Heap) : Option Res :=
 bi (bx a0 H) fun r1 =>
 bi (bx a1 r1.2) fun r2 =>
 pu (fa 3 r2.1) r2.2 fun r3 =>
 pu (ld r3.2 r3.1) r3.2 fun r4 =>
 pu (abin Try.prog .geq 3 r4.1 (.d (.int .i64 0))) r4.2 fun r5 =>
 gd (yv r5.1) true (pm (fa 3 r2.1) r5.2) r5.2 fun r6 =>
 gd (yv r5.1) true (pm (ld r6.2 r6.1) r6.2) r6.2 fun r7 =>
 gd (yv r5.1) true (pm (fa 5 r1.1) r7.2) r7.2 fun r8 =>
 gd (yv r5.1) true (pm (ld r8.2 r8.1) r8.2) r8.2 fun r9 =>
 gd (yv r5.1) true (pm (lnS r9.1) r9.2) r9.2 fun r10 =>
 gd (yv r5.1) true (pm (abin Try.prog .lss 3 r7.1 r10.1) r10.2) r10.2 fun r11 =>
 bi (pk r5.1 r11.1 (.d (.bool false)) r11.2) fun r12 =>
 pu (fa 1 r2.1) r12.2 fun r13 =>
 pu (ld r13.2 r13.1) r13.2 fun r14 =>
 pu (abin Try.prog .eql 3 r14.1 (.d (.int .i64 1))) r14.2 fun r15 =>
 cn (asB r15.1)
 (gd (yv r12.1) true (pm (fa 2 r2.1) r15.2) r15.2 fun r16 =>
 gd (yv r12.1) true (pm (ld r16.2 r16.1) r16.2) r16.2 fun r17 =>
 gd (yv r12.1) true (pm (abin Try.prog .eql 3 r17.1 (.d (.int .i64 (-1)))) r17.2) r17.2 fun r18 =>
 bi (pk r12.1 r18.1 (.d (.bool false)) r18.2) fun r19 =>
 gd (yv r19.1) true (pm (fa 4 r2.1) r19.2) r19.2 fun r20 =>
 gd (yv r19.1) true (pm (ld r20.2 r20.1) r20.2) r20.2 fun r21 =>
 gd (yv r19.1) true (pm (abin Try.prog .eql 3 r21.1 (.d (.int .i64 0))) r21.2) r21.2 fun r22 =>
 bi (pk r19.1 r22.1 (.d (.bool false)) r22.2) fun r23 =>
 rt r23.1 r23.2)
 (pu (fa 1 r2.1) r15.2 fun r24 =>
 pu (ld r24.2 r24.1) r24.2 fun r25 =>
 pu (abin Try.prog .eql 3 r25.1 (.d (.int .i64 2))) r25.2 fun r26 =>
 cn (asB r26.1)
 (gd (yv r12.1) true (pm (fa 4 r2.1) r26.2) r26.2 fun r27 =>
 gd (yv r12.1) true (pm (ld r27.2 r27.1) r27.2) r27.2 fun r28 =>
 gd (yv r12.1) true (pm (abin Try.prog .geq 3 r28.1 (.d (.int .i64 0))) r28.2) r28.2 fun r29 =>
 bi (pk r12.1 r29.1 (.d (.bool false)) r29.2) fun r30 =>
 gd (yv r30.1) true (pm (fa 4 r2.1) r30.2) r30.2 fun r31 =>
 gd (yv r30.1) true (pm (ld r31.2 r31.1) r31.2) r31.2 fun r32 =>
 gd (yv r30.1) true (pm (fa 5 r1.1) r32.2) r32.2 fun r33 =>
 gd (yv r30.1) true (pm (ld r33.2 r33.1) r33.2) r33.2 fun r34 =>
 gd (yv r30.1) true (pm (lnS r34.1) r34.2) r34.2 fun r35 =>
 gd (yv r30.1) true (pm (abin Try.prog .lss 3 r32.1 r35.1) r35.2) r35.2 fun r36 =>
 bi (pk r30.1 r36.1 (.d (.bool false)) r36.2) fun r37 =>
 gd (yv r37.1) true (pm (ldA 6 r37.2 r1.1) r37.2) r37.2 fun r38 =>
 gd (yv r37.1) true (pm (fa 2 r2.1) r38.2) r38.2 fun r39 =>
 gd (yv r37.1) true (pm (ld r39.2 r39.1) r39.2) r39.2 fun r40 =>
 gd (yv r37.1) true (call 76 [r38.1, r40.1, .d (.bool true)] r40.2) r40.2 fun r41 =>
 bi (pk r37.1 r41.1 (.d (.bool false)) r41.2) fun r42 =>
 rt r42.1 r42.2)
 (pu (fa 1 r2.1) r26.2 fun r43 =>
 pu (ld r43.2 r43.1) r43.2 fun r44 =>
 pu (abin Try.prog .eql 3 r44.1 (.d (.int .i64 3))) r44.2 fun r45 =>
 gd (yv r45.1) true (pm (fa 3 r2.1) r45.2) r45.2 fun r46 =>
 gd (yv r45.1) true (pm (ld r46.2 r46.1) r46.2) r46.2 fun r47 =>
 gd (yv r45.1) true (pm (abin Try.prog .eql 3 r47.1 (.d (.int .i64 0))) r47.2) r47.2 fun r48 =>
 bi (pk r45.1 r48.1 (.d (.bool false)) r48.2) fun r49 =>
 gd (yv r49.1) true (pm (fa 4 r2.1) r49.2) r49.2 fun r50 =>
 gd (yv r49.1) true (pm (ld r50.2 r50.1) r50.2) r50.2 fun r51 =>
 gd (yv r49.1) true (pm (abin Try.prog .eql 3 r51.1 (.d (.int .i64 0))) r51.2) r51.2 fun r52 =>
 bi (pk r49.1 r52.1 (.d (.bool false)) r52.2) fun r53 =>
 gd (yv r53.1) true (pm (ldA 6 r53.2 r1.1) r53.2) r53.2 fun r54 =>
 gd (yv r53.1) true (pm (fa 2 r2.1) r54.2) r54.2 fun r55 =>
 gd (yv r53.1) true (pm (ld r55.2 r55.1) r55.2) r55.2 fun r56 =>
 gd (yv r53.1) true (pm (fa 1 r1.1) r56.2) r56.2 fun r57 =>
 gd (yv r53.1) true (pm (ld r57.2 r57.1) r57.2) r57.2 fun r58 =>
 gd (yv r53.1) true (pm (aun .not r58.1) r58.2) r58.2 fun r59 =>
 gd (yv r53.1) true (call 76 [r54.1, r56.1, r59.1] r59.2) r59.2 fun r60 =>
 bi (pk r53.1 r60.1 (.d (.bool false)) r60.2) fun r61 =>
 rt r61.1 r61.2))

/-! #### rushlight/rushlightref13.fields -/
noncomputable def fi77 : FI := ⟨27, 0, [.tmp 2], (.seq (rgn Try.f77.body 0) (.seq (rgn Try.f77.body 1) (.seq (.seq (rgn Try.f77.body 2) (.cond (.tmp 22) (.seq (rgn Try.f77.body 3) .ret) .skip)) (.seq (rgn Try.f77.body 4) .ret))))⟩
theorem fits77 : Fits Try.prog 77 fi77 Try.f77 := ⟨by kernel_rfl, by kernel_rfl, by kernel_rfl, by kernel_rfl, by kernel_rfl⟩
set_option maxRecDepth 100000 in
noncomputable def s77 (call : ACall) (lim : Nat) (a0 : AV) (H : Heap) : Option Res :=
 bi (bldS 1 10 [.d (.bool false)] [(0, .d (.bool true)), (1, .d (.bool false)), (2, .d (.bool false)), (3, .d (.bool false)), (4, .d (.bool false)), (5, .d (.bool false)), (6, .d (.bool false)), (7, .d (.bool true)), (8, .d (.bool false)), (9, .d (.bool true))] H) fun r1 =>
 bi (bldS 1 10 [.d (.bool false)] [(0, .d (.bool true)), (1, .d (.bool true)), (2, .d (.bool false)), (3, .d (.bool false)), (4, .d (.bool false)), (5, .d (.bool false)), (6, .d (.bool false)), (7, .d (.bool false)), (8, .d (.bool false)), (9, .d (.bool true))] r1.2) fun r2 =>
 bi (bldS 1 10 [.d (.bool false)] [(0, .d (.bool true)), (1, .d (.bool true)), (2, .d (.bool true)), (3, .d (.bool true)), (4, .d (.bool false)), (5, .d (.bool false)), (6, .d (.bool false)), (7, .d (.bool false)), (8, .d (.bool false)), (9, .d (.bool true))] r2.2) fun r3 =>
 bi (bldS 1 10 [.d (.bool false)] [(0, .d (.bool true)), (1, .d (.bool true)), (2, .d (.bool false)), (3, .d (.bool true)), (4, .d (.bool false)), (5, .d (.bool false)), (6, .d (.bool false)), (7, .d (.bool false)), (8, .d (.bool false)), (9, .d (.bool true))] r3.2) fun r4 =>
 bi (bldS 1 10 [.d (.bool false)] [(0, .d (.bool true)), (1, .d (.bool true)), (2, .d (.bool false)), (3, .d (.bool false)), (4, .d (.bool false)), (5, .d (.bool true)), (6, .d (.bool true)), (7, .d (.bool false)), (8, .d (.bool false)), (9, .d (.bool true))] r4.2) fun r5 =>
 bi (bldS 1 10 [.d (.bool false)] [(0, .d (.bool false)), (1, .d (.bool true)), (2, .d (.bool true)), (3, .d (.bool false)), (4, .d (.bool false)), (5, .d (.bool true)), (6, .d (.bool true)), (7, .d (.bool false)), (8, .d (.bool false)), (9, .d (.bool true))] r5.2) fun r6 =>
 bi (bldS 1 10 [.d (.bool false)] [(0, .d (.bool true)), (1, .d (.bool false)), (2, .d (.bool false)), (3, .d (.bool false)), (4, .d (.bool true)), (5, .d (.bool true)), (6, .d (.bool false)), (7, .d (.bool false)), (8, .d (.bool false)), (9, .d (.bool true))] r6.2) fun r7 =>
 bi (bldS 1 10 [.d (.bool false)] [(0, .d (.bool true)), (1, .d (.bool false)), (2, .d (.bool false)), (3, .d (.bool false)), (4, .d (.bool true)), (5, .d (.bool true)), (6, .d (.bool false)), (7, .d (.bool false)), (8, .d (.bool false)), (9, .d (.bool true))] r7.2) fun r8 =>
 bi (bldS 1 10 [.d (.bool false)] [(0, .d (.bool true)), (1, .d (.bool false)), (2, .d (.bool false)), (3, .d (.bool false)), (4, .d (.bool true)), (5, .d (.bool false)), (6, .d (.bool false)), (7, .d (.bool false)), (8, .d (.bool true)), (9, .d (.bool true))] r8.2) fun r9 =>
 bi (bldS 1 10 [.d (.bool false)] [(0, .d (.bool false)), (1, .d (.bool true)), (2, .d (.bool false)), (3, .d (.bool false)), (4, .d (.bool false)), (5, .d (.bool false)), (6, .d (.bool false)), (7, .d (.bool false)), (8, .d (.bool false)), (9, .d (.bool false))] r9.2) fun r10 =>
 bi (bldS 1 10 [.d (.bool false)] [(0, .d (.bool true)), (1, .d (.bool false)), (2, .d (.bool false)), (3, .d (.bool false)), (4, .d (.bool false)), (5, .d (.bool false)), (6, .d (.bool false)), (7, .d (.bool false)), (8, .d (.bool false)), (9, .d (.bool true))] r10.2) fun r11 =>
 bi (bldS 1 10 [.d (.bool false)] [(0, .d (.bool false)), (1, .d (.bool false)), (2, .d (.bool false)), (3, .d (.bool false)), (4, .d (.bool false)), (5, .d (.bool false)), (6, .d (.bool false)), (7, .d (.bool false)), (8, .d (.bool false)), (9, .d (.bool false))] r11.2) fun r12 =>
 bi (bldS 1 13 [.d (.seq true 0 [])] [(0, .d (.seq true 0 [])), (1, r1.1), (2, r2.1), (3, r3.1), (4, r4.1), (5, r5.1), (6, r6.1), (7, r7.1), (8, r8.1), (9, r9.1), (10, r10.1), (11, r11.1), (12, r12.1)] r12.2) fun r13 =>
 pu (abin Try.prog .lss 3 a0 (.d (.int .i64 1))) r13.2 fun r14 =>
 gd (yv r14.1) false (some (a0, r14.2)) r14.2 fun r15 =>
 gd (yv r14.1) false (pm (abin Try.prog .gtr 3 r15.1 (.d (.int .i64 12))) r15.2) r15.2 fun r16 =>
 bi (pk r14.1 (.d (.bool true)) r16.1 r16.2) fun r17 =>
 cn (asB r17.1)
 (rt (.d (.seq true 0 [])) r17.2)
 (pu (ixS 1 r13.1 a0) r17.2 fun r18 =>
 pu (ld r18.2 r18.1) r18.2 fun r19 =>
 rt r19.1 r19.2)

/-! #### rushlight/rushlightref13.Ins -/
noncomputable def fi67 : FI := ⟨272, 0, [.tmp 6], (.seq (rgn Try.f67.body 0) (.seq (rgn Try.f67.body 1) (.seq (.seq (rgn Try.f67.body 2) (.cond (.tmp 14) (.seq (rgn Try.f67.body 3) .ret) .skip)) (.seq (.seq (rgn Try.f67.body 4) (.cond (.tmp 89) (.seq (rgn Try.f67.body 5) .ret) .skip)) (.seq (.seq (rgn Try.f67.body 6) (.cond (.tmp 92) (.seq (.seq (rgn Try.f67.body 7) (.cond (.tmp 131) (.seq (rgn Try.f67.body 8) .ret) .skip)) (.seq (.seq (rgn Try.f67.body 9) (.block 0 (.loop ⟨[4, 5, 8], some [6], [(0, [5])]⟩ (.seq (.seq (rgn Try.f67.body 10) (.cond (.tmp 136) .skip (.exit 0))) (.seq (.block 1 (.seq (rgn Try.f67.body 12) (.cond (.tmp 146) (.seq (rgn Try.f67.body 13) .ret) .skip))) (rgn Try.f67.body 11)))))) (.seq (rgn Try.f67.body 14) .ret))) .skip)) (.seq (.seq (rgn Try.f67.body 15) (.cond (.tmp 192) (.seq (rgn Try.f67.body 16) .ret) .skip)) (.seq (.seq (rgn Try.f67.body 17) (.cond (.tmp 220) (.seq (rgn Try.f67.body 18) .ret) .skip)) (.seq (.seq (rgn Try.f67.body 19) (.cond (.tmp 243) (.seq (rgn Try.f67.body 20) .ret) .skip)) (.seq (.seq (rgn Try.f67.body 21) (.cond (.tmp 246) (.seq (rgn Try.f67.body 22) .ret) .skip)) (.seq (.seq (rgn Try.f67.body 23) (.cond (.tmp 260) (.seq (rgn Try.f67.body 24) .ret) .skip)) (.seq (rgn Try.f67.body 25) .ret)))))))))))⟩
theorem fits67 : Fits Try.prog 67 fi67 Try.f67 := ⟨by kernel_rfl, by kernel_rfl, by kernel_rfl, by kernel_rfl, by kernel_rfl⟩
set_option maxRecDepth 100000 in
/-- A round: what is kept: [4, 5, 8]. -/
noncomputable def s67.l0 (call : ACall) (lim : Nat) (v115 : List AV) (h116 : Heap) : Option Res :=
 pu (fa 9 (v115.getD 1 .junk)) h116 fun r117 =>
 pu (ld r117.2 r117.1) r117.2 fun r118 =>
 pu (lnS r118.1) r118.2 fun r119 =>
 pu (abin Try.prog .lss 3 (v115.getD 2 .junk) r119.1) r119.2 fun r120 =>
 cn (asB r120.1)
 (pu (ldA 6 r120.2 (v115.getD 0 .junk)) r120.2 fun r121 =>
 pu (fa 9 (v115.getD 1 .junk)) r121.2 fun r122 =>
 pu (ld r122.2 r122.1) r122.2 fun r123 =>
 pu (ixS 1 r123.1 (v115.getD 2 .junk)) r123.2 fun r124 =>
 pu (ld r124.2 r124.1) r124.2 fun r125 =>
 bi (call 76 [r121.1, r125.1, .d (.bool true)] r125.2) fun r126 =>
 pu (aun .not r126.1) r126.2 fun r127 =>
 cn (asB r127.1)
 (some (.ret, [.d (.bool false)], r127.2))
 (pu (abin Try.prog .add 3 (v115.getD 2 .junk) (.d (.int .i64 1))) r127.2 fun r128 =>
 some (.normal, [(v115.getD 0 .junk), (v115.getD 1 .junk), r128.1], r128.2)))
 (some (.exit 0, [(v115.getD 1 .junk)], r120.2))
set_option maxRecDepth 100000 in
noncomputable def s67 (call : ACall) (lim : Nat) (a0 a1 a2 : AV) (H : Heap) : Option Res :=
 bi (bx a0 H) fun r1 =>
 bi (bx a1 r1.2) fun r2 =>
 bi (bx a2 r2.2) fun r3 =>
 pu (fa 0 r3.1) r3.2 fun r4 =>
 pu (ld r4.2 r4.1) r4.2 fun r5 =>
 bi (call 77 [r5.1] r5.2) fun r6 =>
 pu (lnS r6.1) r6.2 fun r7 =>
 pu (abin Try.prog .eql 3 r7.1 (.d (.int .i64 0))) r7.2 fun r8 =>
 cn (asB r8.1)
 (rt (.d (.bool false)) r8.2)
 (pu (ixS 1 r6.1 (.d (.int .i64 3))) r8.2 fun r9 =>
 pu (ld r9.2 r9.1) r9.2 fun r10 =>
 pu (aun .not r10.1) r10.2 fun r11 =>
 gd (yv r11.1) true (pm (fa 4 r3.1) r11.2) r11.2 fun r12 =>
 gd (yv r11.1) true (pm (ld r12.2 r12.1) r12.2) r12.2 fun r13 =>
 gd (yv r11.1) true (pm (abin Try.prog .neq 3 r13.1 (.d (.int .i64 0))) r13.2) r13.2 fun r14 =>
 bi (pk r11.1 r14.1 (.d (.bool false)) r14.2) fun r15 =>
 gd (yv r15.1) false (some (r6.1, r15.2)) r15.2 fun r16 =>
 gd (yv r15.1) false (pm (ixS 1 r16.1 (.d (.int .i64 4))) r16.2) r16.2 fun r17 =>
 gd (yv r15.1) false (pm (ld r17.2 r17.1) r17.2) r17.2 fun r18 =>
 gd (yv r15.1) false (pm (aun .not r18.1) r18.2) r18.2 fun r19 =>
 gd (yv r15.1) false (some (r19.1, r19.2)) r19.2 fun r20 =>
 gd (yv r20.1) true (pm (fa 5 r3.1) r20.2) r20.2 fun r21 =>
 gd (yv r20.1) true (pm (ld r21.2 r21.1) r21.2) r21.2 fun r22 =>
 gd (yv r20.1) true (pm (abin Try.prog .neq 3 r22.1 (.d (.int .i64 0))) r22.2) r22.2 fun r23 =>
 gd (yv r15.1) false (pk r20.1 r23.1 (.d (.bool false)) r23.2) r23.2 fun r24 =>
 bi (pk r15.1 (.d (.bool true)) r24.1 r24.2) fun r25 =>
 gd (yv r25.1) false (some (r6.1, r25.2)) r25.2 fun r26 =>
 gd (yv r25.1) false (pm (ixS 1 r26.1 (.d (.int .i64 5))) r26.2) r26.2 fun r27 =>
 gd (yv r25.1) false (pm (ld r27.2 r27.1) r27.2) r27.2 fun r28 =>
 gd (yv r25.1) false (pm (aun .not r28.1) r28.2) r28.2 fun r29 =>
 gd (yv r25.1) false (some (r29.1, r29.2)) r29.2 fun r30 =>
 gd (yv r30.1) true (pm (fa 6 r3.1) r30.2) r30.2 fun r31 =>
 gd (yv r30.1) true (pm (ld r31.2 r31.1) r31.2) r31.2 fun r32 =>
 gd (yv r30.1) true (pm (abin Try.prog .neq 3 r32.1 (.d (.int .i64 0))) r32.2) r32.2 fun r33 =>
 gd (yv r25.1) false (pk r30.1 r33.1 (.d (.bool false)) r33.2) r33.2 fun r34 =>
 bi (pk r25.1 (.d (.bool true)) r34.1 r34.2) fun r35 =>
 gd (yv r35.1) false (some (r6.1, r35.2)) r35.2 fun r36 =>
 gd (yv r35.1) false (pm (ixS 1 r36.1 (.d (.int .i64 6))) r36.2) r36.2 fun r37 =>
 gd (yv r35.1) false (pm (ld r37.2 r37.1) r37.2) r37.2 fun r38 =>
 gd (yv r35.1) false (pm (aun .not r38.1) r38.2) r38.2 fun r39 =>
 gd (yv r35.1) false (some (r39.1, r39.2)) r39.2 fun r40 =>
 gd (yv r40.1) true (pm (fa 7 r3.1) r40.2) r40.2 fun r41 =>
 gd (yv r40.1) true (pm (ld r41.2 r41.1) r41.2) r41.2 fun r42 =>
 gd (yv r40.1) true (pm (abin Try.prog .neq 3 r42.1 (.d (.int .i64 0))) r42.2) r42.2 fun r43 =>
 gd (yv r35.1) false (pk r40.1 r43.1 (.d (.bool false)) r43.2) r43.2 fun r44 =>
 bi (pk r35.1 (.d (.bool true)) r44.1 r44.2) fun r45 =>
 gd (yv r45.1) false (some (r6.1, r45.2)) r45.2 fun r46 =>
 gd (yv r45.1) false (pm (ixS 1 r46.1 (.d (.int .i64 7))) r46.2) r46.2 fun r47 =>
 gd (yv r45.1) false (pm (ld r47.2 r47.1) r47.2) r47.2 fun r48 =>
 gd (yv r45.1) false (pm (aun .not r48.1) r48.2) r48.2 fun r49 =>
 gd (yv r45.1) false (some (r49.1, r49.2)) r49.2 fun r50 =>
 gd (yv r50.1) true (pm (fa 8 r3.1) r50.2) r50.2 fun r51 =>
 gd (yv r50.1) true (pm (ld r51.2 r51.1) r51.2) r51.2 fun r52 =>
 gd (yv r50.1) true (pm (abin Try.prog .neq 31 r52.1 (.d (.int .u32 0))) r52.2) r52.2 fun r53 =>
 gd (yv r45.1) false (pk r50.1 r53.1 (.d (.bool false)) r53.2) r53.2 fun r54 =>
 bi (pk r45.1 (.d (.bool true)) r54.1 r54.2) fun r55 =>
 gd (yv r55.1) false (some (r6.1, r55.2)) r55.2 fun r56 =>
 gd (yv r55.1) false (pm (ixS 1 r56.1 (.d (.int .i64 8))) r56.2) r56.2 fun r57 =>
 gd (yv r55.1) false (pm (ld r57.2 r57.1) r57.2) r57.2 fun r58 =>
 gd (yv r55.1) false (pm (aun .not r58.1) r58.2) r58.2 fun r59 =>
 gd (yv r55.1) false (some (r59.1, r59.2)) r59.2 fun r60 =>
 gd (yv r60.1) true (pm (fa 9 r3.1) r60.2) r60.2 fun r61 =>
 gd (yv r60.1) true (pm (ld r61.2 r61.1) r61.2) r61.2 fun r62 =>
 gd (yv r60.1) true (pm (lnS r62.1) r62.2) r62.2 fun r63 =>
 gd (yv r60.1) true (pm (abin Try.prog .gtr 3 r63.1 (.d (.int .i64 0))) r63.2) r63.2 fun r64 =>
 gd (yv r55.1) false (pk r60.1 r64.1 (.d (.bool false)) r64.2) r64.2 fun r65 =>
 bi (pk r55.1 (.d (.bool true)) r65.1 r65.2) fun r66 =>
 gd (yv r66.1) false (some (r6.1, r66.2)) r66.2 fun r67 =>
 gd (yv r66.1) false (pm (ixS 1 r67.1 (.d (.int .i64 9))) r67.2) r67.2 fun r68 =>
 gd (yv r66.1) false (pm (ld r68.2 r68.1) r68.2) r68.2 fun r69 =>
 gd (yv r66.1) false (pm (aun .not r69.1) r69.2) r69.2 fun r70 =>
 gd (yv r66.1) false (some (r70.1, r70.2)) r70.2 fun r71 =>
 gd (yv r71.1) true (pm (fa 10 r3.1) r71.2) r71.2 fun r72 =>
 gd (yv r71.1) true (pm (ld r72.2 r72.1) r72.2) r72.2 fun r73 =>
 gd (yv r66.1) false (pk r71.1 r73.1 (.d (.bool false)) r73.2) r73.2 fun r74 =>
 bi (pk r66.1 (.d (.bool true)) r74.1 r74.2) fun r75 =>
 cn (asB r75.1)
 (rt (.d (.bool false)) r75.2)
 (pu (fa 0 r3.1) r75.2 fun r76 =>
 pu (ld r76.2 r76.1) r76.2 fun r77 =>
 pu (abin Try.prog .eql 3 r77.1 (.d (.int .i64 9))) r77.2 fun r78 =>
 cn (asB r78.1)
 (pu (fa 5 r3.1) r78.2 fun r79 =>
 pu (ld r79.2 r79.1) r79.2 fun r80 =>
 pu (abin Try.prog .lss 3 r80.1 (.d (.int .i64 0))) r80.2 fun r81 =>
 gd (yv r81.1) false (pm (fa 5 r3.1) r81.2) r81.2 fun r82 =>
 gd (yv r81.1) false (pm (ld r82.2 r82.1) r82.2) r82.2 fun r83 =>
 gd (yv r81.1) false (pm (fa 2 r1.1) r83.2) r83.2 fun r84 =>
 gd (yv r81.1) false (pm (ld r84.2 r84.1) r84.2) r84.2 fun r85 =>
 gd (yv r81.1) false (pm (lnS r85.1) r85.2) r85.2 fun r86 =>
 gd (yv r81.1) false (pm (abin Try.prog .geq 3 r83.1 r86.1) r86.2) r86.2 fun r87 =>
 bi (pk r81.1 (.d (.bool true)) r87.1 r87.2) fun r88 =>
 gd (yv r88.1) false (pm (fa 9 r3.1) r88.2) r88.2 fun r89 =>
 gd (yv r88.1) false (pm (ld r89.2 r89.1) r89.2) r89.2 fun r90 =>
 gd (yv r88.1) false (pm (lnS r90.1) r90.2) r90.2 fun r91 =>
 gd (yv r88.1) false (pm (fa 2 r1.1) r91.2) r91.2 fun r92 =>
 gd (yv r88.1) false (pm (ld r92.2 r92.1) r92.2) r92.2 fun r93 =>
 gd (yv r88.1) false (pm (fa 5 r3.1) r93.2) r93.2 fun r94 =>
 gd (yv r88.1) false (pm (ld r94.2 r94.1) r94.2) r94.2 fun r95 =>
 gd (yv r88.1) false (pm (ixS 6 r93.1 r95.1) r95.2) r95.2 fun r96 =>
 gd (yv r88.1) false (pm (fa 2 r96.1) r96.2) r96.2 fun r97 =>
 gd (yv r88.1) false (pm (ld r97.2 r97.1) r97.2) r97.2 fun r98 =>
 gd (yv r88.1) false (pm (abin Try.prog .neq 3 r91.1 r98.1) r98.2) r98.2 fun r99 =>
 bi (pk r88.1 (.d (.bool true)) r99.1 r99.2) fun r100 =>
 gd (yv r100.1) false (pm (ldA 6 r100.2 r2.1) r100.2) r100.2 fun r101 =>
 gd (yv r100.1) false (pm (fa 1 r3.1) r101.2) r101.2 fun r102 =>
 gd (yv r100.1) false (pm (ld r102.2 r102.1) r102.2) r102.2 fun r103 =>
 gd (yv r100.1) false (pm (fa 2 r1.1) r103.2) r103.2 fun r104 =>
 gd (yv r100.1) false (pm (ld r104.2 r104.1) r104.2) r104.2 fun r105 =>
 gd (yv r100.1) false (pm (fa 5 r3.1) r105.2) r105.2 fun r106 =>
 gd (yv r100.1) false (pm (ld r106.2 r106.1) r106.2) r106.2 fun r107 =>
 gd (yv r100.1) false (pm (ixS 6 r105.1 r107.1) r107.2) r107.2 fun r108 =>
 gd (yv r100.1) false (pm (fa 1 r108.1) r108.2) r108.2 fun r109 =>
 gd (yv r100.1) false (pm (ld r109.2 r109.1) r109.2) r109.2 fun r110 =>
 gd (yv r100.1) false (pm (aun .not r110.1) r110.2) r110.2 fun r111 =>
 gd (yv r100.1) false (call 76 [r101.1, r103.1, r111.1] r111.2) r111.2 fun r112 =>
 gd (yv r100.1) false (pm (aun .not r112.1) r112.2) r112.2 fun r113 =>
 bi (pk r100.1 (.d (.bool true)) r113.1 r113.2) fun r114 =>
 cn (asB r114.1)
 (rt (.d (.bool false)) r114.2)
 (lp (s67.l0 call lim) [r2.1, r3.1, .d (.int .i64 0)] r114.2 fun j129 =>
 dsp j129.1 none (rt (gv j129 0) j129.2.2) [(0, pu (fa 2 (gv j129 0)) j129.2.2 fun r130 =>
 pu (ld r130.2 r130.1) r130.2 fun r131 =>
 pu (abin Try.prog .eql 3 r131.1 (.d (.int .i64 (-1)))) r131.2 fun r132 =>
 gd (yv r132.1) true (pm (fa 3 (gv j129 0)) r132.2) r132.2 fun r133 =>
 gd (yv r132.1) true (pm (ld r133.2 r133.1) r133.2) r133.2 fun r134 =>
 gd (yv r132.1) true (pm (abin Try.prog .eql 3 r134.1 (.d (.int .i64 (-1)))) r134.2) r134.2 fun r135 =>
 bi (pk r132.1 r135.1 (.d (.bool false)) r135.2) fun r136 =>
 gd (yv r136.1) true (pm (fa 10 (gv j129 0)) r136.2) r136.2 fun r137 =>
 gd (yv r136.1) true (pm (ld r137.2 r137.1) r137.2) r137.2 fun r138 =>
 gd (yv r136.1) true (pm (aun .not r138.1) r138.2) r138.2 fun r139 =>
 gd (yv r136.1) true (some (r139.1, r139.2)) r139.2 fun r140 =>
 gd (yv r140.1) false (pm (fa 1 (gv j129 0)) r140.2) r140.2 fun r141 =>
 gd (yv r140.1) false (pm (ld r141.2 r141.1) r141.2) r141.2 fun r142 =>
 gd (yv r140.1) false (pm (abin Try.prog .neq 3 r142.1 (.d (.int .i64 (-1)))) r142.2) r142.2 fun r143 =>
 gd (yv r136.1) true (pk r140.1 (.d (.bool true)) r143.1 r143.2) r143.2 fun r144 =>
 bi (pk r136.1 r144.1 (.d (.bool false)) r144.2) fun r145 =>
 rt r145.1 r145.2)]))
 (pu (ldA 6 r78.2 r2.1) r78.2 fun r146 =>
 pu (fa 1 r3.1) r146.2 fun r147 =>
 pu (ld r147.2 r147.1) r147.2 fun r148 =>
 pu (ixS 1 r6.1 (.d (.int .i64 0))) r148.2 fun r149 =>
 pu (ld r149.2 r149.1) r149.2 fun r150 =>
 bi (call 76 [r146.1, r148.1, r150.1] r150.2) fun r151 =>
 pu (aun .not r151.1) r151.2 fun r152 =>
 gd (yv r152.1) false (pm (ldA 6 r152.2 r2.1) r152.2) r152.2 fun r153 =>
 gd (yv r152.1) false (pm (fa 2 r3.1) r153.2) r153.2 fun r154 =>
 gd (yv r152.1) false (pm (ld r154.2 r154.1) r154.2) r154.2 fun r155 =>
 gd (yv r152.1) false (some (r6.1, r155.2)) r155.2 fun r156 =>
 gd (yv r152.1) false (pm (ixS 1 r156.1 (.d (.int .i64 1))) r156.2) r156.2 fun r157 =>
 gd (yv r152.1) false (pm (ld r157.2 r157.1) r157.2) r157.2 fun r158 =>
 gd (yv r152.1) false (call 76 [r153.1, r155.1, r158.1] r158.2) r158.2 fun r159 =>
 gd (yv r152.1) false (pm (aun .not r159.1) r159.2) r159.2 fun r160 =>
 bi (pk r152.1 (.d (.bool true)) r160.1 r160.2) fun r161 =>
 gd (yv r161.1) false (pm (ldA 6 r161.2 r2.1) r161.2) r161.2 fun r162 =>
 gd (yv r161.1) false (pm (fa 3 r3.1) r162.2) r162.2 fun r163 =>
 gd (yv r161.1) false (pm (ld r163.2 r163.1) r163.2) r163.2 fun r164 =>
 gd (yv r161.1) false (some (r6.1, r164.2)) r164.2 fun r165 =>
 gd (yv r161.1) false (pm (ixS 1 r165.1 (.d (.int .i64 2))) r165.2) r165.2 fun r166 =>
 gd (yv r161.1) false (pm (ld r166.2 r166.1) r166.2) r166.2 fun r167 =>
 gd (yv r161.1) false (call 76 [r162.1, r164.1, r167.1] r167.2) r167.2 fun r168 =>
 gd (yv r161.1) false (pm (aun .not r168.1) r168.2) r168.2 fun r169 =>
 bi (pk r161.1 (.d (.bool true)) r169.1 r169.2) fun r170 =>
 cn (asB r170.1)
 (rt (.d (.bool false)) r170.2)
 (pu (fa 0 r3.1) r170.2 fun r171 =>
 pu (ld r171.2 r171.1) r171.2 fun r172 =>
 pu (abin Try.prog .eql 3 r172.1 (.d (.int .i64 3))) r172.2 fun r173 =>
 gd (yv r173.1) true (pm (fa 4 r3.1) r173.2) r173.2 fun r174 =>
 gd (yv r173.1) true (pm (ld r174.2 r174.1) r174.2) r174.2 fun r175 =>
 gd (yv r173.1) true (pm (abin Try.prog .lss 3 r175.1 (.d (.int .i64 1))) r175.2) r175.2 fun r176 =>
 gd (yv r173.1) true (some (r176.1, r176.2)) r176.2 fun r177 =>
 gd (yv r177.1) false (pm (fa 4 r3.1) r177.2) r177.2 fun r178 =>
 gd (yv r177.1) false (pm (ld r178.2 r178.1) r178.2) r178.2 fun r179 =>
 gd (yv r177.1) false (pm (abin Try.prog .gtr 3 r179.1 (.d (.int .i64 16))) r179.2) r179.2 fun r180 =>
 gd (yv r173.1) true (pk r177.1 (.d (.bool true)) r180.1 r180.2) r180.2 fun r181 =>
 bi (pk r173.1 r181.1 (.d (.bool false)) r181.2) fun r182 =>
 gd (yv r182.1) false (pm (fa 0 r3.1) r182.2) r182.2 fun r183 =>
 gd (yv r182.1) false (pm (ld r183.2 r183.1) r183.2) r183.2 fun r184 =>
 gd (yv r182.1) false (pm (abin Try.prog .eql 3 r184.1 (.d (.int .i64 4))) r184.2) r184.2 fun r185 =>
 gd (yv r182.1) false (some (r185.1, r185.2)) r185.2 fun r186 =>
 gd (yv r186.1) true (pm (fa 4 r3.1) r186.2) r186.2 fun r187 =>
 gd (yv r186.1) true (pm (ld r187.2 r187.1) r187.2) r187.2 fun r188 =>
 gd (yv r186.1) true (pm (abin Try.prog .lss 3 r188.1 (.d (.int .i64 17))) r188.2) r188.2 fun r189 =>
 gd (yv r186.1) true (some (r189.1, r189.2)) r189.2 fun r190 =>
 gd (yv r190.1) false (pm (fa 4 r3.1) r190.2) r190.2 fun r191 =>
 gd (yv r190.1) false (pm (ld r191.2 r191.1) r191.2) r191.2 fun r192 =>
 gd (yv r190.1) false (pm (abin Try.prog .gtr 3 r192.1 (.d (.int .i64 19))) r192.2) r192.2 fun r193 =>
 gd (yv r186.1) true (pk r190.1 (.d (.bool true)) r193.1 r193.2) r193.2 fun r194 =>
 gd (yv r182.1) false (pk r186.1 r194.1 (.d (.bool false)) r194.2) r194.2 fun r195 =>
 bi (pk r182.1 (.d (.bool true)) r195.1 r195.2) fun r196 =>
 cn (asB r196.1)
 (rt (.d (.bool false)) r196.2)
 (pu (ixS 1 r6.1 (.d (.int .i64 6))) r196.2 fun r197 =>
 pu (ld r197.2 r197.1) r197.2 fun r198 =>
 gd (yv r198.1) true (pm (fa 7 r3.1) r198.2) r198.2 fun r199 =>
 gd (yv r198.1) true (pm (ld r199.2 r199.1) r199.2) r199.2 fun r200 =>
 gd (yv r198.1) true (pm (abin Try.prog .neq 3 r200.1 (.d (.int .i64 1))) r200.2) r200.2 fun r201 =>
 bi (pk r198.1 r201.1 (.d (.bool false)) r201.2) fun r202 =>
 gd (yv r202.1) true (pm (fa 7 r3.1) r202.2) r202.2 fun r203 =>
 gd (yv r202.1) true (pm (ld r203.2 r203.1) r203.2) r203.2 fun r204 =>
 gd (yv r202.1) true (pm (abin Try.prog .neq 3 r204.1 (.d (.int .i64 4))) r204.2) r204.2 fun r205 =>
 bi (pk r202.1 r205.1 (.d (.bool false)) r205.2) fun r206 =>
 gd (yv r206.1) false (pm (fa 6 r3.1) r206.2) r206.2 fun r207 =>
 gd (yv r206.1) false (pm (ld r207.2 r207.1) r207.2) r207.2 fun r208 =>
 gd (yv r206.1) false (pm (abin Try.prog .lss 3 r208.1 (.d (.int .i64 (-32768)))) r208.2) r208.2 fun r209 =>
 bi (pk r206.1 (.d (.bool true)) r209.1 r209.2) fun r210 =>
 gd (yv r210.1) false (pm (fa 6 r3.1) r210.2) r210.2 fun r211 =>
 gd (yv r210.1) false (pm (ld r211.2 r211.1) r211.2) r211.2 fun r212 =>
 gd (yv r210.1) false (pm (abin Try.prog .gtr 3 r212.1 (.d (.int .i64 32768))) r212.2) r212.2 fun r213 =>
 bi (pk r210.1 (.d (.bool true)) r213.1 r213.2) fun r214 =>
 cn (asB r214.1)
 (rt (.d (.bool false)) r214.2)
 (pu (fa 0 r3.1) r214.2 fun r215 =>
 pu (ld r215.2 r215.1) r215.2 fun r216 =>
 pu (abin Try.prog .eql 3 r216.1 (.d (.int .i64 7))) r216.2 fun r217 =>
 cn (asB r217.1)
 (pu (fa 5 r3.1) r217.2 fun r218 =>
 pu (ld r218.2 r218.1) r218.2 fun r219 =>
 pu (abin Try.prog .geq 3 r219.1 (.d (.int .i64 0))) r219.2 fun r220 =>
 gd (yv r220.1) true (pm (fa 5 r3.1) r220.2) r220.2 fun r221 =>
 gd (yv r220.1) true (pm (ld r221.2 r221.1) r221.2) r221.2 fun r222 =>
 gd (yv r220.1) true (pm (fa 4 r2.1) r222.2) r222.2 fun r223 =>
 gd (yv r220.1) true (pm (ld r223.2 r223.1) r223.2) r223.2 fun r224 =>
 gd (yv r220.1) true (pm (lnS r224.1) r224.2) r224.2 fun r225 =>
 gd (yv r220.1) true (pm (abin Try.prog .lss 3 r222.1 r225.1) r225.2) r225.2 fun r226 =>
 bi (pk r220.1 r226.1 (.d (.bool false)) r226.2) fun r227 =>
 rt r227.1 r227.2)
 (pu (fa 0 r3.1) r217.2 fun r228 =>
 pu (ld r228.2 r228.1) r228.2 fun r229 =>
 pu (abin Try.prog .eql 3 r229.1 (.d (.int .i64 8))) r229.2 fun r230 =>
 cn (asB r230.1)
 (pu (fa 5 r3.1) r230.2 fun r231 =>
 pu (ld r231.2 r231.1) r231.2 fun r232 =>
 pu (abin Try.prog .geq 3 r232.1 (.d (.int .i64 0))) r232.2 fun r233 =>
 gd (yv r233.1) true (pm (fa 5 r3.1) r233.2) r233.2 fun r234 =>
 gd (yv r233.1) true (pm (ld r234.2 r234.1) r234.2) r234.2 fun r235 =>
 gd (yv r233.1) true (pm (fa 0 r1.1) r235.2) r235.2 fun r236 =>
 gd (yv r233.1) true (pm (ld r236.2 r236.1) r236.2) r236.2 fun r237 =>
 gd (yv r233.1) true (pm (lnS r237.1) r237.2) r237.2 fun r238 =>
 gd (yv r233.1) true (pm (abin Try.prog .lss 3 r235.1 r238.1) r238.2) r238.2 fun r239 =>
 bi (pk r233.1 r239.1 (.d (.bool false)) r239.2) fun r240 =>
 rt r240.1 r240.2)
 (rt (.d (.bool true)) r230.2))))))))

/-! #### rushlight/rushlightref13.Proc -/
noncomputable def fi44 : FI := ⟨111, 0, [.tmp 4], (.seq (rgn Try.f44.body 0) (.seq (.seq (rgn Try.f44.body 1) (.cond (.tmp 17) (.seq (rgn Try.f44.body 2) .ret) .skip)) (.seq (rgn Try.f44.body 3) (.seq (.seq (rgn Try.f44.body 4) (.cond (.tmp 60) (.seq (rgn Try.f44.body 5) .ret) .skip)) (.seq (rgn Try.f44.body 6) (.seq (.seq (rgn Try.f44.body 7) (.block 0 (.loop ⟨[2, 5, 6, 7], some [4], [(0, [6])]⟩ (.seq (.seq (rgn Try.f44.body 8) (.cond (.tmp 65) .skip (.exit 0))) (.seq (.block 1 (.seq (rgn Try.f44.body 10) (.seq (.seq (rgn Try.f44.body 11) (.cond (.tmp 84) (.seq (rgn Try.f44.body 12) .ret) .skip)) (.seq (rgn Try.f44.body 13) (.block 2 (.loop ⟨[2, 5, 6, 7, 8], some [4], [(2, [2, 5, 6, 7])]⟩ (.seq (.seq (rgn Try.f44.body 14) (.cond (.tmp 93) .skip (.exit 2))) (.seq (.block 3 (.seq (rgn Try.f44.body 16) (.cond (.tmp 108) (.seq (rgn Try.f44.body 17) .ret) .skip))) (rgn Try.f44.body 15))))))))) (rgn Try.f44.body 9)))))) (.seq (.seq (rgn Try.f44.body 18) (.cond (.tmp 110) (.seq (rgn Try.f44.body 19) .ret) .skip)) (.seq (rgn Try.f44.body 20) .ret))))))))⟩
theorem fits44 : Fits Try.prog 44 fi44 Try.f44 := ⟨by kernel_rfl, by kernel_rfl, by kernel_rfl, by kernel_rfl, by kernel_rfl⟩
set_option maxRecDepth 100000 in
/-- A round: what is kept: [2, 5, 6, 7, 8]. -/
noncomputable def s44.l0 (call : ACall) (lim : Nat) (v67 : List AV) (h68 : Heap) : Option Res :=
 pu (fa 5 (v67.getD 1 .junk)) h68 fun r69 =>
 pu (ld r69.2 r69.1) r69.2 fun r70 =>
 pu (ixS 5 r70.1 (v67.getD 3 .junk)) r70.2 fun r71 =>
 pu (fa 0 r71.1) r71.2 fun r72 =>
 pu (ld r72.2 r72.1) r72.2 fun r73 =>
 pu (lnS r73.1) r73.2 fun r74 =>
 pu (abin Try.prog .lss 3 (v67.getD 4 .junk) r74.1) r74.2 fun r75 =>
 cn (asB r75.1)
 (pu (ldA 4 r75.2 (v67.getD 0 .junk)) r75.2 fun r76 =>
 pu (ldA 6 r76.2 (v67.getD 1 .junk)) r76.2 fun r77 =>
 pu (fa 5 (v67.getD 1 .junk)) r77.2 fun r78 =>
 pu (ld r78.2 r78.1) r78.2 fun r79 =>
 pu (ixS 5 r79.1 (v67.getD 3 .junk)) r79.2 fun r80 =>
 pu (fa 0 r80.1) r80.2 fun r81 =>
 pu (ld r81.2 r81.1) r81.2 fun r82 =>
 pu (ixS 11 r82.1 (v67.getD 4 .junk)) r82.2 fun r83 =>
 pu (ldA 11 r83.2 r83.1) r83.2 fun r84 =>
 bi (call 67 [r76.1, r77.1, r84.1] r84.2) fun r85 =>
 pu (aun .not r85.1) r85.2 fun r86 =>
 cn (asB r86.1)
 (some (.ret, [.d (.int .i64 3)], r86.2))
 (pu (abin Try.prog .add 3 (v67.getD 4 .junk) (.d (.int .i64 1))) r86.2 fun r87 =>
 some (.normal, [(v67.getD 0 .junk), (v67.getD 1 .junk), (v67.getD 2 .junk), (v67.getD 3 .junk), r87.1], r87.2)))
 (some (.exit 2, [(v67.getD 0 .junk), (v67.getD 1 .junk), (v67.getD 2 .junk), (v67.getD 3 .junk)], r75.2))
set_option maxRecDepth 100000 in
/-- A round: what is kept: [2, 5, 6, 7]. -/
noncomputable def s44.l1 (call : ACall) (lim : Nat) (v47 : List AV) (h48 : Heap) : Option Res :=
 pu (fa 5 (v47.getD 1 .junk)) h48 fun r49 =>
 pu (ld r49.2 r49.1) r49.2 fun r50 =>
 pu (lnS r50.1) r50.2 fun r51 =>
 pu (abin Try.prog .lss 3 (v47.getD 3 .junk) r51.1) r51.2 fun r52 =>
 cn (asB r52.1)
 (pu (fa 5 (v47.getD 1 .junk)) r52.2 fun r53 =>
 pu (ld r53.2 r53.1) r53.2 fun r54 =>
 pu (ixS 5 r54.1 (v47.getD 3 .junk)) r54.2 fun r55 =>
 pu (fa 0 r55.1) r55.2 fun r56 =>
 pu (ld r56.2 r56.1) r56.2 fun r57 =>
 pu (lnS r57.1) r57.2 fun r58 =>
 pu (abin Try.prog .add 3 (v47.getD 2 .junk) r58.1) r58.2 fun r59 =>
 pu (ldA 6 r59.2 (v47.getD 1 .junk)) r59.2 fun r60 =>
 pu (fa 5 (v47.getD 1 .junk)) r60.2 fun r61 =>
 pu (ld r61.2 r61.1) r61.2 fun r62 =>
 pu (ixS 5 r62.1 (v47.getD 3 .junk)) r62.2 fun r63 =>
 pu (ldA 5 r63.2 r63.1) r63.2 fun r64 =>
 bi (call 66 [r60.1, r64.1] r64.2) fun r65 =>
 pu (aun .not r65.1) r65.2 fun r66 =>
 cn (asB r66.1)
 (some (.ret, [.d (.int .i64 3)], r66.2))
 (lp (s44.l0 call lim) [(v47.getD 0 .junk), (v47.getD 1 .junk), r59.1, (v47.getD 3 .junk), .d (.int .i64 0)] r66.2 fun j88 =>
 dsp j88.1 none (some (.ret, [(gv j88 0)], j88.2.2)) [(2, pu (abin Try.prog .add 3 (gv j88 3) (.d (.int .i64 1))) j88.2.2 fun r89 =>
 some (.normal, [(gv j88 0), (gv j88 1), (gv j88 2), r89.1], r89.2))]))
 (some (.exit 0, [(v47.getD 2 .junk)], r52.2))
set_option maxRecDepth 100000 in
noncomputable def s44 (call : ACall) (lim : Nat) (a0 a1 : AV) (H : Heap) : Option Res :=
 bi (bx a0 H) fun r1 =>
 pu (abin Try.prog .lss 3 a1 (.d (.int .i64 0))) r1.2 fun r2 =>
 gd (yv r2.1) false (some (a1, r2.2)) r2.2 fun r3 =>
 gd (yv r2.1) false (pm (fa 2 r1.1) r3.2) r3.2 fun r4 =>
 gd (yv r2.1) false (pm (ld r4.2 r4.1) r4.2) r4.2 fun r5 =>
 gd (yv r2.1) false (pm (lnS r5.1) r5.2) r5.2 fun r6 =>
 gd (yv r2.1) false (pm (abin Try.prog .geq 3 r3.1 r6.1) r6.2) r6.2 fun r7 =>
 bi (pk r2.1 (.d (.bool true)) r7.1 r7.2) fun r8 =>
 cn (asB r8.1)
 (rt (.d (.int .i64 4)) r8.2)
 (pu (fa 2 r1.1) r8.2 fun r9 =>
 pu (ld r9.2 r9.1) r9.2 fun r10 =>
 pu (ixS 6 r10.1 a1) r10.2 fun r11 =>
 pu (ldA 6 r11.2 r11.1) r11.2 fun r12 =>
 bi (al [.d (.str ⟨#[]⟩), .d (.bool false), .d (.int .i64 0), .d (.int .i64 0), .d (.seq true 0 []), .d (.seq true 0 [])] r12.2) fun r13 =>
 bi (stA 6 lim r13.2 r13.1 r12.1) fun r14 =>
 pu (fa 2 r13.1) r14.2 fun r15 =>
 pu (ld r15.2 r15.1) r15.2 fun r16 =>
 pu (abin Try.prog .lss 3 r16.1 (.d (.int .i64 0))) r16.2 fun r17 =>
 gd (yv r17.1) false (pm (fa 2 r13.1) r17.2) r17.2 fun r18 =>
 gd (yv r17.1) false (pm (ld r18.2 r18.1) r18.2) r18.2 fun r19 =>
 gd (yv r17.1) false (pm (abin Try.prog .gtr 3 r19.1 (.d (.int .i64 6))) r19.2) r19.2 fun r20 =>
 bi (pk r17.1 (.d (.bool true)) r20.1 r20.2) fun r21 =>
 gd (yv r21.1) false (pm (fa 3 r13.1) r21.2) r21.2 fun r22 =>
 gd (yv r21.1) false (pm (ld r22.2 r22.1) r22.2) r22.2 fun r23 =>
 gd (yv r21.1) false (pm (fa 2 r13.1) r23.2) r23.2 fun r24 =>
 gd (yv r21.1) false (pm (ld r24.2 r24.1) r24.2) r24.2 fun r25 =>
 gd (yv r21.1) false (pm (abin Try.prog .lss 3 r23.1 r25.1) r25.2) r25.2 fun r26 =>
 bi (pk r21.1 (.d (.bool true)) r26.1 r26.2) fun r27 =>
 gd (yv r27.1) false (pm (fa 3 r13.1) r27.2) r27.2 fun r28 =>
 gd (yv r27.1) false (pm (ld r28.2 r28.1) r28.2) r28.2 fun r29 =>
 gd (yv r27.1) false (pm (abin Try.prog .gtr 3 r29.1 (.d (.int .i64 8000))) r29.2) r29.2 fun r30 =>
 bi (pk r27.1 (.d (.bool true)) r30.1 r30.2) fun r31 =>
 gd (yv r31.1) false (pm (fa 4 r13.1) r31.2) r31.2 fun r32 =>
 gd (yv r31.1) false (pm (ld r32.2 r32.1) r32.2) r32.2 fun r33 =>
 gd (yv r31.1) false (call 43 [r33.1, .d (.int .i64 400)] r33.2) r33.2 fun r34 =>
 gd (yv r31.1) false (pm (aun .not r34.1) r34.2) r34.2 fun r35 =>
 bi (pk r31.1 (.d (.bool true)) r35.1 r35.2) fun r36 =>
 gd (yv r36.1) false (pm (fa 5 r13.1) r36.2) r36.2 fun r37 =>
 gd (yv r36.1) false (pm (ld r37.2 r37.1) r37.2) r37.2 fun r38 =>
 gd (yv r36.1) false (pm (lnS r38.1) r38.2) r38.2 fun r39 =>
 gd (yv r36.1) false (pm (abin Try.prog .lss 3 r39.1 (.d (.int .i64 1))) r39.2) r39.2 fun r40 =>
 bi (pk r36.1 (.d (.bool true)) r40.1 r40.2) fun r41 =>
 gd (yv r41.1) false (pm (fa 5 r13.1) r41.2) r41.2 fun r42 =>
 gd (yv r41.1) false (pm (ld r42.2 r42.1) r42.2) r42.2 fun r43 =>
 gd (yv r41.1) false (pm (lnS r43.1) r43.2) r43.2 fun r44 =>
 gd (yv r41.1) false (pm (abin Try.prog .gtr 3 r44.1 (.d (.int .i64 4000))) r44.2) r44.2 fun r45 =>
 bi (pk r41.1 (.d (.bool true)) r45.1 r45.2) fun r46 =>
 cn (asB r46.1)
 (rt (.d (.int .i64 3)) r46.2)
 (lp (s44.l1 call lim) [r1.1, r13.1, .d (.int .i64 0), .d (.int .i64 0)] r46.2 fun j90 =>
 dsp j90.1 none (rt (gv j90 0) j90.2.2) [(0, pu (abin Try.prog .gtr 3 (gv j90 0) (.d (.int .i64 20000))) j90.2.2 fun r91 =>
 cn (asB r91.1)
 (rt (.d (.int .i64 3)) r91.2)
 (rt (.d (.int .i64 0)) r91.2))]))

/-! #### rushlight/rushlightref13.Check -/
noncomputable def fi20 : FI := ⟨91, 0, [.tmp 2], (.seq (rgn Try.f20.body 0) (.seq (.seq (rgn Try.f20.body 1) (.cond (.tmp 42) (.seq (rgn Try.f20.body 2) .ret) .skip)) (.seq (.seq (rgn Try.f20.body 3) (.block 0 (.loop ⟨[1, 3], some [2], [(0, [1])]⟩ (.seq (.seq (rgn Try.f20.body 4) (.cond (.tmp 47) .skip (.exit 0))) (.seq (.block 1 (.seq (rgn Try.f20.body 6) (.cond (.tmp 62) (.seq (rgn Try.f20.body 7) .ret) .skip))) (rgn Try.f20.body 5)))))) (.seq (.seq (rgn Try.f20.body 8) (.cond (.tmp 79) (.seq (rgn Try.f20.body 9) .ret) .skip)) (.seq (.seq (rgn Try.f20.body 10) (.block 2 (.loop ⟨[1, 4], some [2], [(2, [])]⟩ (.seq (.seq (rgn Try.f20.body 11) (.cond (.tmp 84) .skip (.exit 2))) (.seq (.block 3 (.seq (rgn Try.f20.body 13) (.cond (.tmp 90) (.seq (rgn Try.f20.body 14) .ret) .skip))) (rgn Try.f20.body 12)))))) (.seq (rgn Try.f20.body 15) .ret))))))⟩
theorem fits20 : Fits Try.prog 20 fi20 Try.f20 := ⟨by kernel_rfl, by kernel_rfl, by kernel_rfl, by kernel_rfl, by kernel_rfl⟩
set_option maxRecDepth 100000 in
/-- A round: what is kept: [1, 3]. -/
noncomputable def s20.l0 (call : ACall) (lim : Nat) (v35 : List AV) (h36 : Heap) : Option Res :=
 pu (fa 1 (v35.getD 0 .junk)) h36 fun r37 =>
 pu (ld r37.2 r37.1) r37.2 fun r38 =>
 pu (lnS r38.1) r38.2 fun r39 =>
 pu (abin Try.prog .lss 3 (v35.getD 1 .junk) r39.1) r39.2 fun r40 =>
 cn (asB r40.1)
 (pu (fa 1 (v35.getD 0 .junk)) r40.2 fun r41 =>
 pu (ld r41.2 r41.1) r41.2 fun r42 =>
 pu (ixS 1 r42.1 (v35.getD 1 .junk)) r42.2 fun r43 =>
 pu (ld r43.2 r43.1) r43.2 fun r44 =>
 pu (lnS r44.1) r44.2 fun r45 =>
 pu (fa 0 (v35.getD 0 .junk)) r45.2 fun r46 =>
 pu (ld r46.2 r46.1) r46.2 fun r47 =>
 pu (ixS 4 r47.1 (v35.getD 1 .junk)) r47.2 fun r48 =>
 pu (fa 1 r48.1) r48.2 fun r49 =>
 pu (ld r49.2 r49.1) r49.2 fun r50 =>
 pu (abin Try.prog .neq 3 r45.1 r50.1) r50.2 fun r51 =>
 cn (asB r51.1)
 (some (.ret, [.d (.int .i64 3)], r51.2))
 (pu (abin Try.prog .add 3 (v35.getD 1 .junk) (.d (.int .i64 1))) r51.2 fun r52 =>
 some (.normal, [(v35.getD 0 .junk), r52.1], r52.2)))
 (some (.exit 0, [(v35.getD 0 .junk)], r40.2))
set_option maxRecDepth 100000 in
/-- A round: what is kept: [1, 4]. -/
noncomputable def s20.l1 (call : ACall) (lim : Nat) (v70 : List AV) (h71 : Heap) : Option Res :=
 pu (fa 2 (v70.getD 0 .junk)) h71 fun r72 =>
 pu (ld r72.2 r72.1) r72.2 fun r73 =>
 pu (lnS r73.1) r73.2 fun r74 =>
 pu (abin Try.prog .lss 3 (v70.getD 1 .junk) r74.1) r74.2 fun r75 =>
 cn (asB r75.1)
 (pu (ldA 4 r75.2 (v70.getD 0 .junk)) r75.2 fun r76 =>
 bi (call 44 [r76.1, (v70.getD 1 .junk)] r76.2) fun r77 =>
 pu (abin Try.prog .neq 3 r77.1 (.d (.int .i64 0))) r77.2 fun r78 =>
 cn (asB r78.1)
 (some (.ret, [.d (.int .i64 3)], r78.2))
 (pu (abin Try.prog .add 3 (v70.getD 1 .junk) (.d (.int .i64 1))) r78.2 fun r79 =>
 some (.normal, [(v70.getD 0 .junk), r79.1], r79.2)))
 (some (.exit 2, [], r75.2))
set_option maxRecDepth 100000 in
noncomputable def s20 (call : ACall) (lim : Nat) (a0 : AV) (H : Heap) : Option Res :=
 bi (bx a0 H) fun r1 =>
 pu (fa 1 r1.1) r1.2 fun r2 =>
 pu (ld r2.2 r2.1) r2.2 fun r3 =>
 pu (lnS r3.1) r3.2 fun r4 =>
 pu (fa 0 r1.1) r4.2 fun r5 =>
 pu (ld r5.2 r5.1) r5.2 fun r6 =>
 pu (lnS r6.1) r6.2 fun r7 =>
 pu (abin Try.prog .neq 3 r4.1 r7.1) r7.2 fun r8 =>
 gd (yv r8.1) false (pm (fa 0 r1.1) r8.2) r8.2 fun r9 =>
 gd (yv r8.1) false (pm (ld r9.2 r9.1) r9.2) r9.2 fun r10 =>
 gd (yv r8.1) false (call 43 [r10.1, .d (.int .i64 200)] r10.2) r10.2 fun r11 =>
 gd (yv r8.1) false (pm (aun .not r11.1) r11.2) r11.2 fun r12 =>
 bi (pk r8.1 (.d (.bool true)) r12.1 r12.2) fun r13 =>
 gd (yv r13.1) false (pm (fa 2 r1.1) r13.2) r13.2 fun r14 =>
 gd (yv r13.1) false (pm (ld r14.2 r14.1) r14.2) r14.2 fun r15 =>
 gd (yv r13.1) false (pm (lnS r15.1) r15.2) r15.2 fun r16 =>
 gd (yv r13.1) false (pm (abin Try.prog .lss 3 r16.1 (.d (.int .i64 1))) r16.2) r16.2 fun r17 =>
 bi (pk r13.1 (.d (.bool true)) r17.1 r17.2) fun r18 =>
 gd (yv r18.1) false (pm (fa 2 r1.1) r18.2) r18.2 fun r19 =>
 gd (yv r18.1) false (pm (ld r19.2 r19.1) r19.2) r19.2 fun r20 =>
 gd (yv r18.1) false (pm (lnS r20.1) r20.2) r20.2 fun r21 =>
 gd (yv r18.1) false (pm (abin Try.prog .gtr 3 r21.1 (.d (.int .i64 200))) r21.2) r21.2 fun r22 =>
 bi (pk r18.1 (.d (.bool true)) r22.1 r22.2) fun r23 =>
 gd (yv r23.1) false (pm (fa 3 r1.1) r23.2) r23.2 fun r24 =>
 gd (yv r23.1) false (pm (ld r24.2 r24.1) r24.2) r24.2 fun r25 =>
 gd (yv r23.1) false (pm (abin Try.prog .lss 3 r25.1 (.d (.int .i64 0))) r25.2) r25.2 fun r26 =>
 bi (pk r23.1 (.d (.bool true)) r26.1 r26.2) fun r27 =>
 gd (yv r27.1) false (pm (fa 3 r1.1) r27.2) r27.2 fun r28 =>
 gd (yv r27.1) false (pm (ld r28.2 r28.1) r28.2) r28.2 fun r29 =>
 gd (yv r27.1) false (pm (fa 2 r1.1) r29.2) r29.2 fun r30 =>
 gd (yv r27.1) false (pm (ld r30.2 r30.1) r30.2) r30.2 fun r31 =>
 gd (yv r27.1) false (pm (lnS r31.1) r31.2) r31.2 fun r32 =>
 gd (yv r27.1) false (pm (abin Try.prog .geq 3 r29.1 r32.1) r32.2) r32.2 fun r33 =>
 bi (pk r27.1 (.d (.bool true)) r33.1 r33.2) fun r34 =>
 cn (asB r34.1)
 (rt (.d (.int .i64 3)) r34.2)
 (lp (s20.l0 call lim) [r1.1, .d (.int .i64 0)] r34.2 fun j53 =>
 dsp j53.1 none (rt (gv j53 0) j53.2.2) [(0, pu (fa 2 (gv j53 0)) j53.2.2 fun r54 =>
 pu (ld r54.2 r54.1) r54.2 fun r55 =>
 pu (fa 3 (gv j53 0)) r55.2 fun r56 =>
 pu (ld r56.2 r56.1) r56.2 fun r57 =>
 pu (ixS 6 r55.1 r57.1) r57.2 fun r58 =>
 pu (fa 2 r58.1) r58.2 fun r59 =>
 pu (ld r59.2 r59.1) r59.2 fun r60 =>
 pu (abin Try.prog .neq 3 r60.1 (.d (.int .i64 0))) r60.2 fun r61 =>
 gd (yv r61.1) false (pm (fa 2 (gv j53 0)) r61.2) r61.2 fun r62 =>
 gd (yv r61.1) false (pm (ld r62.2 r62.1) r62.2) r62.2 fun r63 =>
 gd (yv r61.1) false (pm (fa 3 (gv j53 0)) r63.2) r63.2 fun r64 =>
 gd (yv r61.1) false (pm (ld r64.2 r64.1) r64.2) r64.2 fun r65 =>
 gd (yv r61.1) false (pm (ixS 6 r63.1 r65.1) r65.2) r65.2 fun r66 =>
 gd (yv r61.1) false (pm (fa 1 r66.1) r66.2) r66.2 fun r67 =>
 gd (yv r61.1) false (pm (ld r67.2 r67.1) r67.2) r67.2 fun r68 =>
 bi (pk r61.1 (.d (.bool true)) r68.1 r68.2) fun r69 =>
 cn (asB r69.1)
 (rt (.d (.int .i64 3)) r69.2)
 (lp (s20.l1 call lim) [(gv j53 0), .d (.int .i64 0)] r69.2 fun j80 =>
 dsp j80.1 none (rt (gv j80 0) j80.2.2) [(2, rt (.d (.int .i64 0)) j80.2.2)]))])

/-! #### rushlight/rushlightref14.next -/
noncomputable def fi36 : FI := ⟨9, 0, [.tmp 2], (.seq (rgn Try.f36.body 0) (.seq (.block 0 (.loop ⟨[0], none, [(0, [0])]⟩ (.seq (.seq (rgn Try.f36.body 1) (.cond (.tmp 5) .skip (.exit 0))) (.block 1 (rgn Try.f36.body 2))))) (.seq (rgn Try.f36.body 3) .ret)))⟩
theorem fits36 : Fits Try.prog 36 fi36 Try.f36 := ⟨by kernel_rfl, by kernel_rfl, by kernel_rfl, by kernel_rfl, by kernel_rfl⟩
set_option maxRecDepth 100000 in
/-- A round: what is kept: [0]. -/
noncomputable def s36.l0 (call : ACall) (lim : Nat) (v1 : List AV) (h2 : Heap) : Option Res :=
 pu (abin Try.prog .rem 3 (v1.getD 0 .junk) (.d (.int .i64 4))) h2 fun r3 =>
 pu (abin Try.prog .neq 3 r3.1 (.d (.int .i64 0))) r3.2 fun r4 =>
 cn (asB r4.1)
 (pu (abin Try.prog .add 3 (v1.getD 0 .junk) (.d (.int .i64 1))) r4.2 fun r5 =>
 some (.normal, [r5.1], r5.2))
 (some (.exit 0, [(v1.getD 0 .junk)], r4.2))
set_option maxRecDepth 100000 in
noncomputable def s36 (call : ACall) (lim : Nat) (a0 : AV) (H : Heap) : Option Res :=
 lp (s36.l0 call lim) [a0] H fun j6 =>
 dsp j6.1 none none [(0, rt (gv j6 0) j6.2.2)]

/-! #### rushlight/rushlightref14.Place -/
noncomputable def fi15 : FI := ⟨27, 0, [.tmp 2, .tmp 3], (.seq (rgn Try.f15.body 0) (.seq (rgn Try.f15.body 1) (.seq (rgn Try.f15.body 2) (.seq (.seq (rgn Try.f15.body 3) (.block 0 (.loop ⟨[0, 4, 5, 6], none, [(0, [4, 5])]⟩ (.seq (.seq (rgn Try.f15.body 4) (.cond (.tmp 10) .skip (.exit 0))) (.seq (.block 1 (.seq (rgn Try.f15.body 6) (rgn Try.f15.body 7))) (rgn Try.f15.body 5)))))) (.seq (rgn Try.f15.body 8) .ret)))))⟩
theorem fits15 : Fits Try.prog 15 fi15 Try.f15 := ⟨by kernel_rfl, by kernel_rfl, by kernel_rfl, by kernel_rfl, by kernel_rfl⟩
set_option maxRecDepth 100000 in
/-- A round: what is kept: [0, 4, 5, 6]. -/
noncomputable def s15.l0 (call : ACall) (lim : Nat) (v1 : List AV) (h2 : Heap) : Option Res :=
 pu (lnS (v1.getD 0 .junk)) h2 fun r3 =>
 pu (abin Try.prog .lss 3 (v1.getD 3 .junk) r3.1) r3.2 fun r4 =>
 cn (asB r4.1)
 (bi (bldS 1 1 [.d (.int .i64 0)] [(0, (v1.getD 2 .junk))] r4.2) fun r5 =>
 bi (app 1 8 lim r5.2 (v1.getD 1 .junk) (elS 1 r5.2 r5.1)) fun r6 =>
 pu (ixS 4 (v1.getD 0 .junk) (v1.getD 3 .junk)) r6.2 fun r7 =>
 pu (fa 1 r7.1) r7.2 fun r8 =>
 pu (ld r8.2 r8.1) r8.2 fun r9 =>
 pu (abin Try.prog .add 3 (v1.getD 2 .junk) r9.1) r9.2 fun r10 =>
 bi (call 36 [r10.1] r10.2) fun r11 =>
 pu (abin Try.prog .add 3 (v1.getD 3 .junk) (.d (.int .i64 1))) r11.2 fun r12 =>
 some (.normal, [(v1.getD 0 .junk), r6.1, r11.1, r12.1], r12.2))
 (some (.exit 0, [(v1.getD 1 .junk), (v1.getD 2 .junk)], r4.2))
set_option maxRecDepth 100000 in
noncomputable def s15 (call : ACall) (lim : Nat) (a0 : AV) (H : Heap) : Option Res :=
 lp (s15.l0 call lim) [a0, .d (.seq true 0 []), .d (.int .i64 0), .d (.int .i64 0)] H fun j13 =>
 dsp j13.1 none none [(0, rt (.tup [(gv j13 0), (gv j13 1)]) j13.2.2)]

/-! #### (*rushlight/rushlightref14.Run).enter -/
noncomputable def fi21 : FI := ⟨81, 2, [], (.seq (rgn Try.f21.body 0) (.seq (rgn Try.f21.body 1) (.seq (.seq (rgn Try.f21.body 2) (.cond (.tmp 42) (.seq (rgn Try.f21.body 3) (.seq (rgn Try.f21.body 4) .ret)) .skip)) (.seq (rgn Try.f21.body 5) (.seq (.seq (rgn Try.f21.body 6) (.block 0 (.loop ⟨[0, 1, 2, 3, 10, 11, 12], none, [(0, [0, 1, 3, 10, 11])]⟩ (.seq (.seq (rgn Try.f21.body 7) (.cond (.tmp 56) .skip (.exit 0))) (.seq (.block 1 (rgn Try.f21.body 9)) (rgn Try.f21.body 8)))))) (rgn Try.f21.body 10))))))⟩
theorem fits21 : Fits Try.prog 21 fi21 Try.f21 := ⟨by kernel_rfl, by kernel_rfl, by kernel_rfl, by kernel_rfl, by kernel_rfl⟩
set_option maxRecDepth 100000 in
/-- A round: what is kept: [0, 1, 2, 3, 10, 11, 12]. -/
noncomputable def s21.l0 (call : ACall) (lim : Nat) (v36 : List AV) (h37 : Heap) : Option Res :=
 pu (lnS (v36.getD 2 .junk)) h37 fun r38 =>
 pu (abin Try.prog .lss 3 (v36.getD 6 .junk) r38.1) r38.2 fun r39 =>
 cn (asB r39.1)
 (pu (ixS 1 (v36.getD 2 .junk) (v36.getD 6 .junk)) r39.2 fun r40 =>
 pu (ld r40.2 r40.1) r40.2 fun r41 =>
 pu (ixS 1 (v36.getD 5 .junk) (v36.getD 6 .junk)) r41.2 fun r42 =>
 bi (stA 1 lim r42.2 r42.1 r41.1) fun r43 =>
 pu (abin Try.prog .add 3 (v36.getD 6 .junk) (.d (.int .i64 1))) r43.2 fun r44 =>
 some (.normal, [(v36.getD 0 .junk), (v36.getD 1 .junk), (v36.getD 2 .junk), (v36.getD 3 .junk), (v36.getD 4 .junk), (v36.getD 5 .junk), r44.1], r44.2))
 (some (.exit 0, [(v36.getD 0 .junk), (v36.getD 1 .junk), (v36.getD 3 .junk), (v36.getD 4 .junk), (v36.getD 5 .junk)], r39.2))
set_option maxRecDepth 100000 in
noncomputable def s21 (call : ACall) (lim : Nat) (a0 a1 a2 a3 : AV) (H : Heap) : Option Res :=
 pu (anil a0) H fun r1 =>
 pu (fa 0 r1.1) r1.2 fun r2 =>
 pu (fa 2 r2.1) r2.2 fun r3 =>
 pu (ld r3.2 r3.1) r3.2 fun r4 =>
 pu (ixS 6 r4.1 a1) r4.2 fun r5 =>
 pu (ldA 6 r5.2 r5.1) r5.2 fun r6 =>
 bi (al [.d (.str ⟨#[]⟩), .d (.bool false), .d (.int .i64 0), .d (.int .i64 0), .d (.seq true 0 []), .d (.seq true 0 [])] r6.2) fun r7 =>
 bi (stA 6 lim r7.2 r7.1 r6.1) fun r8 =>
 pu (fa 4 r7.1) r8.2 fun r9 =>
 pu (ld r9.2 r9.1) r9.2 fun r10 =>
 bi (call 15 [r10.1] r10.2) fun r11 =>
 pu (aextract r11.1 0) r11.2 fun r12 =>
 pu (aextract r11.1 1) r12.2 fun r13 =>
 pu (abin Try.prog .sub 3 a3 r13.1) r13.2 fun r14 =>
 pu (anil a0) r14.2 fun r15 =>
 pu (fa 6 r15.1) r15.2 fun r16 =>
 pu (ld r16.2 r16.1) r16.2 fun r17 =>
 pu (abin Try.prog .lss 3 r14.1 r17.1) r17.2 fun r18 =>
 gd (yv r18.1) false (some (a0, r18.2)) r18.2 fun r19 =>
 gd (yv r18.1) false (pm (anil r19.1) r19.2) r19.2 fun r20 =>
 gd (yv r18.1) false (pm (fa 5 r20.1) r20.2) r20.2 fun r21 =>
 gd (yv r18.1) false (pm (ld r21.2 r21.1) r21.2) r21.2 fun r22 =>
 gd (yv r18.1) false (pm (lnS r22.1) r22.2) r22.2 fun r23 =>
 gd (yv r18.1) false (pm (abin Try.prog .geq 3 r23.1 (.d (.int .i64 5000))) r23.2) r23.2 fun r24 =>
 bi (pk r18.1 (.d (.bool true)) r24.1 r24.2) fun r25 =>
 cn (asB r25.1)
 (pu (anil a0) r25.2 fun r26 =>
 pu (fa 8 r26.1) r26.2 fun r27 =>
 pu (fa 3 r27.1) r27.2 fun r28 =>
 bi (stA 1 lim r28.2 r28.1 (.d (.int .i64 8))) fun r29 =>
 pu (anil a0) r29.2 fun r30 =>
 pu (fa 12 r30.1) r30.2 fun r31 =>
 bi (stA 1 lim r31.2 r31.1 (.d (.bool true))) fun r32 =>
 rt (.tup []) r32.2)
 (pu (fa 3 r7.1) r25.2 fun r33 =>
 pu (ld r33.2 r33.1) r33.2 fun r34 =>
 bi (mkS 1 4 [.d (.int .u32 0)] r34.2 r34.1 r34.1) fun r35 =>
 lp (s21.l0 call lim) [a0, a1, a2, a3, r13.1, r35.1, .d (.int .i64 0)] r35.2 fun j45 =>
 dsp j45.1 none none [(0, pu (anil (gv j45 0)) j45.2.2 fun r46 =>
 pu (fa 5 r46.1) r46.2 fun r47 =>
 pu (ld r47.2 r47.1) r47.2 fun r48 =>
 pu (abin Try.prog .sub 3 (gv j45 2) (gv j45 3)) r48.2 fun r49 =>
 pu (bld [(0, 1), (1, 1), (2, 1), (3, 1), (4, 1)] [.d (.int .i64 0), .d (.seq true 0 []), .d (.int .i64 0), .d (.int .i64 0), .d (.int .i64 0)] [(0, (gv j45 1)), (1, (gv j45 4)), (2, r49.1)]) r49.2 fun r50 =>
 bi (bldS 5 1 [.d (.int .i64 0), .d (.seq true 0 []), .d (.int .i64 0), .d (.int .i64 0), .d (.int .i64 0)] [(0, r50.1)] r50.2) fun r51 =>
 bi (app 5 56 lim r51.2 r48.1 (elS 5 r51.2 r51.1)) fun r52 =>
 pu (anil (gv j45 0)) r52.2 fun r53 =>
 pu (fa 5 r53.1) r53.2 fun r54 =>
 bi (stA 1 lim r54.2 r54.1 r52.1) fun r55 =>
 rt (.tup []) r55.2)])

/-! #### (*rushlight/rushlightref14.Run).back -/
noncomputable def fi68 : FI := ⟨75, 2, [], (.seq (rgn Try.f68.body 0) (.seq (.seq (rgn Try.f68.body 1) (.cond (.tmp 25) (.seq (rgn Try.f68.body 2) (.seq (rgn Try.f68.body 3) .ret)) .skip)) (.seq (rgn Try.f68.body 4) (.seq (rgn Try.f68.body 5) (.seq (rgn Try.f68.body 6) (.cond (.tmp 69) (rgn Try.f68.body 7) .skip))))))⟩
theorem fits68 : Fits Try.prog 68 fi68 Try.f68 := ⟨by kernel_rfl, by kernel_rfl, by kernel_rfl, by kernel_rfl, by kernel_rfl⟩
set_option maxRecDepth 100000 in
noncomputable def s68 (call : ACall) (lim : Nat) (a0 a1 : AV) (H : Heap) : Option Res :=
 pu (anil a0) H fun r1 =>
 pu (fa 5 r1.1) r1.2 fun r2 =>
 pu (ld r2.2 r2.1) r2.2 fun r3 =>
 pu (anil a0) r3.2 fun r4 =>
 pu (fa 5 r4.1) r4.2 fun r5 =>
 pu (ld r5.2 r5.1) r5.2 fun r6 =>
 pu (lnS r6.1) r6.2 fun r7 =>
 pu (abin Try.prog .sub 3 r7.1 (.d (.int .i64 1))) r7.2 fun r8 =>
 pu (slS 5 r3.1 none (some r8.1)) r8.2 fun r9 =>
 pu (anil a0) r9.2 fun r10 =>
 pu (fa 5 r10.1) r10.2 fun r11 =>
 bi (stA 1 lim r11.2 r11.1 r9.1) fun r12 =>
 pu (anil a0) r12.2 fun r13 =>
 pu (fa 5 r13.1) r13.2 fun r14 =>
 pu (ld r14.2 r14.1) r14.2 fun r15 =>
 pu (lnS r15.1) r15.2 fun r16 =>
 pu (abin Try.prog .eql 3 r16.1 (.d (.int .i64 0))) r16.2 fun r17 =>
 cn (asB r17.1)
 (pu (abin Try.prog .rem 31 a1 (.d (.int .u32 256))) r17.2 fun r18 =>
 pu (anil a0) r18.2 fun r19 =>
 pu (fa 8 r19.1) r19.2 fun r20 =>
 pu (fa 2 r20.1) r20.2 fun r21 =>
 bi (stA 1 lim r21.2 r21.1 r18.1) fun r22 =>
 pu (anil a0) r22.2 fun r23 =>
 pu (fa 12 r23.1) r23.2 fun r24 =>
 bi (stA 1 lim r24.2 r24.1 (.d (.bool true))) fun r25 =>
 rt (.tup []) r25.2)
 (pu (anil a0) r17.2 fun r26 =>
 pu (fa 5 r26.1) r26.2 fun r27 =>
 pu (ld r27.2 r27.1) r27.2 fun r28 =>
 pu (anil a0) r28.2 fun r29 =>
 pu (fa 5 r29.1) r29.2 fun r30 =>
 pu (ld r30.2 r30.1) r30.2 fun r31 =>
 pu (lnS r31.1) r31.2 fun r32 =>
 pu (abin Try.prog .sub 3 r32.1 (.d (.int .i64 1))) r32.2 fun r33 =>
 pu (ixS 5 r28.1 r33.1) r33.2 fun r34 =>
 pu (ldA 5 r34.2 r34.1) r34.2 fun r35 =>
 bi (al [.d (.int .i64 0), .d (.seq true 0 []), .d (.int .i64 0), .d (.int .i64 0), .d (.int .i64 0)] r35.2) fun r36 =>
 ck [again lim (pm (ld r36.2 r27.1) r36.2) r28.1 r36.2, again lim (pm (ld r36.2 r30.1) r36.2) r31.1 r36.2, again lim (pm (ldA 5 r36.2 r34.1) r36.2) r35.1 r36.2] (
 bi (stA 5 lim r36.2 r36.1 r35.1) fun r37 =>
 pu (anil a0) r37.2 fun r38 =>
 pu (fa 0 r38.1) r38.2 fun r39 =>
 pu (fa 2 r39.1) r39.2 fun r40 =>
 pu (ld r40.2 r40.1) r40.2 fun r41 =>
 pu (fa 0 r36.1) r41.2 fun r42 =>
 pu (ld r42.2 r42.1) r42.2 fun r43 =>
 pu (ixS 6 r41.1 r43.1) r43.2 fun r44 =>
 pu (fa 5 r44.1) r44.2 fun r45 =>
 pu (ld r45.2 r45.1) r45.2 fun r46 =>
 pu (fa 3 r36.1) r46.2 fun r47 =>
 pu (ld r47.2 r47.1) r47.2 fun r48 =>
 pu (ixS 5 r46.1 r48.1) r48.2 fun r49 =>
 pu (fa 0 r49.1) r49.2 fun r50 =>
 pu (ld r50.2 r50.1) r50.2 fun r51 =>
 pu (fa 4 r36.1) r51.2 fun r52 =>
 pu (ld r52.2 r52.1) r52.2 fun r53 =>
 pu (abin Try.prog .sub 3 r53.1 (.d (.int .i64 1))) r53.2 fun r54 =>
 pu (ixS 11 r51.1 r54.1) r54.2 fun r55 =>
 pu (fa 1 r55.1) r55.2 fun r56 =>
 pu (ld r56.2 r56.1) r56.2 fun r57 =>
 pu (abin Try.prog .neq 3 r57.1 (.d (.int .i64 (-1)))) r57.2 fun r58 =>
 cn (asB r58.1)
 (pu (fa 1 r36.1) r58.2 fun r59 =>
 pu (ld r59.2 r59.1) r59.2 fun r60 =>
 pu (ixS 1 r60.1 r57.1) r60.2 fun r61 =>
 bi (stA 1 lim r61.2 r61.1 a1) fun r62 =>
 rt (.tup []) r62.2)
 (rt (.tup []) r58.2)))

/-! #### (*rushlight/rushlightref14.Run).end -/
noncomputable def fi45 : FI := ⟨62, 2, [], (.seq (rgn Try.f45.body 0) (.seq (rgn Try.f45.body 1) (.seq (.seq (rgn Try.f45.body 2) (.cond (.tmp 18) (.seq (rgn Try.f45.body 3) (.cut ⟨[0, 7], none, []⟩ (.seq (rgn Try.f45.body 4) (.cond (.tmp 21) (rgn Try.f45.body 5) .skip)) (.seq (rgn Try.f45.body 6) .ret))) .skip)) (.seq (rgn Try.f45.body 7) (.cut ⟨[0, 1, 8], none, []⟩ (.seq (rgn Try.f45.body 8) (.cond (.tmp 44) (rgn Try.f45.body 9) .skip)) (.seq (rgn Try.f45.body 10) (rgn Try.f45.body 11)))))))⟩
theorem fits45 : Fits Try.prog 45 fi45 Try.f45 := ⟨by kernel_rfl, by kernel_rfl, by kernel_rfl, by kernel_rfl, by kernel_rfl⟩
set_option maxRecDepth 100000 in
noncomputable def s45 (call : ACall) (lim : Nat) (a0 a1 a2 : AV) (H : Heap) : Option Res :=
 bi (bx a2 H) fun r1 =>
 pu (anil a0) r1.2 fun r2 =>
 pu (fa 5 r2.1) r2.2 fun r3 =>
 pu (ld r3.2 r3.1) r3.2 fun r4 =>
 pu (ixS 5 r4.1 a1) r4.2 fun r5 =>
 pu (ldA 5 r5.2 r5.1) r5.2 fun r6 =>
 bi (al [.d (.int .i64 0), .d (.seq true 0 []), .d (.int .i64 0), .d (.int .i64 0), .d (.int .i64 0)] r6.2) fun r7 =>
 bi (stA 5 lim r7.2 r7.1 r6.1) fun r8 =>
 pu (fa 1 r1.1) r8.2 fun r9 =>
 pu (ld r9.2 r9.1) r9.2 fun r10 =>
 pu (abin Try.prog .eql 3 r10.1 (.d (.int .i64 3))) r10.2 fun r11 =>
 cn (asB r11.1)
 (jn
 (pu (fa 2 r1.1) r11.2 fun r12 =>
 pu (ld r12.2 r12.1) r12.2 fun r13 =>
 pu (abin Try.prog .neq 3 r13.1 (.d (.int .i64 (-1)))) r13.2 fun r14 =>
 cn (asB r14.1)
 (pu (fa 1 r7.1) r14.2 fun r15 =>
 pu (ld r15.2 r15.1) r15.2 fun r16 =>
 pu (fa 2 r1.1) r16.2 fun r17 =>
 pu (ld r17.2 r17.1) r17.2 fun r18 =>
 pu (ixS 1 r16.1 r18.1) r18.2 fun r19 =>
 pu (ld r19.2 r19.1) r19.2 fun r20 =>
 some (.normal, [a0, r20.1], r20.2))
 (some (.normal, [a0, .d (.int .u32 0)], r14.2))) fun j21 =>
 dsp j21.1 (bi (call 68 [(gv j21 0), (gv j21 1)] j21.2.2) fun r22 =>
 rt (.tup []) r22.2) none [])
 (pu (fa 3 r1.1) r11.2 fun r23 =>
 pu (ld r23.2 r23.1) r23.2 fun r24 =>
 jn
 (pu (fa 1 r1.1) r24.2 fun r25 =>
 pu (ld r25.2 r25.1) r25.2 fun r26 =>
 pu (abin Try.prog .eql 3 r26.1 (.d (.int .i64 2))) r26.2 fun r27 =>
 gd (yv r27.1) true (pm (fa 1 r7.1) r27.2) r27.2 fun r28 =>
 gd (yv r27.1) true (pm (ld r28.2 r28.1) r28.2) r28.2 fun r29 =>
 gd (yv r27.1) true (pm (fa 2 r1.1) r29.2) r29.2 fun r30 =>
 gd (yv r27.1) true (pm (ld r30.2 r30.1) r30.2) r30.2 fun r31 =>
 gd (yv r27.1) true (pm (ixS 1 r29.1 r31.1) r31.2) r31.2 fun r32 =>
 gd (yv r27.1) true (pm (ld r32.2 r32.1) r32.2) r32.2 fun r33 =>
 gd (yv r27.1) true (pm (abin Try.prog .eql 31 r33.1 (.d (.int .u32 0))) r33.2) r33.2 fun r34 =>
 bi (pk r27.1 r34.1 (.d (.bool false)) r34.2) fun r35 =>
 cn (asB r35.1)
 (pu (fa 4 r1.1) r35.2 fun r36 =>
 pu (ld r36.2 r36.1) r36.2 fun r37 =>
 some (.normal, [a0, a1, r37.1], r37.2))
 (some (.normal, [a0, a1, r24.1], r35.2))) fun j38 =>
 dsp j38.1 (pu (anil (gv j38 0)) j38.2.2 fun r39 =>
 pu (fa 5 r39.1) r39.2 fun r40 =>
 pu (ld r40.2 r40.1) r40.2 fun r41 =>
 pu (ixS 5 r41.1 (gv j38 1)) r41.2 fun r42 =>
 pu (fa 3 r42.1) r42.2 fun r43 =>
 bi (stA 1 lim r43.2 r43.1 (gv j38 2)) fun r44 =>
 pu (anil (gv j38 0)) r44.2 fun r45 =>
 pu (fa 5 r45.1) r45.2 fun r46 =>
 pu (ld r46.2 r46.1) r46.2 fun r47 =>
 pu (ixS 5 r47.1 (gv j38 1)) r47.2 fun r48 =>
 pu (fa 4 r48.1) r48.2 fun r49 =>
 bi (stA 1 lim r49.2 r49.1 (.d (.int .i64 0))) fun r50 =>
 rt (.tup []) r50.2) none [])

/-! #### rushlight/rushlightref01.Signed -/
noncomputable def fi52 : FI := ⟨10, 0, [.tmp 2], (.seq (rgn Try.f52.body 0) (.seq (.seq (rgn Try.f52.body 1) (.cond (.tmp 4) (.seq (rgn Try.f52.body 2) .ret) .skip)) (.seq (rgn Try.f52.body 3) .ret)))⟩
theorem fits52 : Fits Try.prog 52 fi52 Try.f52 := ⟨by kernel_rfl, by kernel_rfl, by kernel_rfl, by kernel_rfl, by kernel_rfl⟩
set_option maxRecDepth 100000 in
noncomputable def s52 (call : ACall) (lim : Nat) (a0 : AV) (H : Heap) : Option Res :=
 pu (abin Try.prog .geq 31 a0 (.d (.int .u32 2147483648))) H fun r1 =>
 cn (asB r1.1)
 (pu (cvI .i64 a0) r1.2 fun r2 =>
 pu (abin Try.prog .sub 3 r2.1 (.d (.int .i64 4294967296))) r2.2 fun r3 =>
 rt r3.1 r3.2)
 (pu (cvI .i64 a0) r1.2 fun r4 =>
 rt r4.1 r4.2)

/-! #### rushlight/rushlightref01.abs -/
noncomputable def fi53 : FI := ⟨8, 0, [.tmp 2], (.seq (rgn Try.f53.body 0) (.seq (.seq (rgn Try.f53.body 1) (.cond (.tmp 4) (.seq (rgn Try.f53.body 2) .ret) .skip)) (.seq (rgn Try.f53.body 3) .ret)))⟩
theorem fits53 : Fits Try.prog 53 fi53 Try.f53 := ⟨by kernel_rfl, by kernel_rfl, by kernel_rfl, by kernel_rfl, by kernel_rfl⟩
set_option maxRecDepth 100000 in
noncomputable def s53 (call : ACall) (lim : Nat) (a0 : AV) (H : Heap) : Option Res :=
 pu (abin Try.prog .lss 3 a0 (.d (.int .i64 0))) H fun r1 =>
 cn (asB r1.1)
 (pu (aun .neg a0) r1.2 fun r2 =>
 rt r2.1 r2.2)
 (rt a0 r1.2)

/-! #### rushlight/rushlightref01.Cut -/
noncomputable def fi47 : FI := ⟨12, 0, [.tmp 2], (.seq (rgn Try.f47.body 0) (.seq (rgn Try.f47.body 1) (.cut ⟨[3], none, []⟩ (.seq (rgn Try.f47.body 2) (.cond (.tmp 7) (rgn Try.f47.body 3) .skip)) (.seq (rgn Try.f47.body 4) .ret))))⟩
theorem fits47 : Fits Try.prog 47 fi47 Try.f47 := ⟨by kernel_rfl, by kernel_rfl, by kernel_rfl, by kernel_rfl, by kernel_rfl⟩
set_option maxRecDepth 100000 in
noncomputable def s47 (call : ACall) (lim : Nat) (a0 : AV) (H : Heap) : Option Res :=
 pu (abin Try.prog .rem 3 a0 (.d (.int .i64 4294967296))) H fun r1 =>
 jn
 (pu (abin Try.prog .lss 3 r1.1 (.d (.int .i64 0))) r1.2 fun r2 =>
 cn (asB r2.1)
 (pu (abin Try.prog .add 3 r1.1 (.d (.int .i64 4294967296))) r2.2 fun r3 =>
 some (.normal, [r3.1], r3.2))
 (some (.normal, [r1.1], r2.2))) fun j4 =>
 dsp j4.1 (pu (cvI .u32 (gv j4 0)) j4.2.2 fun r5 =>
 rt r5.1 r5.2) none []

/-! #### rushlight/rushlightref01.Div -/
noncomputable def fi32 : FI := ⟨37, 0, [.tmp 4], (.seq (rgn Try.f32.body 0) (.seq (rgn Try.f32.body 1) (.seq (.seq (rgn Try.f32.body 2) (.cond (.tmp 13) (.seq (rgn Try.f32.body 3) .ret) .skip)) (.seq (rgn Try.f32.body 4) (.cut ⟨[7], none, []⟩ (.seq (rgn Try.f32.body 5) (.cond (.tmp 32) (rgn Try.f32.body 6) .skip)) (.seq (rgn Try.f32.body 7) .ret))))))⟩
theorem fits32 : Fits Try.prog 32 fi32 Try.f32 := ⟨by kernel_rfl, by kernel_rfl, by kernel_rfl, by kernel_rfl, by kernel_rfl⟩
set_option maxRecDepth 100000 in
noncomputable def s32 (call : ACall) (lim : Nat) (a0 a1 : AV) (H : Heap) : Option Res :=
 bi (call 52 [a0] H) fun r1 =>
 bi (call 52 [a1] r1.2) fun r2 =>
 pu (abin Try.prog .eql 3 r2.1 (.d (.int .i64 0))) r2.2 fun r3 =>
 cn (asB r3.1)
 (rt (.d (.int .u32 4294967295)) r3.2)
 (bi (call 53 [r1.1] r3.2) fun r4 =>
 bi (call 53 [r2.1] r4.2) fun r5 =>
 pu (abin Try.prog .quo 3 r4.1 r5.1) r5.2 fun r6 =>
 jn
 (pu (abin Try.prog .lss 3 r1.1 (.d (.int .i64 0))) r6.2 fun r7 =>
 gd (yv r7.1) true (some (r2.1, r7.2)) r7.2 fun r8 =>
 gd (yv r7.1) true (pm (abin Try.prog .gtr 3 r8.1 (.d (.int .i64 0))) r8.2) r8.2 fun r9 =>
 bi (pk r7.1 r9.1 (.d (.bool false)) r9.2) fun r10 =>
 gd (yv r10.1) false (some (r1.1, r10.2)) r10.2 fun r11 =>
 gd (yv r10.1) false (pm (abin Try.prog .gtr 3 r11.1 (.d (.int .i64 0))) r11.2) r11.2 fun r12 =>
 gd (yv r10.1) false (some (r12.1, r12.2)) r12.2 fun r13 =>
 gd (yv r13.1) true (some (r2.1, r13.2)) r13.2 fun r14 =>
 gd (yv r13.1) true (pm (abin Try.prog .lss 3 r14.1 (.d (.int .i64 0))) r14.2) r14.2 fun r15 =>
 gd (yv r10.1) false (pk r13.1 r15.1 (.d (.bool false)) r15.2) r15.2 fun r16 =>
 bi (pk r10.1 (.d (.bool true)) r16.1 r16.2) fun r17 =>
 cn (asB r17.1)
 (pu (aun .neg r6.1) r17.2 fun r18 =>
 some (.normal, [r18.1], r18.2))
 (some (.normal, [r6.1], r17.2))) fun j19 =>
 dsp j19.1 (bi (call 47 [(gv j19 0)] j19.2.2) fun r20 =>
 rt r20.1 r20.2) none [])

/-! #### rushlight/rushlightref01.Rem -/
noncomputable def fi33 : FI := ⟨26, 0, [.tmp 4], (.seq (rgn Try.f33.body 0) (.seq (rgn Try.f33.body 1) (.seq (.seq (rgn Try.f33.body 2) (.cond (.tmp 13) (.seq (rgn Try.f33.body 3) .ret) .skip)) (.seq (rgn Try.f33.body 4) (.cut ⟨[7], none, []⟩ (.seq (rgn Try.f33.body 5) (.cond (.tmp 21) (rgn Try.f33.body 6) .skip)) (.seq (rgn Try.f33.body 7) .ret))))))⟩
theorem fits33 : Fits Try.prog 33 fi33 Try.f33 := ⟨by kernel_rfl, by kernel_rfl, by kernel_rfl, by kernel_rfl, by kernel_rfl⟩
set_option maxRecDepth 100000 in
noncomputable def s33 (call : ACall) (lim : Nat) (a0 a1 : AV) (H : Heap) : Option Res :=
 bi (call 52 [a0] H) fun r1 =>
 bi (call 52 [a1] r1.2) fun r2 =>
 pu (abin Try.prog .eql 3 r2.1 (.d (.int .i64 0))) r2.2 fun r3 =>
 cn (asB r3.1)
 (rt a0 r3.2)
 (bi (call 53 [r1.1] r3.2) fun r4 =>
 bi (call 53 [r2.1] r4.2) fun r5 =>
 pu (abin Try.prog .rem 3 r4.1 r5.1) r5.2 fun r6 =>
 jn
 (pu (abin Try.prog .lss 3 r1.1 (.d (.int .i64 0))) r6.2 fun r7 =>
 cn (asB r7.1)
 (pu (aun .neg r6.1) r7.2 fun r8 =>
 some (.normal, [r8.1], r8.2))
 (some (.normal, [r6.1], r7.2))) fun j9 =>
 dsp j9.1 (bi (call 47 [(gv j9 0)] j9.2.2) fun r10 =>
 rt r10.1 r10.2) none [])

/-! #### rushlight/rushlightref01.Add -/
noncomputable def fi54 : FI := ⟨11, 0, [.tmp 4], (.seq (rgn Try.f54.body 0) (.seq (rgn Try.f54.body 1) .ret))⟩
theorem fits54 : Fits Try.prog 54 fi54 Try.f54 := ⟨by kernel_rfl, by kernel_rfl, by kernel_rfl, by kernel_rfl, by kernel_rfl⟩
set_option maxRecDepth 100000 in
noncomputable def s54 (call : ACall) (lim : Nat) (a0 a1 : AV) (H : Heap) : Option Res :=
 pu (cvI .i64 a0) H fun r1 =>
 pu (cvI .i64 a1) r1.2 fun r2 =>
 pu (abin Try.prog .add 3 r1.1 r2.1) r2.2 fun r3 =>
 bi (call 47 [r3.1] r3.2) fun r4 =>
 rt r4.1 r4.2

/-! #### rushlight/rushlightref01.Sub -/
noncomputable def fi55 : FI := ⟨11, 0, [.tmp 4], (.seq (rgn Try.f55.body 0) (.seq (rgn Try.f55.body 1) .ret))⟩
theorem fits55 : Fits Try.prog 55 fi55 Try.f55 := ⟨by kernel_rfl, by kernel_rfl, by kernel_rfl, by kernel_rfl, by kernel_rfl⟩
set_option maxRecDepth 100000 in
noncomputable def s55 (call : ACall) (lim : Nat) (a0 a1 : AV) (H : Heap) : Option Res :=
 pu (cvI .i64 a0) H fun r1 =>
 pu (cvI .i64 a1) r1.2 fun r2 =>
 pu (abin Try.prog .sub 3 r1.1 r2.1) r2.2 fun r3 =>
 bi (call 47 [r3.1] r3.2) fun r4 =>
 rt r4.1 r4.2

/-! #### rushlight/rushlightref01.half -/
noncomputable def fi70 : FI := ⟨57, 0, [.tmp 4, .tmp 5], (.seq (rgn Try.f70.body 0) (.seq (rgn Try.f70.body 1) (.seq (rgn Try.f70.body 2) (.seq (rgn Try.f70.body 3) (.seq (rgn Try.f70.body 4) (.seq (rgn Try.f70.body 5) (.seq (rgn Try.f70.body 6) .ret)))))))⟩
theorem fits70 : Fits Try.prog 70 fi70 Try.f70 := ⟨by kernel_rfl, by kernel_rfl, by kernel_rfl, by kernel_rfl, by kernel_rfl⟩
set_option maxRecDepth 100000 in
noncomputable def s70 (call : ACall) (lim : Nat) (a0 a1 : AV) (H : Heap) : Option Res :=
 pu (cvI .i64 a0) H fun r1 =>
 pu (abin Try.prog .rem 3 r1.1 (.d (.int .i64 65536))) r1.2 fun r2 =>
 pu (cvI .i64 a0) r2.2 fun r3 =>
 pu (abin Try.prog .quo 3 r3.1 (.d (.int .i64 65536))) r3.2 fun r4 =>
 pu (cvI .i64 a1) r4.2 fun r5 =>
 pu (abin Try.prog .rem 3 r5.1 (.d (.int .i64 65536))) r5.2 fun r6 =>
 pu (cvI .i64 a1) r6.2 fun r7 =>
 pu (abin Try.prog .quo 3 r7.1 (.d (.int .i64 65536))) r7.2 fun r8 =>
 pu (abin Try.prog .mul 3 r2.1 r6.1) r8.2 fun r9 =>
 pu (abin Try.prog .mul 3 r4.1 r6.1) r9.2 fun r10 =>
 pu (abin Try.prog .quo 3 r9.1 (.d (.int .i64 65536))) r10.2 fun r11 =>
 pu (abin Try.prog .add 3 r10.1 r11.1) r11.2 fun r12 =>
 pu (abin Try.prog .mul 3 r2.1 r8.1) r12.2 fun r13 =>
 pu (abin Try.prog .rem 3 r12.1 (.d (.int .i64 65536))) r13.2 fun r14 =>
 pu (abin Try.prog .add 3 r13.1 r14.1) r14.2 fun r15 =>
 pu (abin Try.prog .mul 3 r4.1 r8.1) r15.2 fun r16 =>
 pu (abin Try.prog .quo 3 r12.1 (.d (.int .i64 65536))) r16.2 fun r17 =>
 pu (abin Try.prog .add 3 r16.1 r17.1) r17.2 fun r18 =>
 pu (abin Try.prog .quo 3 r15.1 (.d (.int .i64 65536))) r18.2 fun r19 =>
 pu (abin Try.prog .add 3 r18.1 r19.1) r19.2 fun r20 =>
 pu (cvI .u32 r20.1) r20.2 fun r21 =>
 pu (abin Try.prog .rem 3 r15.1 (.d (.int .i64 65536))) r21.2 fun r22 =>
 pu (abin Try.prog .mul 3 r22.1 (.d (.int .i64 65536))) r22.2 fun r23 =>
 pu (abin Try.prog .rem 3 r9.1 (.d (.int .i64 65536))) r23.2 fun r24 =>
 pu (abin Try.prog .add 3 r23.1 r24.1) r24.2 fun r25 =>
 pu (cvI .u32 r25.1) r25.2 fun r26 =>
 rt (.tup [r21.1, r26.1]) r26.2

/-! #### rushlight/rushlightref01.Mul -/
noncomputable def fi56 : FI := ⟨14, 0, [.tmp 4], (.seq (rgn Try.f56.body 0) (.seq (rgn Try.f56.body 1) (.seq (rgn Try.f56.body 2) .ret)))⟩
theorem fits56 : Fits Try.prog 56 fi56 Try.f56 := ⟨by kernel_rfl, by kernel_rfl, by kernel_rfl, by kernel_rfl, by kernel_rfl⟩
set_option maxRecDepth 100000 in
noncomputable def s56 (call : ACall) (lim : Nat) (a0 a1 : AV) (H : Heap) : Option Res :=
 bi (call 70 [a0, a1] H) fun r1 =>
 pu (aextract r1.1 0) r1.2 fun r2 =>
 pu (aextract r1.1 1) r2.2 fun r3 =>
 rt r3.1 r3.2

/-! #### rushlight/rushlightref01.power -/
noncomputable def fi71 : FI := ⟨15, 0, [.tmp 2], (.seq (rgn Try.f71.body 0) (.seq (rgn Try.f71.body 1) (.seq (.seq (rgn Try.f71.body 2) (.block 0 (.loop ⟨[0, 3, 4], none, [(0, [3])]⟩ (.seq (.seq (rgn Try.f71.body 3) (.cond (.tmp 9) .skip (.exit 0))) (.seq (.block 1 (rgn Try.f71.body 5)) (rgn Try.f71.body 4)))))) (.seq (rgn Try.f71.body 6) .ret))))⟩
theorem fits71 : Fits Try.prog 71 fi71 Try.f71 := ⟨by kernel_rfl, by kernel_rfl, by kernel_rfl, by kernel_rfl, by kernel_rfl⟩
set_option maxRecDepth 100000 in
/-- A round: what is kept: [0, 3, 4]. -/
noncomputable def s71.l0 (call : ACall) (lim : Nat) (v1 : List AV) (h2 : Heap) : Option Res :=
 pu (abin Try.prog .rem 31 (v1.getD 0 .junk) (.d (.int .u32 32))) h2 fun r3 =>
 pu (cvI .i64 r3.1) r3.2 fun r4 =>
 pu (abin Try.prog .lss 3 (v1.getD 2 .junk) r4.1) r4.2 fun r5 =>
 cn (asB r5.1)
 (pu (abin Try.prog .mul 3 (.d (.int .i64 2)) (v1.getD 1 .junk)) r5.2 fun r6 =>
 pu (abin Try.prog .add 3 (v1.getD 2 .junk) (.d (.int .i64 1))) r6.2 fun r7 =>
 some (.normal, [(v1.getD 0 .junk), r6.1, r7.1], r7.2))
 (some (.exit 0, [(v1.getD 1 .junk)], r5.2))
set_option maxRecDepth 100000 in
noncomputable def s71 (call : ACall) (lim : Nat) (a0 : AV) (H : Heap) : Option Res :=
 lp (s71.l0 call lim) [a0, .d (.int .i64 1), .d (.int .i64 0)] H fun j8 =>
 dsp j8.1 none none [(0, rt (gv j8 0) j8.2.2)]

/-! #### rushlight/rushlightref01.Left -/
noncomputable def fi57 : FI := ⟨15, 0, [.tmp 4], (.seq (rgn Try.f57.body 0) (.seq (rgn Try.f57.body 1) .ret))⟩
theorem fits57 : Fits Try.prog 57 fi57 Try.f57 := ⟨by kernel_rfl, by kernel_rfl, by kernel_rfl, by kernel_rfl, by kernel_rfl⟩
set_option maxRecDepth 100000 in
noncomputable def s57 (call : ACall) (lim : Nat) (a0 a1 : AV) (H : Heap) : Option Res :=
 pu (cvI .i64 a0) H fun r1 =>
 bi (call 71 [a1] r1.2) fun r2 =>
 pu (abin Try.prog .quo 3 (.d (.int .i64 4294967296)) r2.1) r2.2 fun r3 =>
 pu (abin Try.prog .rem 3 r1.1 r3.1) r3.2 fun r4 =>
 bi (call 71 [a1] r4.2) fun r5 =>
 pu (abin Try.prog .mul 3 r4.1 r5.1) r5.2 fun r6 =>
 bi (call 47 [r6.1] r6.2) fun r7 =>
 rt r7.1 r7.2

/-! #### rushlight/rushlightref01.RightS -/
noncomputable def fi58 : FI := ⟨28, 0, [.tmp 4], (.seq (rgn Try.f58.body 0) (.seq (rgn Try.f58.body 1) (.seq (rgn Try.f58.body 2) (.cut ⟨[7], none, []⟩ (.seq (rgn Try.f58.body 3) (.cond (.tmp 23) (rgn Try.f58.body 4) .skip)) (.seq (rgn Try.f58.body 5) .ret)))))⟩
theorem fits58 : Fits Try.prog 58 fi58 Try.f58 := ⟨by kernel_rfl, by kernel_rfl, by kernel_rfl, by kernel_rfl, by kernel_rfl⟩
set_option maxRecDepth 100000 in
noncomputable def s58 (call : ACall) (lim : Nat) (a0 a1 : AV) (H : Heap) : Option Res :=
 bi (call 52 [a0] H) fun r1 =>
 bi (call 71 [a1] r1.2) fun r2 =>
 pu (abin Try.prog .quo 3 r1.1 r2.1) r2.2 fun r3 =>
 jn
 (pu (abin Try.prog .lss 3 r1.1 (.d (.int .i64 0))) r3.2 fun r4 =>
 gd (yv r4.1) true (some (r3.1, r4.2)) r4.2 fun r5 =>
 gd (yv r4.1) true (some (r2.1, r5.2)) r5.2 fun r6 =>
 gd (yv r4.1) true (pm (abin Try.prog .mul 3 r5.1 r6.1) r6.2) r6.2 fun r7 =>
 gd (yv r4.1) true (some (r1.1, r7.2)) r7.2 fun r8 =>
 gd (yv r4.1) true (pm (abin Try.prog .neq 3 r7.1 r8.1) r8.2) r8.2 fun r9 =>
 bi (pk r4.1 r9.1 (.d (.bool false)) r9.2) fun r10 =>
 cn (asB r10.1)
 (pu (abin Try.prog .sub 3 r3.1 (.d (.int .i64 1))) r10.2 fun r11 =>
 some (.normal, [r11.1], r11.2))
 (some (.normal, [r3.1], r10.2))) fun j12 =>
 dsp j12.1 (bi (call 47 [(gv j12 0)] j12.2.2) fun r13 =>
 rt r13.1 r13.2) none []

/-! #### rushlight/rushlightref10.truth -/
noncomputable def fi59 : FI := ⟨4, 0, [.tmp 2], (.seq (rgn Try.f59.body 0) (.seq (.seq (rgn Try.f59.body 1) (.cond (.tmp 3) (.seq (rgn Try.f59.body 2) .ret) .skip)) (.seq (rgn Try.f59.body 3) .ret)))⟩
theorem fits59 : Fits Try.prog 59 fi59 Try.f59 := ⟨by kernel_rfl, by kernel_rfl, by kernel_rfl, by kernel_rfl, by kernel_rfl⟩
set_option maxRecDepth 100000 in
noncomputable def s59 (call : ACall) (lim : Nat) (a0 : AV) (H : Heap) : Option Res :=
 cn (asB a0)
 (rt (.d (.int .u32 1)) H)
 (rt (.d (.int .u32 0)) H)

/-! #### rushlight/rushlightref10.Apply -/
noncomputable def fi34 : FI := ⟨99, 0, [.tmp 6, .tmp 7], (.seq (rgn Try.f34.body 0) (.seq (rgn Try.f34.body 1) (.seq (.seq (rgn Try.f34.body 2) (.cond (.tmp 24) (.seq (rgn Try.f34.body 3) .ret) .skip)) (.seq (rgn Try.f34.body 4) (.seq (.seq (rgn Try.f34.body 5) (.cond (.tmp 94) (.seq (rgn Try.f34.body 6) .ret) .skip)) (.seq (rgn Try.f34.body 7) .ret))))))⟩
theorem fits34 : Fits Try.prog 34 fi34 Try.f34 := ⟨by kernel_rfl, by kernel_rfl, by kernel_rfl, by kernel_rfl, by kernel_rfl⟩
set_option maxRecDepth 100000 in
noncomputable def s34 (call : ACall) (lim : Nat) (a0 a1 a2 : AV) (H : Heap) : Option Res :=
 bi (call 52 [a1] H) fun r1 =>
 bi (call 52 [a2] r1.2) fun r2 =>
 pu (abin Try.prog .eql 3 a0 (.d (.int .i64 4))) r2.2 fun r3 =>
 gd (yv r3.1) false (some (a0, r3.2)) r3.2 fun r4 =>
 gd (yv r3.1) false (pm (abin Try.prog .eql 3 r4.1 (.d (.int .i64 5))) r4.2) r4.2 fun r5 =>
 bi (pk r3.1 (.d (.bool true)) r5.1 r5.2) fun r6 =>
 gd (yv r6.1) true (some (a2, r6.2)) r6.2 fun r7 =>
 gd (yv r6.1) true (pm (abin Try.prog .eql 31 r7.1 (.d (.int .u32 0))) r7.2) r7.2 fun r8 =>
 bi (pk r6.1 r8.1 (.d (.bool false)) r8.2) fun r9 =>
 cn (asB r9.1)
 (rt (.tup [.d (.int .u32 0), .d (.int .i64 11)]) r9.2)
 (bi (call 54 [a1, a2] r9.2) fun r10 =>
 bi (call 55 [a1, a2] r10.2) fun r11 =>
 bi (call 56 [a1, a2] r11.2) fun r12 =>
 bi (call 32 [a1, a2] r12.2) fun r13 =>
 bi (call 33 [a1, a2] r13.2) fun r14 =>
 pu (abin Try.prog .and 31 a1 a2) r14.2 fun r15 =>
 pu (abin Try.prog .or 31 a1 a2) r15.2 fun r16 =>
 pu (abin Try.prog .xor 31 a1 a2) r16.2 fun r17 =>
 bi (call 57 [a1, a2] r17.2) fun r18 =>
 bi (call 58 [a1, a2] r18.2) fun r19 =>
 pu (abin Try.prog .eql 3 r1.1 r2.1) r19.2 fun r20 =>
 bi (call 59 [r20.1] r20.2) fun r21 =>
 pu (abin Try.prog .neq 3 r1.1 r2.1) r21.2 fun r22 =>
 bi (call 59 [r22.1] r22.2) fun r23 =>
 pu (abin Try.prog .lss 3 r1.1 r2.1) r23.2 fun r24 =>
 bi (call 59 [r24.1] r24.2) fun r25 =>
 pu (abin Try.prog .gtr 3 r1.1 r2.1) r25.2 fun r26 =>
 bi (call 59 [r26.1] r26.2) fun r27 =>
 pu (abin Try.prog .leq 3 r1.1 r2.1) r27.2 fun r28 =>
 bi (call 59 [r28.1] r28.2) fun r29 =>
 pu (abin Try.prog .geq 3 r1.1 r2.1) r29.2 fun r30 =>
 bi (call 59 [r30.1] r30.2) fun r31 =>
 bi (call 55 [.d (.int .u32 0), a1] r31.2) fun r32 =>
 bi (call 55 [.d (.int .u32 4294967295), a1] r32.2) fun r33 =>
 pu (abin Try.prog .eql 31 a1 (.d (.int .u32 0))) r33.2 fun r34 =>
 bi (call 59 [r34.1] r34.2) fun r35 =>
 bi (bldS 1 20 [.d (.int .u32 0)] [(0, .d (.int .u32 0)), (1, r10.1), (2, r11.1), (3, r12.1), (4, r13.1), (5, r14.1), (6, r15.1), (7, r16.1), (8, r17.1), (9, r18.1), (10, r19.1), (11, r21.1), (12, r23.1), (13, r25.1), (14, r27.1), (15, r29.1), (16, r31.1), (17, r32.1), (18, r33.1), (19, r35.1)] r35.2) fun r36 =>
 pu (abin Try.prog .lss 3 a0 (.d (.int .i64 1))) r36.2 fun r37 =>
 gd (yv r37.1) false (some (a0, r37.2)) r37.2 fun r38 =>
 gd (yv r37.1) false (some (r36.1, r38.2)) r38.2 fun r39 =>
 gd (yv r37.1) false (pm (lnS r39.1) r39.2) r39.2 fun r40 =>
 gd (yv r37.1) false (pm (abin Try.prog .geq 3 r38.1 r40.1) r40.2) r40.2 fun r41 =>
 bi (pk r37.1 (.d (.bool true)) r41.1 r41.2) fun r42 =>
 cn (asB r42.1)
 (rt (.tup [.d (.int .u32 0), .d (.int .i64 1)]) r42.2)
 (pu (ixS 1 r36.1 a0) r42.2 fun r43 =>
 pu (ld r43.2 r43.1) r43.2 fun r44 =>
 rt (.tup [r44.1, .d (.int .i64 0)]) r44.2))

/-! #### rushlight/rushlightref14.Fn -/
noncomputable def fi13 : FI := ⟨29, 0, [.tmp 6], (.seq (rgn Try.f13.body 0) (.seq (.seq (rgn Try.f13.body 1) (.cond (.tmp 10) (.seq (rgn Try.f13.body 2) .ret) .skip)) (.seq (.seq (rgn Try.f13.body 3) (.cond (.tmp 15) (.seq (rgn Try.f13.body 4) .ret) .skip)) (.seq (rgn Try.f13.body 5) (.seq (.seq (rgn Try.f13.body 6) (.cond (.tmp 27) (.seq (rgn Try.f13.body 7) .ret) .skip)) (.seq (rgn Try.f13.body 8) .ret))))))⟩
theorem fits13 : Fits Try.prog 13 fi13 Try.f13 := ⟨by kernel_rfl, by kernel_rfl, by kernel_rfl, by kernel_rfl, by kernel_rfl⟩
set_option maxRecDepth 100000 in
noncomputable def s13 (call : ACall) (lim : Nat) (a0 a1 a2 : AV) (H : Heap) : Option Res :=
 pu (abin Try.prog .eql 3 a0 (.d (.int .i64 4))) H fun r1 =>
 cn (asB r1.1)
 (bi (call 32 [a1, a2] r1.2) fun r2 =>
 rt r2.1 r2.2)
 (pu (abin Try.prog .eql 3 a0 (.d (.int .i64 5))) r1.2 fun r3 =>
 cn (asB r3.1)
 (bi (call 33 [a1, a2] r3.2) fun r4 =>
 rt r4.1 r4.2)
 (bi (call 34 [a0, a1, a2] r3.2) fun r5 =>
 pu (aextract r5.1 0) r5.2 fun r6 =>
 pu (aextract r5.1 1) r6.2 fun r7 =>
 pu (abin Try.prog .neq 3 r7.1 (.d (.int .i64 0))) r7.2 fun r8 =>
 cn (asB r8.1)
 (rt (.d (.int .u32 0)) r8.2)
 (rt r6.1 r8.2)))

/-! #### (*rushlight/rushlightref14.Run).bytes -/
noncomputable def fi69 : FI := ⟨36, 2, [.tmp 6], (.seq (rgn Try.f69.body 0) (.seq (rgn Try.f69.body 1) (.seq (.seq (rgn Try.f69.body 2) (.cond (.tmp 27) (.seq (rgn Try.f69.body 3) (.seq (rgn Try.f69.body 4) (.seq (rgn Try.f69.body 5) .ret))) .skip)) (.seq (rgn Try.f69.body 6) .ret))))⟩
theorem fits69 : Fits Try.prog 69 fi69 Try.f69 := ⟨by kernel_rfl, by kernel_rfl, by kernel_rfl, by kernel_rfl, by kernel_rfl⟩
set_option maxRecDepth 100000 in
noncomputable def s69 (call : ACall) (lim : Nat) (a0 a1 a2 : AV) (H : Heap) : Option Res :=
 pu (cvI .i64 a1) H fun r1 =>
 pu (abin Try.prog .sub 3 r1.1 (.d (.int .i64 268435456))) r1.2 fun r2 =>
 pu (abin Try.prog .lss 3 r2.1 (.d (.int .i64 0))) r2.2 fun r3 =>
 gd (yv r3.1) false (some (r2.1, r3.2)) r3.2 fun r4 =>
 gd (yv r3.1) false (some (a2, r4.2)) r4.2 fun r5 =>
 gd (yv r3.1) false (pm (abin Try.prog .add 3 r4.1 r5.1) r5.2) r5.2 fun r6 =>
 gd (yv r3.1) false (pm (abin Try.prog .gtr 3 r6.1 (.d (.int .i64 65536))) r6.2) r6.2 fun r7 =>
 bi (pk r3.1 (.d (.bool true)) r7.1 r7.2) fun r8 =>
 gd (yv r8.1) false (some (a2, r8.2)) r8.2 fun r9 =>
 gd (yv r8.1) false (pm (abin Try.prog .eql 3 r9.1 (.d (.int .i64 4))) r9.2) r9.2 fun r10 =>
 gd (yv r8.1) false (some (r10.1, r10.2)) r10.2 fun r11 =>
 gd (yv r11.1) true (some (r2.1, r11.2)) r11.2 fun r12 =>
 gd (yv r11.1) true (pm (abin Try.prog .rem 3 r12.1 (.d (.int .i64 4))) r12.2) r12.2 fun r13 =>
 gd (yv r11.1) true (pm (abin Try.prog .neq 3 r13.1 (.d (.int .i64 0))) r13.2) r13.2 fun r14 =>
 gd (yv r8.1) false (pk r11.1 r14.1 (.d (.bool false)) r14.2) r14.2 fun r15 =>
 bi (pk r8.1 (.d (.bool true)) r15.1 r15.2) fun r16 =>
 cn (asB r16.1)
 (pu (anil a0) r16.2 fun r17 =>
 pu (fa 8 r17.1) r17.2 fun r18 =>
 pu (fa 3 r18.1) r18.2 fun r19 =>
 bi (stA 1 lim r19.2 r19.1 (.d (.int .i64 12))) fun r20 =>
 pu (anil a0) r20.2 fun r21 =>
 pu (fa 12 r21.1) r21.2 fun r22 =>
 bi (stA 1 lim r22.2 r22.1 (.d (.bool true))) fun r23 =>
 rt (.d (.int .i64 (-1))) r23.2)
 (rt r2.1 r16.2)

/-! #### (*rushlight/rushlightref14.Run).memory -/
noncomputable def fi46 : FI := ⟨83, 2, [], (.seq (rgn Try.f46.body 0) (.seq (rgn Try.f46.body 1) (.seq (.seq (rgn Try.f46.body 2) (.cond (.tmp 26) .ret .skip)) (.seq (.seq (rgn Try.f46.body 3) (.cond (.tmp 29) (.seq (rgn Try.f46.body 4) (.seq (.seq (rgn Try.f46.body 5) (.block 0 (.loop ⟨[0, 4, 5, 6, 7, 8], none, [(0, [4, 5, 7])]⟩ (.seq (.seq (rgn Try.f46.body 6) (.cond (.tmp 34) .skip (.exit 0))) (.seq (.block 1 (rgn Try.f46.body 8)) (rgn Try.f46.body 7)))))) (.seq (rgn Try.f46.body 9) .ret))) .skip)) (.seq (rgn Try.f46.body 10) (.seq (rgn Try.f46.body 11) (.block 2 (.loop ⟨[0, 5, 6, 9, 10], none, [(2, [])]⟩ (.seq (.seq (rgn Try.f46.body 12) (.cond (.tmp 67) .skip (.exit 2))) (.seq (.block 3 (.seq (rgn Try.f46.body 14) (rgn Try.f46.body 15))) (rgn Try.f46.body 13)))))))))))⟩
theorem fits46 : Fits Try.prog 46 fi46 Try.f46 := ⟨by kernel_rfl, by kernel_rfl, by kernel_rfl, by kernel_rfl, by kernel_rfl⟩
set_option maxRecDepth 100000 in
/-- A round: what is kept: [0, 4, 5, 6, 7, 8]. -/
noncomputable def s46.l0 (call : ACall) (lim : Nat) (v23 : List AV) (h24 : Heap) : Option Res :=
 pu (abin Try.prog .geq 3 (v23.getD 5 .junk) (.d (.int .i64 0))) h24 fun r25 =>
 cn (asB r25.1)
 (pu (abin Try.prog .mul 3 (.d (.int .i64 256)) (v23.getD 4 .junk)) r25.2 fun r26 =>
 pu (anil (v23.getD 0 .junk)) r26.2 fun r27 =>
 pu (fa 4 r27.1) r27.2 fun r28 =>
 pu (ld r28.2 r28.1) r28.2 fun r29 =>
 pu (abin Try.prog .add 3 (v23.getD 3 .junk) (v23.getD 5 .junk)) r29.2 fun r30 =>
 pu (ixS 1 r29.1 r30.1) r30.2 fun r31 =>
 pu (ld r31.2 r31.1) r31.2 fun r32 =>
 pu (cvI .i64 r32.1) r32.2 fun r33 =>
 pu (abin Try.prog .add 3 r26.1 r33.1) r33.2 fun r34 =>
 pu (abin Try.prog .sub 3 (v23.getD 5 .junk) (.d (.int .i64 1))) r34.2 fun r35 =>
 some (.normal, [(v23.getD 0 .junk), (v23.getD 1 .junk), (v23.getD 2 .junk), (v23.getD 3 .junk), r34.1, r35.1], r35.2))
 (some (.exit 0, [(v23.getD 1 .junk), (v23.getD 2 .junk), (v23.getD 4 .junk)], r25.2))
set_option maxRecDepth 100000 in
/-- A round: what is kept: [0, 5, 6, 9, 10]. -/
noncomputable def s46.l1 (call : ACall) (lim : Nat) (v51 : List AV) (h52 : Heap) : Option Res :=
 pu (fa 7 (v51.getD 1 .junk)) h52 fun r53 =>
 pu (ld r53.2 r53.1) r53.2 fun r54 =>
 pu (abin Try.prog .lss 3 (v51.getD 4 .junk) r54.1) r54.2 fun r55 =>
 cn (asB r55.1)
 (pu (anil (v51.getD 0 .junk)) r55.2 fun r56 =>
 pu (fa 4 r56.1) r56.2 fun r57 =>
 pu (ld r57.2 r57.1) r57.2 fun r58 =>
 pu (abin Try.prog .add 3 (v51.getD 2 .junk) (v51.getD 4 .junk)) r58.2 fun r59 =>
 pu (abin Try.prog .rem 3 (v51.getD 3 .junk) (.d (.int .i64 256))) r59.2 fun r60 =>
 pu (cvI .u8 r60.1) r60.2 fun r61 =>
 pu (ixS 1 r58.1 r59.1) r61.2 fun r62 =>
 bi (stA 1 lim r62.2 r62.1 r61.1) fun r63 =>
 pu (abin Try.prog .quo 3 (v51.getD 3 .junk) (.d (.int .i64 256))) r63.2 fun r64 =>
 pu (abin Try.prog .add 3 (v51.getD 4 .junk) (.d (.int .i64 1))) r64.2 fun r65 =>
 some (.normal, [(v51.getD 0 .junk), (v51.getD 1 .junk), (v51.getD 2 .junk), r64.1, r65.1], r65.2))
 (some (.exit 2, [], r55.2))
set_option maxRecDepth 100000 in
noncomputable def s46 (call : ACall) (lim : Nat) (a0 a1 a2 : AV) (H : Heap) : Option Res :=
 bi (bx a1 H) fun r1 =>
 bi (bx a2 r1.2) fun r2 =>
 pu (fa 1 r1.1) r2.2 fun r3 =>
 pu (ld r3.2 r3.1) r3.2 fun r4 =>
 pu (fa 2 r2.1) r4.2 fun r5 =>
 pu (ld r5.2 r5.1) r5.2 fun r6 =>
 pu (ixS 1 r4.1 r6.1) r6.2 fun r7 =>
 pu (ld r7.2 r7.1) r7.2 fun r8 =>
 pu (fa 6 r2.1) r8.2 fun r9 =>
 pu (ld r9.2 r9.1) r9.2 fun r10 =>
 bi (call 47 [r10.1] r10.2) fun r11 =>
 pu (abin Try.prog .add 31 r8.1 r11.1) r11.2 fun r12 =>
 pu (fa 7 r2.1) r12.2 fun r13 =>
 pu (ld r13.2 r13.1) r13.2 fun r14 =>
 bi (call 69 [a0, r12.1, r14.1] r14.2) fun r15 =>
 pu (abin Try.prog .lss 3 r15.1 (.d (.int .i64 0))) r15.2 fun r16 =>
 cn (asB r16.1)
 (rt (.tup []) r16.2)
 (pu (fa 0 r2.1) r16.2 fun r17 =>
 pu (ld r17.2 r17.1) r17.2 fun r18 =>
 pu (abin Try.prog .eql 3 r18.1 (.d (.int .i64 5))) r18.2 fun r19 =>
 cn (asB r19.1)
 (pu (fa 7 r2.1) r19.2 fun r20 =>
 pu (ld r20.2 r20.1) r20.2 fun r21 =>
 pu (abin Try.prog .sub 3 r21.1 (.d (.int .i64 1))) r21.2 fun r22 =>
 lp (s46.l0 call lim) [a0, r1.1, r2.1, r15.1, .d (.int .i64 0), r22.1] r22.2 fun j36 =>
 dsp j36.1 none none [(0, pu (fa 1 (gv j36 0)) j36.2.2 fun r37 =>
 pu (ld r37.2 r37.1) r37.2 fun r38 =>
 pu (fa 1 (gv j36 1)) r38.2 fun r39 =>
 pu (ld r39.2 r39.1) r39.2 fun r40 =>
 pu (cvI .u32 (gv j36 2)) r40.2 fun r41 =>
 pu (ixS 1 r38.1 r40.1) r41.2 fun r42 =>
 bi (stA 1 lim r42.2 r42.1 r41.1) fun r43 =>
 rt (.tup []) r43.2)])
 (pu (fa 1 r1.1) r19.2 fun r44 =>
 pu (ld r44.2 r44.1) r44.2 fun r45 =>
 pu (fa 3 r2.1) r45.2 fun r46 =>
 pu (ld r46.2 r46.1) r46.2 fun r47 =>
 pu (ixS 1 r45.1 r47.1) r47.2 fun r48 =>
 pu (ld r48.2 r48.1) r48.2 fun r49 =>
 pu (cvI .i64 r49.1) r49.2 fun r50 =>
 lp (s46.l1 call lim) [a0, r2.1, r15.1, r50.1, .d (.int .i64 0)] r50.2 fun j66 =>
 dsp j66.1 none none [(2, rt (.tup []) j66.2.2)]))

/-! #### (*rushlight/rushlightref14.Run).step -/
noncomputable def fi22 : FI := ⟨292, 2, [], (.seq (rgn Try.f22.body 0) (.seq (rgn Try.f22.body 1) (.seq (rgn Try.f22.body 2) (.seq (rgn Try.f22.body 3) (.seq (.seq (rgn Try.f22.body 4) (.cond (.tmp 46) (.seq (rgn Try.f22.body 5) .ret) .skip)) (.seq (rgn Try.f22.body 6) (.seq (rgn Try.f22.body 7) (.cut ⟨[0, 3, 4, 6], none, []⟩ (.seq (rgn Try.f22.body 8) (.cond (.tmp 69) (rgn Try.f22.body 9) .skip)) (.cut ⟨[0, 3, 4, 6], none, []⟩ (.seq (rgn Try.f22.body 10) (.cond (.tmp 79) (rgn Try.f22.body 11) .skip)) (.cut ⟨[0, 3, 4, 6], none, []⟩ (.seq (rgn Try.f22.body 12) (.cond (.tmp 93) (rgn Try.f22.body 13) .skip)) (.cut ⟨[0, 3, 4, 6], none, []⟩ (.seq (rgn Try.f22.body 14) (.cond (.tmp 116) (rgn Try.f22.body 15) .skip)) (.cut ⟨[0, 3, 4, 6], none, []⟩ (.seq (rgn Try.f22.body 16) (.cond (.tmp 138) (rgn Try.f22.body 17) .skip)) (.cut ⟨[0, 3, 6], none, []⟩ (.seq (rgn Try.f22.body 18) (.cond (.tmp 145) (.seq (rgn Try.f22.body 19) (rgn Try.f22.body 20)) .skip)) (.cut ⟨[0, 3, 6], none, []⟩ (.seq (rgn Try.f22.body 21) (.cond (.tmp 172) (.seq (rgn Try.f22.body 22) (rgn Try.f22.body 23)) .skip)) (.cut ⟨[0, 3, 6], none, []⟩ (.seq (rgn Try.f22.body 24) (.cond (.tmp 199) (.seq (rgn Try.f22.body 25) (.seq (.seq (rgn Try.f22.body 26) (.block 0 (.loop ⟨[0, 3, 6, 11, 12], none, [(0, [0, 3, 6, 11])]⟩ (.seq (.seq (rgn Try.f22.body 27) (.cond (.tmp 204) .skip (.exit 0))) (.seq (.block 1 (rgn Try.f22.body 29)) (rgn Try.f22.body 28)))))) (rgn Try.f22.body 30))) .skip)) (.cut ⟨[0, 3, 6], none, []⟩ (.seq (rgn Try.f22.body 31) (.cond (.tmp 228) (rgn Try.f22.body 32) .skip)) (.seq (rgn Try.f22.body 33) (.cond (.tmp 248) (.seq (rgn Try.f22.body 34) (.seq (rgn Try.f22.body 35) (.seq (rgn Try.f22.body 36) (.cond (.tmp 274) (rgn Try.f22.body 37) .skip)))) .skip))))))))))))))))))⟩
theorem fits22 : Fits Try.prog 22 fi22 Try.f22 := ⟨by kernel_rfl, by kernel_rfl, by kernel_rfl, by kernel_rfl, by kernel_rfl⟩
set_option maxRecDepth 100000 in
/-- A round: what is kept: [0, 3, 6, 11, 12]. -/
noncomputable def s22.l0 (call : ACall) (lim : Nat) (v195 : List AV) (h196 : Heap) : Option Res :=
 pu (fa 9 (v195.getD 2 .junk)) h196 fun r197 =>
 pu (ld r197.2 r197.1) r197.2 fun r198 =>
 pu (lnS r198.1) r198.2 fun r199 =>
 pu (abin Try.prog .lss 3 (v195.getD 4 .junk) r199.1) r199.2 fun r200 =>
 cn (asB r200.1)
 (pu (fa 1 (v195.getD 1 .junk)) r200.2 fun r201 =>
 pu (ld r201.2 r201.1) r201.2 fun r202 =>
 pu (fa 9 (v195.getD 2 .junk)) r202.2 fun r203 =>
 pu (ld r203.2 r203.1) r203.2 fun r204 =>
 pu (ixS 1 r204.1 (v195.getD 4 .junk)) r204.2 fun r205 =>
 pu (ld r205.2 r205.1) r205.2 fun r206 =>
 pu (ixS 1 r202.1 r206.1) r206.2 fun r207 =>
 pu (ld r207.2 r207.1) r207.2 fun r208 =>
 bi (bldS 1 1 [.d (.int .u32 0)] [(0, r208.1)] r208.2) fun r209 =>
 bi (app 1 4 lim r209.2 (v195.getD 3 .junk) (elS 1 r209.2 r209.1)) fun r210 =>
 pu (abin Try.prog .add 3 (v195.getD 4 .junk) (.d (.int .i64 1))) r210.2 fun r211 =>
 some (.normal, [(v195.getD 0 .junk), (v195.getD 1 .junk), (v195.getD 2 .junk), r210.1, r211.1], r211.2))
 (some (.exit 0, [(v195.getD 0 .junk), (v195.getD 1 .junk), (v195.getD 2 .junk), (v195.getD 3 .junk)], r200.2))
set_option maxRecDepth 100000 in
noncomputable def s22 (call : ACall) (lim : Nat) (a0 : AV) (H : Heap) : Option Res :=
 pu (anil a0) H fun r1 =>
 pu (fa 5 r1.1) r1.2 fun r2 =>
 pu (ld r2.2 r2.1) r2.2 fun r3 =>
 pu (lnS r3.1) r3.2 fun r4 =>
 pu (abin Try.prog .sub 3 r4.1 (.d (.int .i64 1))) r4.2 fun r5 =>
 pu (anil a0) r5.2 fun r6 =>
 pu (fa 5 r6.1) r6.2 fun r7 =>
 pu (ld r7.2 r7.1) r7.2 fun r8 =>
 pu (ixS 5 r8.1 r5.1) r8.2 fun r9 =>
 pu (ldA 5 r9.2 r9.1) r9.2 fun r10 =>
 bi (al [.d (.int .i64 0), .d (.seq true 0 []), .d (.int .i64 0), .d (.int .i64 0), .d (.int .i64 0)] r10.2) fun r11 =>
 bi (stA 5 lim r11.2 r11.1 r10.1) fun r12 =>
 pu (anil a0) r12.2 fun r13 =>
 pu (fa 0 r13.1) r13.2 fun r14 =>
 pu (fa 2 r14.1) r14.2 fun r15 =>
 pu (ld r15.2 r15.1) r15.2 fun r16 =>
 pu (fa 0 r11.1) r16.2 fun r17 =>
 pu (ld r17.2 r17.1) r17.2 fun r18 =>
 pu (ixS 6 r16.1 r18.1) r18.2 fun r19 =>
 pu (ldA 6 r19.2 r19.1) r19.2 fun r20 =>
 bi (al [.d (.str ⟨#[]⟩), .d (.bool false), .d (.int .i64 0), .d (.int .i64 0), .d (.seq true 0 []), .d (.seq true 0 [])] r20.2) fun r21 =>
 ck [again lim (pm (ld r21.2 r15.1) r21.2) r16.1 r21.2, again lim (pm (ld r21.2 r17.1) r21.2) r18.1 r21.2, again lim (pm (ldA 6 r21.2 r19.1) r21.2) r20.1 r21.2] (
 bi (stA 6 lim r21.2 r21.1 r20.1) fun r22 =>
 pu (fa 5 r21.1) r22.2 fun r23 =>
 pu (ld r23.2 r23.1) r23.2 fun r24 =>
 pu (fa 3 r11.1) r24.2 fun r25 =>
 pu (ld r25.2 r25.1) r25.2 fun r26 =>
 pu (ixS 5 r24.1 r26.1) r26.2 fun r27 =>
 pu (ldA 5 r27.2 r27.1) r27.2 fun r28 =>
 bi (al [.d (.seq true 0 []), .d (.int .i64 0), .d (.int .i64 0), .d (.int .i64 0), .d (.int .i64 0)] r28.2) fun r29 =>
 bi (stA 5 lim r29.2 r29.1 r28.1) fun r30 =>
 pu (fa 4 r11.1) r30.2 fun r31 =>
 pu (ld r31.2 r31.1) r31.2 fun r32 =>
 pu (fa 0 r29.1) r32.2 fun r33 =>
 pu (ld r33.2 r33.1) r33.2 fun r34 =>
 pu (lnS r34.1) r34.2 fun r35 =>
 pu (abin Try.prog .eql 3 r32.1 r35.1) r35.2 fun r36 =>
 cn (asB r36.1)
 (pu (ldA 5 r36.2 r29.1) r36.2 fun r37 =>
 bi (call 45 [a0, r5.1, r37.1] r37.2) fun r38 =>
 rt (.tup []) r38.2)
 (pu (fa 0 r29.1) r36.2 fun r39 =>
 pu (ld r39.2 r39.1) r39.2 fun r40 =>
 pu (fa 4 r11.1) r40.2 fun r41 =>
 pu (ld r41.2 r41.1) r41.2 fun r42 =>
 pu (ixS 11 r40.1 r42.1) r42.2 fun r43 =>
 pu (ldA 11 r43.2 r43.1) r43.2 fun r44 =>
 bi (al [.d (.int .i64 0), .d (.int .i64 0), .d (.int .i64 0), .d (.int .i64 0), .d (.int .i64 0), .d (.int .i64 0), .d (.int .i64 0), .d (.int .i64 0), .d (.int .u32 0), .d (.seq true 0 []), .d (.bool false)] r44.2) fun r45 =>
 bi (stA 11 lim r45.2 r45.1 r44.1) fun r46 =>
 pu (anil a0) r46.2 fun r47 =>
 pu (fa 5 r47.1) r47.2 fun r48 =>
 pu (ld r48.2 r48.1) r48.2 fun r49 =>
 pu (fa 4 r11.1) r49.2 fun r50 =>
 pu (ld r50.2 r50.1) r50.2 fun r51 =>
 pu (abin Try.prog .add 3 r51.1 (.d (.int .i64 1))) r51.2 fun r52 =>
 pu (ixS 5 r49.1 r5.1) r52.2 fun r53 =>
 pu (fa 4 r53.1) r53.2 fun r54 =>
 bi (stA 1 lim r54.2 r54.1 r52.1) fun r55 =>
 jn
 (pu (fa 0 r45.1) r55.2 fun r56 =>
 pu (ld r56.2 r56.1) r56.2 fun r57 =>
 pu (abin Try.prog .eql 3 r57.1 (.d (.int .i64 1))) r57.2 fun r58 =>
 cn (asB r58.1)
 (pu (fa 1 r11.1) r58.2 fun r59 =>
 pu (ld r59.2 r59.1) r59.2 fun r60 =>
 pu (fa 1 r45.1) r60.2 fun r61 =>
 pu (ld r61.2 r61.1) r61.2 fun r62 =>
 pu (fa 8 r45.1) r62.2 fun r63 =>
 pu (ld r63.2 r63.1) r63.2 fun r64 =>
 pu (ixS 1 r60.1 r62.1) r64.2 fun r65 =>
 bi (stA 1 lim r65.2 r65.1 r64.1) fun r66 =>
 some (.normal, [a0, r11.1, r21.1, r45.1], r66.2))
 (some (.normal, [a0, r11.1, r21.1, r45.1], r58.2))) fun j67 =>
 dsp j67.1 (jn
 (pu (fa 0 (gv j67 3)) j67.2.2 fun r68 =>
 pu (ld r68.2 r68.1) r68.2 fun r69 =>
 pu (abin Try.prog .eql 3 r69.1 (.d (.int .i64 2))) r69.2 fun r70 =>
 cn (asB r70.1)
 (pu (fa 1 (gv j67 1)) r70.2 fun r71 =>
 pu (ld r71.2 r71.1) r71.2 fun r72 =>
 pu (fa 1 (gv j67 3)) r72.2 fun r73 =>
 pu (ld r73.2 r73.1) r73.2 fun r74 =>
 pu (fa 1 (gv j67 1)) r74.2 fun r75 =>
 pu (ld r75.2 r75.1) r75.2 fun r76 =>
 pu (fa 2 (gv j67 3)) r76.2 fun r77 =>
 pu (ld r77.2 r77.1) r77.2 fun r78 =>
 pu (ixS 1 r76.1 r78.1) r78.2 fun r79 =>
 pu (ld r79.2 r79.1) r79.2 fun r80 =>
 pu (ixS 1 r72.1 r74.1) r80.2 fun r81 =>
 bi (stA 1 lim r81.2 r81.1 r80.1) fun r82 =>
 some (.normal, [(gv j67 0), (gv j67 1), (gv j67 2), (gv j67 3)], r82.2))
 (some (.normal, [(gv j67 0), (gv j67 1), (gv j67 2), (gv j67 3)], r70.2))) fun j83 =>
 dsp j83.1 (jn
 (pu (fa 0 (gv j83 3)) j83.2.2 fun r84 =>
 pu (ld r84.2 r84.1) r84.2 fun r85 =>
 pu (abin Try.prog .eql 3 r85.1 (.d (.int .i64 3))) r85.2 fun r86 =>
 cn (asB r86.1)
 (pu (fa 1 (gv j83 1)) r86.2 fun r87 =>
 pu (ld r87.2 r87.1) r87.2 fun r88 =>
 pu (fa 1 (gv j83 3)) r88.2 fun r89 =>
 pu (ld r89.2 r89.1) r89.2 fun r90 =>
 pu (fa 4 (gv j83 3)) r90.2 fun r91 =>
 pu (ld r91.2 r91.1) r91.2 fun r92 =>
 pu (fa 1 (gv j83 1)) r92.2 fun r93 =>
 pu (ld r93.2 r93.1) r93.2 fun r94 =>
 pu (fa 2 (gv j83 3)) r94.2 fun r95 =>
 pu (ld r95.2 r95.1) r95.2 fun r96 =>
 pu (ixS 1 r94.1 r96.1) r96.2 fun r97 =>
 pu (ld r97.2 r97.1) r97.2 fun r98 =>
 pu (fa 1 (gv j83 1)) r98.2 fun r99 =>
 pu (ld r99.2 r99.1) r99.2 fun r100 =>
 pu (fa 3 (gv j83 3)) r100.2 fun r101 =>
 pu (ld r101.2 r101.1) r101.2 fun r102 =>
 pu (ixS 1 r100.1 r102.1) r102.2 fun r103 =>
 pu (ld r103.2 r103.1) r103.2 fun r104 =>
 bi (call 13 [r92.1, r98.1, r104.1] r104.2) fun r105 =>
 pu (ixS 1 r88.1 r90.1) r105.2 fun r106 =>
 bi (stA 1 lim r106.2 r106.1 r105.1) fun r107 =>
 some (.normal, [(gv j83 0), (gv j83 1), (gv j83 2), (gv j83 3)], r107.2))
 (some (.normal, [(gv j83 0), (gv j83 1), (gv j83 2), (gv j83 3)], r86.2))) fun j108 =>
 dsp j108.1 (jn
 (pu (fa 0 (gv j108 3)) j108.2.2 fun r109 =>
 pu (ld r109.2 r109.1) r109.2 fun r110 =>
 pu (abin Try.prog .eql 3 r110.1 (.d (.int .i64 4))) r110.2 fun r111 =>
 cn (asB r111.1)
 (pu (fa 1 (gv j108 1)) r111.2 fun r112 =>
 pu (ld r112.2 r112.1) r112.2 fun r113 =>
 pu (fa 1 (gv j108 3)) r113.2 fun r114 =>
 pu (ld r114.2 r114.1) r114.2 fun r115 =>
 pu (fa 4 (gv j108 3)) r115.2 fun r116 =>
 pu (ld r116.2 r116.1) r116.2 fun r117 =>
 pu (fa 1 (gv j108 1)) r117.2 fun r118 =>
 pu (ld r118.2 r118.1) r118.2 fun r119 =>
 pu (fa 2 (gv j108 3)) r119.2 fun r120 =>
 pu (ld r120.2 r120.1) r120.2 fun r121 =>
 pu (ixS 1 r119.1 r121.1) r121.2 fun r122 =>
 pu (ld r122.2 r122.1) r122.2 fun r123 =>
 bi (call 13 [r117.1, r123.1, .d (.int .u32 0)] r123.2) fun r124 =>
 pu (ixS 1 r113.1 r115.1) r124.2 fun r125 =>
 bi (stA 1 lim r125.2 r125.1 r124.1) fun r126 =>
 some (.normal, [(gv j108 0), (gv j108 1), (gv j108 2), (gv j108 3)], r126.2))
 (some (.normal, [(gv j108 0), (gv j108 1), (gv j108 2), (gv j108 3)], r111.2))) fun j127 =>
 dsp j127.1 (jn
 (pu (fa 0 (gv j127 3)) j127.2.2 fun r128 =>
 pu (ld r128.2 r128.1) r128.2 fun r129 =>
 pu (abin Try.prog .eql 3 r129.1 (.d (.int .i64 5))) r129.2 fun r130 =>
 gd (yv r130.1) false (pm (fa 0 (gv j127 3)) r130.2) r130.2 fun r131 =>
 gd (yv r130.1) false (pm (ld r131.2 r131.1) r131.2) r131.2 fun r132 =>
 gd (yv r130.1) false (pm (abin Try.prog .eql 3 r132.1 (.d (.int .i64 6))) r132.2) r132.2 fun r133 =>
 bi (pk r130.1 (.d (.bool true)) r133.1 r133.2) fun r134 =>
 cn (asB r134.1)
 (pu (ldA 5 r134.2 (gv j127 1)) r134.2 fun r135 =>
 pu (ldA 11 r135.2 (gv j127 3)) r135.2 fun r136 =>
 bi (call 46 [(gv j127 0), r135.1, r136.1] r136.2) fun r137 =>
 some (.normal, [(gv j127 0), (gv j127 1), (gv j127 2), (gv j127 3)], r137.2))
 (some (.normal, [(gv j127 0), (gv j127 1), (gv j127 2), (gv j127 3)], r134.2))) fun j138 =>
 dsp j138.1 (jn
 (pu (fa 0 (gv j138 3)) j138.2.2 fun r139 =>
 pu (ld r139.2 r139.1) r139.2 fun r140 =>
 pu (abin Try.prog .eql 3 r140.1 (.d (.int .i64 7))) r140.2 fun r141 =>
 cn (asB r141.1)
 (pu (fa 4 (gv j138 2)) r141.2 fun r142 =>
 pu (ld r142.2 r142.1) r142.2 fun r143 =>
 bi (call 15 [r143.1] r143.2) fun r144 =>
 pu (aextract r144.1 0) r144.2 fun r145 =>
 pu (aextract r144.1 1) r145.2 fun r146 =>
 pu (fa 1 (gv j138 1)) r146.2 fun r147 =>
 pu (ld r147.2 r147.1) r147.2 fun r148 =>
 pu (fa 1 (gv j138 3)) r148.2 fun r149 =>
 pu (ld r149.2 r149.1) r149.2 fun r150 =>
 pu (fa 2 (gv j138 1)) r150.2 fun r151 =>
 pu (ld r151.2 r151.1) r151.2 fun r152 =>
 pu (abin Try.prog .add 3 (.d (.int .i64 268435456)) r152.1) r152.2 fun r153 =>
 pu (fa 5 (gv j138 3)) r153.2 fun r154 =>
 pu (ld r154.2 r154.1) r154.2 fun r155 =>
 pu (ixS 1 r145.1 r155.1) r155.2 fun r156 =>
 pu (ld r156.2 r156.1) r156.2 fun r157 =>
 pu (abin Try.prog .add 3 r153.1 r157.1) r157.2 fun r158 =>
 pu (fa 6 (gv j138 3)) r158.2 fun r159 =>
 pu (ld r159.2 r159.1) r159.2 fun r160 =>
 pu (abin Try.prog .add 3 r158.1 r160.1) r160.2 fun r161 =>
 bi (call 47 [r161.1] r161.2) fun r162 =>
 pu (ixS 1 r148.1 r150.1) r162.2 fun r163 =>
 bi (stA 1 lim r163.2 r163.1 r162.1) fun r164 =>
 some (.normal, [(gv j138 0), (gv j138 1), (gv j138 3)], r164.2))
 (some (.normal, [(gv j138 0), (gv j138 1), (gv j138 3)], r141.2))) fun j165 =>
 dsp j165.1 (jn
 (pu (fa 0 (gv j165 2)) j165.2.2 fun r166 =>
 pu (ld r166.2 r166.1) r166.2 fun r167 =>
 pu (abin Try.prog .eql 3 r167.1 (.d (.int .i64 8))) r167.2 fun r168 =>
 cn (asB r168.1)
 (pu (anil (gv j165 0)) r168.2 fun r169 =>
 pu (fa 0 r169.1) r169.2 fun r170 =>
 pu (fa 0 r170.1) r170.2 fun r171 =>
 pu (ld r171.2 r171.1) r171.2 fun r172 =>
 bi (call 15 [r172.1] r172.2) fun r173 =>
 pu (aextract r173.1 0) r173.2 fun r174 =>
 pu (aextract r173.1 1) r174.2 fun r175 =>
 pu (fa 1 (gv j165 1)) r175.2 fun r176 =>
 pu (ld r176.2 r176.1) r176.2 fun r177 =>
 pu (fa 1 (gv j165 2)) r177.2 fun r178 =>
 pu (ld r178.2 r178.1) r178.2 fun r179 =>
 pu (fa 5 (gv j165 2)) r179.2 fun r180 =>
 pu (ld r180.2 r180.1) r180.2 fun r181 =>
 pu (ixS 1 r174.1 r181.1) r181.2 fun r182 =>
 pu (ld r182.2 r182.1) r182.2 fun r183 =>
 pu (abin Try.prog .add 3 (.d (.int .i64 268439552)) r183.1) r183.2 fun r184 =>
 pu (fa 6 (gv j165 2)) r184.2 fun r185 =>
 pu (ld r185.2 r185.1) r185.2 fun r186 =>
 pu (abin Try.prog .add 3 r184.1 r186.1) r186.2 fun r187 =>
 bi (call 47 [r187.1] r187.2) fun r188 =>
 pu (ixS 1 r177.1 r179.1) r188.2 fun r189 =>
 bi (stA 1 lim r189.2 r189.1 r188.1) fun r190 =>
 some (.normal, [(gv j165 0), (gv j165 1), (gv j165 2)], r190.2))
 (some (.normal, [(gv j165 0), (gv j165 1), (gv j165 2)], r168.2))) fun j191 =>
 dsp j191.1 (jn
 (pu (fa 0 (gv j191 2)) j191.2.2 fun r192 =>
 pu (ld r192.2 r192.1) r192.2 fun r193 =>
 pu (abin Try.prog .eql 3 r193.1 (.d (.int .i64 9))) r193.2 fun r194 =>
 cn (asB r194.1)
 (lp (s22.l0 call lim) [(gv j191 0), (gv j191 1), (gv j191 2), .d (.seq true 0 []), .d (.int .i64 0)] r194.2 fun j212 =>
 dsp j212.1 none none [(0, pu (fa 5 (gv j212 2)) j212.2.2 fun r213 =>
 pu (ld r213.2 r213.1) r213.2 fun r214 =>
 pu (fa 2 (gv j212 1)) r214.2 fun r215 =>
 pu (ld r215.2 r215.1) r215.2 fun r216 =>
 bi (call 21 [(gv j212 0), r214.1, (gv j212 3), r216.1] r216.2) fun r217 =>
 some (.normal, [(gv j212 0), (gv j212 1), (gv j212 2)], r217.2))])
 (some (.normal, [(gv j191 0), (gv j191 1), (gv j191 2)], r194.2))) fun j218 =>
 dsp j218.1 (jn
 (pu (fa 0 (gv j218 2)) j218.2.2 fun r219 =>
 pu (ld r219.2 r219.1) r219.2 fun r220 =>
 pu (abin Try.prog .eql 3 r220.1 (.d (.int .i64 10))) r220.2 fun r221 =>
 cn (asB r221.1)
 (pu (anil (gv j218 0)) r221.2 fun r222 =>
 pu (fa 8 r222.1) r222.2 fun r223 =>
 pu (fa 0 r223.1) r223.2 fun r224 =>
 pu (ld r224.2 r224.1) r224.2 fun r225 =>
 pu (fa 1 (gv j218 1)) r225.2 fun r226 =>
 pu (ld r226.2 r226.1) r226.2 fun r227 =>
 pu (fa 2 (gv j218 2)) r227.2 fun r228 =>
 pu (ld r228.2 r228.1) r228.2 fun r229 =>
 pu (ixS 1 r227.1 r229.1) r229.2 fun r230 =>
 pu (ld r230.2 r230.1) r230.2 fun r231 =>
 bi (bldS 1 1 [.d (.int .u32 0)] [(0, r231.1)] r231.2) fun r232 =>
 ck [again lim (pm (ld r232.2 r224.1) r232.2) r225.1 r232.2] (
 bi (app 1 4 lim r232.2 r225.1 (elS 1 r232.2 r232.1)) fun r233 =>
 pu (anil (gv j218 0)) r233.2 fun r234 =>
 pu (fa 8 r234.1) r234.2 fun r235 =>
 pu (fa 0 r235.1) r235.2 fun r236 =>
 bi (stA 1 lim r236.2 r236.1 r233.1) fun r237 =>
 some (.normal, [(gv j218 0), (gv j218 1), (gv j218 2)], r237.2)))
 (some (.normal, [(gv j218 0), (gv j218 1), (gv j218 2)], r221.2))) fun j238 =>
 dsp j238.1 (pu (fa 0 (gv j238 2)) j238.2.2 fun r239 =>
 pu (ld r239.2 r239.1) r239.2 fun r240 =>
 pu (abin Try.prog .eql 3 r240.1 (.d (.int .i64 11))) r240.2 fun r241 =>
 cn (asB r241.1)
 (pu (anil (gv j238 0)) r241.2 fun r242 =>
 pu (fa 8 r242.1) r242.2 fun r243 =>
 pu (fa 1 r243.1) r243.2 fun r244 =>
 pu (ld r244.2 r244.1) r244.2 fun r245 =>
 pu (abin Try.prog .add 3 r245.1 (.d (.int .i64 1))) r245.2 fun r246 =>
 pu (anil (gv j238 0)) r246.2 fun r247 =>
 pu (fa 8 r247.1) r247.2 fun r248 =>
 pu (fa 1 r248.1) r248.2 fun r249 =>
 bi (stA 1 lim r249.2 r249.1 r246.1) fun r250 =>
 pu (fa 1 (gv j238 1)) r250.2 fun r251 =>
 pu (ld r251.2 r251.1) r251.2 fun r252 =>
 pu (fa 1 (gv j238 2)) r252.2 fun r253 =>
 pu (ld r253.2 r253.1) r253.2 fun r254 =>
 pu (ixS 1 r252.1 r254.1) r254.2 fun r255 =>
 bi (stA 1 lim r255.2 r255.1 (.d (.int .u32 0))) fun r256 =>
 pu (anil (gv j238 0)) r256.2 fun r257 =>
 pu (fa 8 r257.1) r257.2 fun r258 =>
 pu (fa 1 r258.1) r258.2 fun r259 =>
 pu (ld r259.2 r259.1) r259.2 fun r260 =>
 pu (anil (gv j238 0)) r260.2 fun r261 =>
 pu (fa 7 r261.1) r261.2 fun r262 =>
 pu (ld r262.2 r262.1) r262.2 fun r263 =>
 pu (lnS r263.1) r263.2 fun r264 =>
 pu (abin Try.prog .leq 3 r260.1 r264.1) r264.2 fun r265 =>
 cn (asB r265.1)
 (pu (fa 1 (gv j238 1)) r265.2 fun r266 =>
 pu (ld r266.2 r266.1) r266.2 fun r267 =>
 pu (fa 1 (gv j238 2)) r267.2 fun r268 =>
 pu (ld r268.2 r268.1) r268.2 fun r269 =>
 pu (anil (gv j238 0)) r269.2 fun r270 =>
 pu (fa 7 r270.1) r270.2 fun r271 =>
 pu (ld r271.2 r271.1) r271.2 fun r272 =>
 pu (anil (gv j238 0)) r272.2 fun r273 =>
 pu (fa 8 r273.1) r273.2 fun r274 =>
 pu (fa 1 r274.1) r274.2 fun r275 =>
 pu (ld r275.2 r275.1) r275.2 fun r276 =>
 pu (abin Try.prog .sub 3 r276.1 (.d (.int .i64 1))) r276.2 fun r277 =>
 pu (ixS 1 r272.1 r277.1) r277.2 fun r278 =>
 pu (ld r278.2 r278.1) r278.2 fun r279 =>
 pu (ixS 1 r267.1 r269.1) r279.2 fun r280 =>
 bi (stA 1 lim r280.2 r280.1 r279.1) fun r281 =>
 rt (.tup []) r281.2)
 (rt (.tup []) r265.2))
 (rt (.tup []) r241.2)) none []) none []) none []) none []) none []) none []) none []) none []) none []))

/-! #### rushlight/rushlightref14.Play -/
noncomputable def fi11 : FI := ⟨103, 0, [.cell 6 34], (.seq (rgn Try.f11.body 0) (.seq (.seq (rgn Try.f11.body 1) (.cond (.tmp 14) (.seq (rgn Try.f11.body 2) .ret) .skip)) (.seq (rgn Try.f11.body 3) (.seq (rgn Try.f11.body 4) (.seq (.seq (rgn Try.f11.body 5) (.cond (.tmp 34) (.seq (rgn Try.f11.body 6) .ret) .skip)) (.seq (rgn Try.f11.body 7) (.seq (.seq (rgn Try.f11.body 8) (.block 0 (.loop ⟨[2, 3, 6, 7, 9, 10], none, [(0, [2, 3, 6, 9])]⟩ (.seq (.seq (rgn Try.f11.body 9) (.cond (.tmp 43) .skip (.exit 0))) (.seq (.block 1 (.seq (rgn Try.f11.body 11) (.block 2 (.loop ⟨[2, 3, 6, 7, 9, 10, 11], none, [(2, [2, 3, 6, 7, 9, 10])]⟩ (.seq (.seq (rgn Try.f11.body 12) (.cond (.tmp 53) .skip (.exit 2))) (.seq (.block 3 (rgn Try.f11.body 14)) (rgn Try.f11.body 13))))))) (rgn Try.f11.body 10)))))) (.seq (rgn Try.f11.body 15) (.seq (.block 4 (.loop ⟨[2, 6, 9], some [6], [(4, [6, 9])]⟩ (.seq (.seq (rgn Try.f11.body 16) (.cond (.tmp 84) .skip (.exit 4))) (.block 5 (.seq (.seq (rgn Try.f11.body 17) (.cond (.tmp 86) (.seq (rgn Try.f11.body 18) (.seq (rgn Try.f11.body 19) .ret)) .skip)) (.seq (rgn Try.f11.body 20) (rgn Try.f11.body 21))))))) (.seq (rgn Try.f11.body 22) .ret))))))))))⟩
theorem fits11 : Fits Try.prog 11 fi11 Try.f11 := ⟨by kernel_rfl, by kernel_rfl, by kernel_rfl, by kernel_rfl, by kernel_rfl⟩
set_option maxRecDepth 100000 in
/-- A round: what is kept: [2, 3, 6, 7, 9, 10, 11]. -/
noncomputable def s11.l0 (call : ACall) (lim : Nat) (v33 : List AV) (h34 : Heap) : Option Res :=
 pu (fa 1 (v33.getD 1 .junk)) h34 fun r35 =>
 pu (ld r35.2 r35.1) r35.2 fun r36 =>
 pu (ixS 1 r36.1 (v33.getD 5 .junk)) r36.2 fun r37 =>
 pu (ld r37.2 r37.1) r37.2 fun r38 =>
 pu (lnS r38.1) r38.2 fun r39 =>
 pu (abin Try.prog .lss 3 (v33.getD 6 .junk) r39.1) r39.2 fun r40 =>
 cn (asB r40.1)
 (pu (anil (v33.getD 4 .junk)) r40.2 fun r41 =>
 pu (fa 4 r41.1) r41.2 fun r42 =>
 pu (ld r42.2 r42.1) r42.2 fun r43 =>
 pu (ixS 1 (v33.getD 3 .junk) (v33.getD 5 .junk)) r43.2 fun r44 =>
 pu (ld r44.2 r44.1) r44.2 fun r45 =>
 pu (abin Try.prog .add 3 (.d (.int .i64 4096)) r45.1) r45.2 fun r46 =>
 pu (abin Try.prog .add 3 r46.1 (v33.getD 6 .junk)) r46.2 fun r47 =>
 pu (fa 1 (v33.getD 1 .junk)) r47.2 fun r48 =>
 pu (ld r48.2 r48.1) r48.2 fun r49 =>
 pu (ixS 1 r49.1 (v33.getD 5 .junk)) r49.2 fun r50 =>
 pu (ld r50.2 r50.1) r50.2 fun r51 =>
 pu (ixS 1 r51.1 (v33.getD 6 .junk)) r51.2 fun r52 =>
 pu (ld r52.2 r52.1) r52.2 fun r53 =>
 pu (ixS 1 r43.1 r47.1) r53.2 fun r54 =>
 bi (stA 1 lim r54.2 r54.1 r53.1) fun r55 =>
 pu (abin Try.prog .add 3 (v33.getD 6 .junk) (.d (.int .i64 1))) r55.2 fun r56 =>
 some (.normal, [(v33.getD 0 .junk), (v33.getD 1 .junk), (v33.getD 2 .junk), (v33.getD 3 .junk), (v33.getD 4 .junk), (v33.getD 5 .junk), r56.1], r56.2))
 (some (.exit 2, [(v33.getD 0 .junk), (v33.getD 1 .junk), (v33.getD 2 .junk), (v33.getD 3 .junk), (v33.getD 4 .junk), (v33.getD 5 .junk)], r40.2))
set_option maxRecDepth 100000 in
/-- A round: what is kept: [2, 3, 6, 7, 9, 10]. -/
noncomputable def s11.l1 (call : ACall) (lim : Nat) (v29 : List AV) (h30 : Heap) : Option Res :=
 pu (lnS (v29.getD 3 .junk)) h30 fun r31 =>
 pu (abin Try.prog .lss 3 (v29.getD 5 .junk) r31.1) r31.2 fun r32 =>
 cn (asB r32.1)
 (lp (s11.l0 call lim) [(v29.getD 0 .junk), (v29.getD 1 .junk), (v29.getD 2 .junk), (v29.getD 3 .junk), (v29.getD 4 .junk), (v29.getD 5 .junk), .d (.int .i64 0)] r32.2 fun j57 =>
 dsp j57.1 none none [(2, pu (abin Try.prog .add 3 (gv j57 5) (.d (.int .i64 1))) j57.2.2 fun r58 =>
 some (.normal, [(gv j57 0), (gv j57 1), (gv j57 2), (gv j57 3), (gv j57 4), r58.1], r58.2))])
 (some (.exit 0, [(v29.getD 0 .junk), (v29.getD 1 .junk), (v29.getD 2 .junk), (v29.getD 4 .junk)], r32.2))
set_option maxRecDepth 100000 in
/-- A round: what is kept: [2, 6, 9]. -/
noncomputable def s11.l2 (call : ACall) (lim : Nat) (v63 : List AV) (h64 : Heap) : Option Res :=
 pu (anil (v63.getD 2 .junk)) h64 fun r65 =>
 pu (fa 12 r65.1) r65.2 fun r66 =>
 pu (ld r66.2 r66.1) r66.2 fun r67 =>
 pu (aun .not r67.1) r67.2 fun r68 =>
 cn (asB r68.1)
 (pu (abin Try.prog .leq 3 (v63.getD 0 .junk) (.d (.int .i64 0))) r68.2 fun r69 =>
 cn (asB r69.1)
 (pu (anil (v63.getD 2 .junk)) r69.2 fun r70 =>
 pu (fa 8 r70.1) r70.2 fun r71 =>
 pu (fa 3 r71.1) r71.2 fun r72 =>
 bi (stA 1 lim r72.2 r72.1 (.d (.int .i64 16))) fun r73 =>
 pu (anil (v63.getD 2 .junk)) r73.2 fun r74 =>
 pu (fa 8 r74.1) r74.2 fun r75 =>
 pu (ldA 4 r75.2 r75.1) r75.2 fun r76 =>
 bi (stA 4 lim r76.2 (v63.getD 1 .junk) r76.1) fun r77 =>
 some (.ret, [(v63.getD 1 .junk)], r77.2))
 (pu (abin Try.prog .sub 3 (v63.getD 0 .junk) (.d (.int .i64 1))) r69.2 fun r78 =>
 bi (call 22 [(v63.getD 2 .junk)] r78.2) fun r79 =>
 some (.normal, [r78.1, (v63.getD 1 .junk), (v63.getD 2 .junk)], r79.2)))
 (some (.exit 4, [(v63.getD 1 .junk), (v63.getD 2 .junk)], r68.2))
set_option maxRecDepth 100000 in
noncomputable def s11 (call : ACall) (lim : Nat) (a0 a1 a2 : AV) (H : Heap) : Option Res :=
 bi (bx a0 H) fun r1 =>
 bi (al [.d (.seq true 0 []), .d (.int .i64 0), .d (.int .u32 0), .d (.int .i64 0)] r1.2) fun r2 =>
 pu (ldA 4 r2.2 r1.1) r2.2 fun r3 =>
 bi (call 20 [r3.1] r3.2) fun r4 =>
 pu (abin Try.prog .neq 3 r4.1 (.d (.int .i64 0))) r4.2 fun r5 =>
 cn (asB r5.1)
 (pu (ldA 4 r5.2 r1.1) r5.2 fun r6 =>
 bi (call 20 [r6.1] r6.2) fun r7 =>
 pu (bld [(0, 1), (1, 1), (2, 1), (3, 1)] [.d (.seq true 0 []), .d (.int .i64 0), .d (.int .u32 0), .d (.int .i64 0)] [(3, r7.1)]) r7.2 fun r8 =>
 bi (stA 4 lim r8.2 r2.1 r8.1) fun r9 =>
 rs [ldA 4 r9.2 r2.1] r9.2)
 (pu (fa 0 r1.1) r5.2 fun r10 =>
 pu (ld r10.2 r10.1) r10.2 fun r11 =>
 bi (call 15 [r11.1] r11.2) fun r12 =>
 pu (aextract r12.1 0) r12.2 fun r13 =>
 pu (aextract r12.1 1) r13.2 fun r14 =>
 pu (ldA 4 r14.2 r1.1) r14.2 fun r15 =>
 pu (abin Try.prog .add 3 (.d (.int .i64 4096)) r14.1) r15.2 fun r16 =>
 pu (bld [(0, 4), (4, 1), (5, 1), (6, 1), (7, 1), (8, 4), (12, 1)] [.d (.seq true 0 []), .d (.seq true 0 []), .d (.seq true 0 []), .d (.int .i64 0), .d (.seq true 0 []), .d (.seq true 0 []), .d (.int .i64 0), .d (.seq true 0 []), .d (.seq true 0 []), .d (.int .i64 0), .d (.int .u32 0), .d (.int .i64 0), .d (.bool false)] [(0, r15.1), (3, r16.1), (4, a1)]) r16.2 fun r17 =>
 bi (bx r17.1 r17.2) fun r18 =>
 pu (anil r18.1) r18.2 fun r19 =>
 pu (fa 6 r19.1) r19.2 fun r20 =>
 pu (ld r20.2 r20.1) r20.2 fun r21 =>
 pu (abin Try.prog .gtr 3 r21.1 (.d (.int .i64 65536))) r21.2 fun r22 =>
 cn (asB r22.1)
 (pu (bld [(0, 1), (1, 1), (2, 1), (3, 1)] [.d (.seq true 0 []), .d (.int .i64 0), .d (.int .u32 0), .d (.int .i64 0)] [(3, .d (.int .i64 8))]) r22.2 fun r23 =>
 bi (stA 4 lim r23.2 r2.1 r23.1) fun r24 =>
 rs [ldA 4 r24.2 r2.1] r24.2)
 (bi (mkS 1 1 [.d (.int .u8 0)] r22.2 (.d (.int .i64 65536)) (.d (.int .i64 65536))) fun r25 =>
 pu (anil r18.1) r25.2 fun r26 =>
 pu (fa 4 r26.1) r26.2 fun r27 =>
 bi (stA 1 lim r27.2 r27.1 r25.1) fun r28 =>
 lp (s11.l1 call lim) [a2, r1.1, r2.1, r13.1, r18.1, .d (.int .i64 0)] r28.2 fun j59 =>
 dsp j59.1 none none [(0, pu (fa 3 (gv j59 1)) j59.2.2 fun r60 =>
 pu (ld r60.2 r60.1) r60.2 fun r61 =>
 bi (call 21 [(gv j59 3), r61.1, .d (.seq true 0 []), .d (.int .i64 65536)] r61.2) fun r62 =>
 lp (s11.l2 call lim) [(gv j59 0), (gv j59 2), (gv j59 3)] r62.2 fun j80 =>
 dsp j80.1 none (rs [ldA 4 j80.2.2 (gv j80 0)] j80.2.2) [(4, pu (anil (gv j80 1)) j80.2.2 fun r81 =>
 pu (fa 8 r81.1) r81.2 fun r82 =>
 pu (ldA 4 r82.2 r82.1) r82.2 fun r83 =>
 bi (stA 4 lim r83.2 (gv j80 0) r83.1) fun r84 =>
 rs [ldA 4 r84.2 (gv j80 0)] r84.2)])]))

/-! #### rushlight/rushlightlaw12.Begins -/
noncomputable def fi16 : FI := ⟨26, 0, [.tmp 4], (.seq (rgn Try.f16.body 0) (.seq (.seq (rgn Try.f16.body 1) (.cond (.tmp 10) (.seq (rgn Try.f16.body 2) .ret) .skip)) (.seq (.seq (rgn Try.f16.body 3) (.block 0 (.loop ⟨[0, 1, 5], some [4], [(0, [])]⟩ (.seq (.seq (rgn Try.f16.body 4) (.cond (.tmp 14) .skip (.exit 0))) (.seq (.block 1 (.seq (rgn Try.f16.body 6) (.cond (.tmp 25) (.seq (rgn Try.f16.body 7) .ret) .skip))) (rgn Try.f16.body 5)))))) (.seq (rgn Try.f16.body 8) .ret))))⟩
theorem fits16 : Fits Try.prog 16 fi16 Try.f16 := ⟨by kernel_rfl, by kernel_rfl, by kernel_rfl, by kernel_rfl, by kernel_rfl⟩
set_option maxRecDepth 100000 in
/-- A round: what is kept: [0, 1, 5]. -/
noncomputable def s16.l0 (call : ACall) (lim : Nat) (v4 : List AV) (h5 : Heap) : Option Res :=
 pu (lnS (v4.getD 0 .junk)) h5 fun r6 =>
 pu (abin Try.prog .lss 3 (v4.getD 2 .junk) r6.1) r6.2 fun r7 =>
 cn (asB r7.1)
 (pu (ixS 1 (v4.getD 0 .junk) (v4.getD 2 .junk)) r7.2 fun r8 =>
 pu (ld r8.2 r8.1) r8.2 fun r9 =>
 pu (ixS 1 (v4.getD 1 .junk) (v4.getD 2 .junk)) r9.2 fun r10 =>
 pu (ld r10.2 r10.1) r10.2 fun r11 =>
 pu (abin Try.prog .neq 31 r9.1 r11.1) r11.2 fun r12 =>
 cn (asB r12.1)
 (some (.ret, [.d (.bool false)], r12.2))
 (pu (abin Try.prog .add 3 (v4.getD 2 .junk) (.d (.int .i64 1))) r12.2 fun r13 =>
 some (.normal, [(v4.getD 0 .junk), (v4.getD 1 .junk), r13.1], r13.2)))
 (some (.exit 0, [], r7.2))
set_option maxRecDepth 100000 in
noncomputable def s16 (call : ACall) (lim : Nat) (a0 a1 : AV) (H : Heap) : Option Res :=
 pu (lnS a0) H fun r1 =>
 pu (lnS a1) r1.2 fun r2 =>
 pu (abin Try.prog .gtr 3 r1.1 r2.1) r2.2 fun r3 =>
 cn (asB r3.1)
 (rt (.d (.bool false)) r3.2)
 (lp (s16.l0 call lim) [a0, a1, .d (.int .i64 0)] r3.2 fun j14 =>
 dsp j14.1 none (rt (gv j14 0) j14.2.2) [(0, rt (.d (.bool true)) j14.2.2)])

/-! #### rushlight/rushlightlaw12.Same -/
noncomputable def fi9 : FI := ⟨40, 0, [.tmp 4], (.seq (rgn Try.f9.body 0) (.seq (rgn Try.f9.body 1) .ret))⟩
theorem fits9 : Fits Try.prog 9 fi9 Try.f9 := ⟨by kernel_rfl, by kernel_rfl, by kernel_rfl, by kernel_rfl, by kernel_rfl⟩
set_option maxRecDepth 100000 in
noncomputable def s9 (call : ACall) (lim : Nat) (a0 a1 : AV) (H : Heap) : Option Res :=
 bi (bx a0 H) fun r1 =>
 bi (bx a1 r1.2) fun r2 =>
 pu (fa 0 r1.1) r2.2 fun r3 =>
 pu (ld r3.2 r3.1) r3.2 fun r4 =>
 pu (lnS r4.1) r4.2 fun r5 =>
 pu (fa 0 r2.1) r5.2 fun r6 =>
 pu (ld r6.2 r6.1) r6.2 fun r7 =>
 pu (lnS r7.1) r7.2 fun r8 =>
 pu (abin Try.prog .eql 3 r5.1 r8.1) r8.2 fun r9 =>
 gd (yv r9.1) true (pm (fa 0 r1.1) r9.2) r9.2 fun r10 =>
 gd (yv r9.1) true (pm (ld r10.2 r10.1) r10.2) r10.2 fun r11 =>
 gd (yv r9.1) true (pm (fa 0 r2.1) r11.2) r11.2 fun r12 =>
 gd (yv r9.1) true (pm (ld r12.2 r12.1) r12.2) r12.2 fun r13 =>
 gd (yv r9.1) true (call 16 [r11.1, r13.1] r13.2) r13.2 fun r14 =>
 bi (pk r9.1 r14.1 (.d (.bool false)) r14.2) fun r15 =>
 gd (yv r15.1) true (pm (fa 1 r1.1) r15.2) r15.2 fun r16 =>
 gd (yv r15.1) true (pm (ld r16.2 r16.1) r16.2) r16.2 fun r17 =>
 gd (yv r15.1) true (pm (fa 1 r2.1) r17.2) r17.2 fun r18 =>
 gd (yv r15.1) true (pm (ld r18.2 r18.1) r18.2) r18.2 fun r19 =>
 gd (yv r15.1) true (pm (abin Try.prog .eql 3 r17.1 r19.1) r19.2) r19.2 fun r20 =>
 bi (pk r15.1 r20.1 (.d (.bool false)) r20.2) fun r21 =>
 gd (yv r21.1) true (pm (fa 2 r1.1) r21.2) r21.2 fun r22 =>
 gd (yv r21.1) true (pm (ld r22.2 r22.1) r22.2) r22.2 fun r23 =>
 gd (yv r21.1) true (pm (fa 2 r2.1) r23.2) r23.2 fun r24 =>
 gd (yv r21.1) true (pm (ld r24.2 r24.1) r24.2) r24.2 fun r25 =>
 gd (yv r21.1) true (pm (abin Try.prog .eql 31 r23.1 r25.1) r25.2) r25.2 fun r26 =>
 bi (pk r21.1 r26.1 (.d (.bool false)) r26.2) fun r27 =>
 gd (yv r27.1) true (pm (fa 3 r1.1) r27.2) r27.2 fun r28 =>
 gd (yv r27.1) true (pm (ld r28.2 r28.1) r28.2) r28.2 fun r29 =>
 gd (yv r27.1) true (pm (fa 3 r2.1) r29.2) r29.2 fun r30 =>
 gd (yv r27.1) true (pm (ld r30.2 r30.1) r30.2) r30.2 fun r31 =>
 gd (yv r27.1) true (pm (abin Try.prog .eql 32 r29.1 r31.1) r31.2) r31.2 fun r32 =>
 bi (pk r27.1 r32.1 (.d (.bool false)) r32.2) fun r33 =>
 rt r33.1 r33.2

/-! #### rushlight/rushlightlaw14.IrrunRuns -/
noncomputable def fi3 : FI := ⟨32, 0, [.tmp 6], (.seq (rgn Try.f3.body 0) (.seq (.seq (rgn Try.f3.body 1) (.cond (.tmp 18) (.seq (rgn Try.f3.body 2) .ret) .skip)) (.seq (rgn Try.f3.body 3) .ret)))⟩
theorem fits3 : Fits Try.prog 3 fi3 Try.f3 := ⟨by kernel_rfl, by kernel_rfl, by kernel_rfl, by kernel_rfl, by kernel_rfl⟩
set_option maxRecDepth 100000 in
noncomputable def s3 (call : ACall) (lim : Nat) (a0 a1 a2 : AV) (H : Heap) : Option Res :=
 bi (bx a0 H) fun r1 =>
 pu (ldA 4 r1.2 r1.1) r1.2 fun r2 =>
 bi (call 7 [r2.1] r2.2) fun r3 =>
 pu (aun .not r3.1) r3.2 fun r4 =>
 gd (yv r4.1) false (some (a1, r4.2)) r4.2 fun r5 =>
 gd (yv r4.1) false (pm (lnS r5.1) r5.2) r5.2 fun r6 =>
 gd (yv r4.1) false (pm (abin Try.prog .gtr 3 r6.1 (.d (.int .i64 40))) r6.2) r6.2 fun r7 =>
 bi (pk r4.1 (.d (.bool true)) r7.1 r7.2) fun r8 =>
 gd (yv r8.1) false (some (a2, r8.2)) r8.2 fun r9 =>
 gd (yv r8.1) false (pm (abin Try.prog .gtr 3 r9.1 (.d (.int .i64 3000))) r9.2) r9.2 fun r10 =>
 bi (pk r8.1 (.d (.bool true)) r10.1 r10.2) fun r11 =>
 cn (asB r11.1)
 (bi (call 8 [] r11.2) fun r12 =>
 rt r12.1 r12.2)
 (bi (call 8 [] r11.2) fun r13 =>
 gd (yv r13.1) true (pm (ldA 4 r13.2 r1.1) r13.2) r13.2 fun r14 =>
 gd (yv r13.1) true (some (a1, r14.2)) r14.2 fun r15 =>
 gd (yv r13.1) true (some (a2, r15.2)) r15.2 fun r16 =>
 gd (yv r13.1) true (call 10 [r14.1, r15.1, r16.1] r16.2) r16.2 fun r17 =>
 gd (yv r13.1) true (pm (ldA 4 r17.2 r1.1) r17.2) r17.2 fun r18 =>
 gd (yv r13.1) true (some (a1, r18.2)) r18.2 fun r19 =>
 gd (yv r13.1) true (some (a2, r19.2)) r19.2 fun r20 =>
 gd (yv r13.1) true (call 11 [r18.1, r19.1, r20.1] r20.2) r20.2 fun r21 =>
 gd (yv r13.1) true (call 9 [r17.1, r21.1] r21.2) r21.2 fun r22 =>
 bi (pk r13.1 r22.1 (.d (.bool false)) r22.2) fun r23 =>
 rt r23.1 r23.2)

/-! #### rushlight/rushlightlaw14.IrrunFns -/
noncomputable def fi4 : FI := ⟨19, 0, [.tmp 6], (.seq (rgn Try.f4.body 0) (.seq (rgn Try.f4.body 1) .ret))⟩
theorem fits4 : Fits Try.prog 4 fi4 Try.f4 := ⟨by kernel_rfl, by kernel_rfl, by kernel_rfl, by kernel_rfl, by kernel_rfl⟩
set_option maxRecDepth 100000 in
noncomputable def s4 (call : ACall) (lim : Nat) (a0 a1 a2 : AV) (H : Heap) : Option Res :=
 bi (call 8 [] H) fun r1 =>
 gd (yv r1.1) true (some (a0, r1.2)) r1.2 fun r2 =>
 gd (yv r1.1) true (some (a1, r2.2)) r2.2 fun r3 =>
 gd (yv r1.1) true (some (a2, r3.2)) r3.2 fun r4 =>
 gd (yv r1.1) true (call 12 [r2.1, r3.1, r4.1] r4.2) r4.2 fun r5 =>
 gd (yv r1.1) true (some (a0, r5.2)) r5.2 fun r6 =>
 gd (yv r1.1) true (some (a1, r6.2)) r6.2 fun r7 =>
 gd (yv r1.1) true (some (a2, r7.2)) r7.2 fun r8 =>
 gd (yv r1.1) true (call 13 [r6.1, r7.1, r8.1] r8.2) r8.2 fun r9 =>
 gd (yv r1.1) true (pm (abin Try.prog .eql 31 r5.1 r9.1) r9.2) r9.2 fun r10 =>
 bi (pk r1.1 r10.1 (.d (.bool false)) r10.2) fun r11 =>
 rt r11.1 r11.2

/-! #### rushlight/rushlightlaw14.IrrunPlaces -/
noncomputable def fi5 : FI := ⟨70, 0, [.tmp 2], (.seq (rgn Try.f5.body 0) (.seq (.seq (rgn Try.f5.body 1) (.cond (.tmp 11) (.seq (rgn Try.f5.body 2) .ret) .skip)) (.seq (.seq (rgn Try.f5.body 3) (.block 0 (.loop ⟨[0, 3], some [2], [(0, [0])]⟩ (.seq (.seq (rgn Try.f5.body 4) (.cond (.tmp 16) .skip (.exit 0))) (.seq (.block 1 (.seq (rgn Try.f5.body 6) (.cond (.tmp 32) (.seq (rgn Try.f5.body 7) .ret) .skip))) (rgn Try.f5.body 5)))))) (.seq (rgn Try.f5.body 8) (.seq (rgn Try.f5.body 9) (.seq (.seq (rgn Try.f5.body 10) (.cond (.tmp 53) (.seq (rgn Try.f5.body 11) .ret) .skip)) (.seq (.seq (rgn Try.f5.body 12) (.block 2 (.loop ⟨[4, 6, 8], some [2], [(2, [])]⟩ (.seq (.seq (rgn Try.f5.body 13) (.cond (.tmp 57) .skip (.exit 2))) (.seq (.block 3 (.seq (rgn Try.f5.body 15) (.cond (.tmp 68) (.seq (rgn Try.f5.body 16) .ret) .skip))) (rgn Try.f5.body 14)))))) (.seq (rgn Try.f5.body 17) .ret))))))))⟩
theorem fits5 : Fits Try.prog 5 fi5 Try.f5 := ⟨by kernel_rfl, by kernel_rfl, by kernel_rfl, by kernel_rfl, by kernel_rfl⟩
set_option maxRecDepth 100000 in
/-- A round: what is kept: [0, 3]. -/
noncomputable def s5.l0 (call : ACall) (lim : Nat) (v4 : List AV) (h5 : Heap) : Option Res :=
 pu (lnS (v4.getD 0 .junk)) h5 fun r6 =>
 pu (abin Try.prog .lss 3 (v4.getD 1 .junk) r6.1) r6.2 fun r7 =>
 cn (asB r7.1)
 (pu (ixS 4 (v4.getD 0 .junk) (v4.getD 1 .junk)) r7.2 fun r8 =>
 pu (fa 1 r8.1) r8.2 fun r9 =>
 pu (ld r9.2 r9.1) r9.2 fun r10 =>
 pu (abin Try.prog .lss 3 r10.1 (.d (.int .i64 0))) r10.2 fun r11 =>
 gd (yv r11.1) false (some ((v4.getD 0 .junk), r11.2)) r11.2 fun r12 =>
 gd (yv r11.1) false (some ((v4.getD 1 .junk), r12.2)) r12.2 fun r13 =>
 gd (yv r11.1) false (pm (ixS 4 r12.1 r13.1) r13.2) r13.2 fun r14 =>
 gd (yv r11.1) false (pm (fa 1 r14.1) r14.2) r14.2 fun r15 =>
 gd (yv r11.1) false (pm (ld r15.2 r15.1) r15.2) r15.2 fun r16 =>
 gd (yv r11.1) false (pm (abin Try.prog .gtr 3 r16.1 (.d (.int .i64 40000))) r16.2) r16.2 fun r17 =>
 bi (pk r11.1 (.d (.bool true)) r17.1 r17.2) fun r18 =>
 cn (asB r18.1)
 (bi (call 8 [] r18.2) fun r19 =>
 some (.ret, [r19.1], r19.2))
 (pu (abin Try.prog .add 3 (v4.getD 1 .junk) (.d (.int .i64 1))) r18.2 fun r20 =>
 some (.normal, [(v4.getD 0 .junk), r20.1], r20.2)))
 (some (.exit 0, [(v4.getD 0 .junk)], r7.2))
set_option maxRecDepth 100000 in
/-- A round: what is kept: [4, 6, 8]. -/
noncomputable def s5.l1 (call : ACall) (lim : Nat) (v35 : List AV) (h36 : Heap) : Option Res :=
 pu (lnS (v35.getD 0 .junk)) h36 fun r37 =>
 pu (abin Try.prog .lss 3 (v35.getD 2 .junk) r37.1) r37.2 fun r38 =>
 cn (asB r38.1)
 (pu (ixS 1 (v35.getD 0 .junk) (v35.getD 2 .junk)) r38.2 fun r39 =>
 pu (ld r39.2 r39.1) r39.2 fun r40 =>
 pu (ixS 1 (v35.getD 1 .junk) (v35.getD 2 .junk)) r40.2 fun r41 =>
 pu (ld r41.2 r41.1) r41.2 fun r42 =>
 pu (abin Try.prog .neq 3 r40.1 r42.1) r42.2 fun r43 =>
 cn (asB r43.1)
 (some (.ret, [.d (.bool false)], r43.2))
 (pu (abin Try.prog .add 3 (v35.getD 2 .junk) (.d (.int .i64 1))) r43.2 fun r44 =>
 some (.normal, [(v35.getD 0 .junk), (v35.getD 1 .junk), r44.1], r44.2)))
 (some (.exit 2, [], r38.2))
set_option maxRecDepth 100000 in
noncomputable def s5 (call : ACall) (lim : Nat) (a0 : AV) (H : Heap) : Option Res :=
 pu (lnS a0) H fun r1 =>
 pu (abin Try.prog .gtr 3 r1.1 (.d (.int .i64 40))) r1.2 fun r2 =>
 cn (asB r2.1)
 (bi (call 8 [] r2.2) fun r3 =>
 rt r3.1 r3.2)
 (lp (s5.l0 call lim) [a0, .d (.int .i64 0)] r2.2 fun j21 =>
 dsp j21.1 none (rt (gv j21 0) j21.2.2) [(0, bi (call 14 [(gv j21 0)] j21.2.2) fun r22 =>
 pu (aextract r22.1 0) r22.2 fun r23 =>
 pu (aextract r22.1 1) r23.2 fun r24 =>
 bi (call 15 [(gv j21 0)] r24.2) fun r25 =>
 pu (aextract r25.1 0) r25.2 fun r26 =>
 pu (aextract r25.1 1) r26.2 fun r27 =>
 pu (abin Try.prog .neq 3 r24.1 r27.1) r27.2 fun r28 =>
 gd (yv r28.1) false (some (r23.1, r28.2)) r28.2 fun r29 =>
 gd (yv r28.1) false (pm (lnS r29.1) r29.2) r29.2 fun r30 =>
 gd (yv r28.1) false (some (r26.1, r30.2)) r30.2 fun r31 =>
 gd (yv r28.1) false (pm (lnS r31.1) r31.2) r31.2 fun r32 =>
 gd (yv r28.1) false (pm (abin Try.prog .neq 3 r30.1 r32.1) r32.2) r32.2 fun r33 =>
 bi (pk r28.1 (.d (.bool true)) r33.1 r33.2) fun r34 =>
 cn (asB r34.1)
 (rt (.d (.bool false)) r34.2)
 (lp (s5.l1 call lim) [r23.1, r26.1, .d (.int .i64 0)] r34.2 fun j45 =>
 dsp j45.1 none (rt (gv j45 0) j45.2.2) [(2, bi (call 8 [] j45.2.2) fun r46 =>
 rt r46.1 r46.2)]))])

/-! #### rushlight/rushlightlaw14.IrrunFuel -/
noncomputable def fi6 : FI := ⟨80, 0, [.tmp 6], (.seq (rgn Try.f6.body 0) (.seq (.seq (rgn Try.f6.body 1) (.cond (.tmp 36) (.seq (rgn Try.f6.body 2) .ret) .skip)) (.seq (rgn Try.f6.body 3) (.seq (.seq (rgn Try.f6.body 4) (.cond (.tmp 53) (.seq (rgn Try.f6.body 5) .ret) .skip)) (.seq (rgn Try.f6.body 6) .ret)))))⟩
theorem fits6 : Fits Try.prog 6 fi6 Try.f6 := ⟨by kernel_rfl, by kernel_rfl, by kernel_rfl, by kernel_rfl, by kernel_rfl⟩
set_option maxRecDepth 100000 in
noncomputable def s6 (call : ACall) (lim : Nat) (a0 a1 a2 : AV) (H : Heap) : Option Res :=
 bi (bx a0 H) fun r1 =>
 bi (bx a2 r1.2) fun r2 =>
 pu (ldA 4 r2.2 r1.1) r2.2 fun r3 =>
 bi (call 7 [r3.1] r3.2) fun r4 =>
 pu (aun .not r4.1) r4.2 fun r5 =>
 gd (yv r5.1) false (some (a1, r5.2)) r5.2 fun r6 =>
 gd (yv r5.1) false (pm (lnS r6.1) r6.2) r6.2 fun r7 =>
 gd (yv r5.1) false (pm (abin Try.prog .gtr 3 r7.1 (.d (.int .i64 40))) r7.2) r7.2 fun r8 =>
 bi (pk r5.1 (.d (.bool true)) r8.1 r8.2) fun r9 =>
 gd (yv r9.1) false (pm (ixA 2 1 r2.1 (.d (.int .i64 0))) r9.2) r9.2 fun r10 =>
 gd (yv r9.1) false (pm (ld r10.2 r10.1) r10.2) r10.2 fun r11 =>
 gd (yv r9.1) false (pm (abin Try.prog .lss 3 r11.1 (.d (.int .i64 0))) r11.2) r11.2 fun r12 =>
 bi (pk r9.1 (.d (.bool true)) r12.1 r12.2) fun r13 =>
 gd (yv r13.1) false (pm (ixA 2 1 r2.1 (.d (.int .i64 1))) r13.2) r13.2 fun r14 =>
 gd (yv r13.1) false (pm (ld r14.2 r14.1) r14.2) r14.2 fun r15 =>
 gd (yv r13.1) false (pm (abin Try.prog .lss 3 r15.1 (.d (.int .i64 0))) r15.2) r15.2 fun r16 =>
 bi (pk r13.1 (.d (.bool true)) r16.1 r16.2) fun r17 =>
 gd (yv r17.1) false (pm (ixA 2 1 r2.1 (.d (.int .i64 0))) r17.2) r17.2 fun r18 =>
 gd (yv r17.1) false (pm (ld r18.2 r18.1) r18.2) r18.2 fun r19 =>
 gd (yv r17.1) false (pm (abin Try.prog .gtr 3 r19.1 (.d (.int .i64 3000))) r19.2) r19.2 fun r20 =>
 bi (pk r17.1 (.d (.bool true)) r20.1 r20.2) fun r21 =>
 gd (yv r21.1) false (pm (ixA 2 1 r2.1 (.d (.int .i64 1))) r21.2) r21.2 fun r22 =>
 gd (yv r21.1) false (pm (ld r22.2 r22.1) r22.2) r22.2 fun r23 =>
 gd (yv r21.1) false (pm (abin Try.prog .gtr 3 r23.1 (.d (.int .i64 3000))) r23.2) r23.2 fun r24 =>
 bi (pk r21.1 (.d (.bool true)) r24.1 r24.2) fun r25 =>
 cn (asB r25.1)
 (bi (call 8 [] r25.2) fun r26 =>
 rt r26.1 r26.2)
 (pu (ldA 4 r25.2 r1.1) r25.2 fun r27 =>
 pu (ixA 2 1 r2.1 (.d (.int .i64 0))) r27.2 fun r28 =>
 pu (ld r28.2 r28.1) r28.2 fun r29 =>
 bi (call 10 [r27.1, a1, r29.1] r29.2) fun r30 =>
 pu (ldA 4 r30.2 r1.1) r30.2 fun r31 =>
 pu (ixA 2 1 r2.1 (.d (.int .i64 0))) r31.2 fun r32 =>
 pu (ld r32.2 r32.1) r32.2 fun r33 =>
 pu (ixA 2 1 r2.1 (.d (.int .i64 1))) r33.2 fun r34 =>
 pu (ld r34.2 r34.1) r34.2 fun r35 =>
 pu (abin Try.prog .add 3 r33.1 r35.1) r35.2 fun r36 =>
 bi (call 10 [r31.1, a1, r36.1] r36.2) fun r37 =>
 bi (al [.d (.seq true 0 []), .d (.int .i64 0), .d (.int .u32 0), .d (.int .i64 0)] r37.2) fun r38 =>
 ck [again lim (pm (ldA 4 r38.2 r1.1) r38.2) r27.1 r38.2, again lim (pm (ld r38.2 r28.1) r38.2) r29.1 r38.2, again lim (call 10 [r27.1, a1, r29.1] r38.2) r30.1 r38.2, again lim (pm (ldA 4 r38.2 r1.1) r38.2) r31.1 r38.2, again lim (pm (ld r38.2 r32.1) r38.2) r33.1 r38.2, again lim (pm (ld r38.2 r34.1) r38.2) r35.1 r38.2, again lim (call 10 [r31.1, a1, r36.1] r38.2) r37.1 r38.2] (
 bi (al [.d (.seq true 0 []), .d (.int .i64 0), .d (.int .u32 0), .d (.int .i64 0)] r38.2) fun r39 =>
 ck [again lim (pm (ldA 4 r39.2 r1.1) r39.2) r27.1 r39.2, again lim (pm (ld r39.2 r28.1) r39.2) r29.1 r39.2, again lim (call 10 [r27.1, a1, r29.1] r39.2) r30.1 r39.2, again lim (pm (ldA 4 r39.2 r1.1) r39.2) r31.1 r39.2, again lim (pm (ld r39.2 r32.1) r39.2) r33.1 r39.2, again lim (pm (ld r39.2 r34.1) r39.2) r35.1 r39.2, again lim (call 10 [r31.1, a1, r36.1] r39.2) r37.1 r39.2, again lim (al [.d (.seq true 0 []), .d (.int .i64 0), .d (.int .u32 0), .d (.int .i64 0)] r39.2) r38.1 r39.2] (
 bi (stA 4 lim r39.2 r38.1 r30.1) fun r40 =>
 bi (stA 4 lim r40.2 r39.1 r37.1) fun r41 =>
 pu (fa 3 r38.1) r41.2 fun r42 =>
 pu (ld r42.2 r42.1) r42.2 fun r43 =>
 pu (abin Try.prog .neq 32 r43.1 (.d (.int .i64 16))) r43.2 fun r44 =>
 cn (asB r44.1)
 (bi (call 8 [] r44.2) fun r45 =>
 gd (yv r45.1) true (pm (ldA 4 r45.2 r38.1) r45.2) r45.2 fun r46 =>
 gd (yv r45.1) true (pm (ldA 4 r46.2 r39.1) r46.2) r46.2 fun r47 =>
 gd (yv r45.1) true (call 9 [r46.1, r47.1] r47.2) r47.2 fun r48 =>
 bi (pk r45.1 r48.1 (.d (.bool false)) r48.2) fun r49 =>
 rt r49.1 r49.2)
 (bi (call 8 [] r44.2) fun r50 =>
 gd (yv r50.1) true (pm (fa 0 r38.1) r50.2) r50.2 fun r51 =>
 gd (yv r50.1) true (pm (ld r51.2 r51.1) r51.2) r51.2 fun r52 =>
 gd (yv r50.1) true (pm (fa 0 r39.1) r52.2) r52.2 fun r53 =>
 gd (yv r50.1) true (pm (ld r53.2 r53.1) r53.2) r53.2 fun r54 =>
 gd (yv r50.1) true (call 16 [r52.1, r54.1] r54.2) r54.2 fun r55 =>
 bi (pk r50.1 r55.1 (.d (.bool false)) r55.2) fun r56 =>
 gd (yv r56.1) true (pm (fa 1 r38.1) r56.2) r56.2 fun r57 =>
 gd (yv r56.1) true (pm (ld r57.2 r57.1) r57.2) r57.2 fun r58 =>
 gd (yv r56.1) true (pm (fa 1 r39.1) r58.2) r58.2 fun r59 =>
 gd (yv r56.1) true (pm (ld r59.2 r59.1) r59.2) r59.2 fun r60 =>
 gd (yv r56.1) true (pm (abin Try.prog .leq 3 r58.1 r60.1) r60.2) r60.2 fun r61 =>
 bi (pk r56.1 r61.1 (.d (.bool false)) r61.2) fun r62 =>
 gd (yv r62.1) true (pm (fa 2 r38.1) r62.2) r62.2 fun r63 =>
 gd (yv r62.1) true (pm (ld r63.2 r63.1) r63.2) r63.2 fun r64 =>
 gd (yv r62.1) true (pm (abin Try.prog .eql 31 r64.1 (.d (.int .u32 0))) r64.2) r64.2 fun r65 =>
 bi (pk r62.1 r65.1 (.d (.bool false)) r65.2) fun r66 =>
 rt r66.1 r66.2))))

/-- The table of texts. -/
noncomputable def C : FuncId → Option FI := fun f =>
  bif f == 17 then some fi17 else
  bif f == 7 then some fi7 else
  bif f == 37 then some fi37 else
  bif f == 72 then some fi72 else
  bif f == 78 then some fi78 else
  bif f == 85 then some fi85 else
  bif f == 84 then some fi84 else
  bif f == 79 then some fi79 else
  bif f == 81 then some fi81 else
  bif f == 80 then some fi80 else
  bif f == 82 then some fi82 else
  bif f == 73 then some fi73 else
  bif f == 83 then some fi83 else
  bif f == 74 then some fi74 else
  bif f == 60 then some fi60 else
  bif f == 38 then some fi38 else
  bif f == 18 then some fi18 else
  bif f == 35 then some fi35 else
  bif f == 14 then some fi14 else
  bif f == 39 then some fi39 else
  bif f == 40 then some fi40 else
  bif f == 61 then some fi61 else
  bif f == 42 then some fi42 else
  bif f == 23 then some fi23 else
  bif f == 24 then some fi24 else
  bif f == 25 then some fi25 else
  bif f == 48 then some fi48 else
  bif f == 49 then some fi49 else
  bif f == 26 then some fi26 else
  bif f == 50 then some fi50 else
  bif f == 27 then some fi27 else
  bif f == 28 then some fi28 else
  bif f == 29 then some fi29 else
  bif f == 30 then some fi30 else
  bif f == 51 then some fi51 else
  bif f == 31 then some fi31 else
  bif f == 12 then some fi12 else
  bif f == 75 then some fi75 else
  bif f == 62 then some fi62 else
  bif f == 63 then some fi63 else
  bif f == 64 then some fi64 else
  bif f == 65 then some fi65 else
  bif f == 41 then some fi41 else
  bif f == 19 then some fi19 else
  bif f == 10 then some fi10 else
  bif f == 8 then some fi8 else
  bif f == 43 then some fi43 else
  bif f == 76 then some fi76 else
  bif f == 66 then some fi66 else
  bif f == 77 then some fi77 else
  bif f == 67 then some fi67 else
  bif f == 44 then some fi44 else
  bif f == 20 then some fi20 else
  bif f == 36 then some fi36 else
  bif f == 15 then some fi15 else
  bif f == 21 then some fi21 else
  bif f == 68 then some fi68 else
  bif f == 45 then some fi45 else
  bif f == 52 then some fi52 else
  bif f == 53 then some fi53 else
  bif f == 47 then some fi47 else
  bif f == 32 then some fi32 else
  bif f == 33 then some fi33 else
  bif f == 54 then some fi54 else
  bif f == 55 then some fi55 else
  bif f == 70 then some fi70 else
  bif f == 56 then some fi56 else
  bif f == 71 then some fi71 else
  bif f == 57 then some fi57 else
  bif f == 58 then some fi58 else
  bif f == 59 then some fi59 else
  bif f == 34 then some fi34 else
  bif f == 13 then some fi13 else
  bif f == 69 then some fi69 else
  bif f == 46 then some fi46 else
  bif f == 22 then some fi22 else
  bif f == 11 then some fi11 else
  bif f == 16 then some fi16 else
  bif f == 9 then some fi9 else
  bif f == 3 then some fi3 else
  bif f == 4 then some fi4 else
  bif f == 5 then some fi5 else
  bif f == 6 then some fi6 else
  none
theorem fitsC : ∀ f fi, C f = some fi → ∃ fn, Fits Try.prog f fi fn := by
  intro f fi h
  unfold C at h
  by_cases h17 : f = 17
  · subst h17; cases h; exact ⟨_, fits17⟩
  rw [show (f == 17) = false from beq_false_of_ne h17, cond_false] at h
  by_cases h7 : f = 7
  · subst h7; cases h; exact ⟨_, fits7⟩
  rw [show (f == 7) = false from beq_false_of_ne h7, cond_false] at h
  by_cases h37 : f = 37
  · subst h37; cases h; exact ⟨_, fits37⟩
  rw [show (f == 37) = false from beq_false_of_ne h37, cond_false] at h
  by_cases h72 : f = 72
  · subst h72; cases h; exact ⟨_, fits72⟩
  rw [show (f == 72) = false from beq_false_of_ne h72, cond_false] at h
  by_cases h78 : f = 78
  · subst h78; cases h; exact ⟨_, fits78⟩
  rw [show (f == 78) = false from beq_false_of_ne h78, cond_false] at h
  by_cases h85 : f = 85
  · subst h85; cases h; exact ⟨_, fits85⟩
  rw [show (f == 85) = false from beq_false_of_ne h85, cond_false] at h
  by_cases h84 : f = 84
  · subst h84; cases h; exact ⟨_, fits84⟩
  rw [show (f == 84) = false from beq_false_of_ne h84, cond_false] at h
  by_cases h79 : f = 79
  · subst h79; cases h; exact ⟨_, fits79⟩
  rw [show (f == 79) = false from beq_false_of_ne h79, cond_false] at h
  by_cases h81 : f = 81
  · subst h81; cases h; exact ⟨_, fits81⟩
  rw [show (f == 81) = false from beq_false_of_ne h81, cond_false] at h
  by_cases h80 : f = 80
  · subst h80; cases h; exact ⟨_, fits80⟩
  rw [show (f == 80) = false from beq_false_of_ne h80, cond_false] at h
  by_cases h82 : f = 82
  · subst h82; cases h; exact ⟨_, fits82⟩
  rw [show (f == 82) = false from beq_false_of_ne h82, cond_false] at h
  by_cases h73 : f = 73
  · subst h73; cases h; exact ⟨_, fits73⟩
  rw [show (f == 73) = false from beq_false_of_ne h73, cond_false] at h
  by_cases h83 : f = 83
  · subst h83; cases h; exact ⟨_, fits83⟩
  rw [show (f == 83) = false from beq_false_of_ne h83, cond_false] at h
  by_cases h74 : f = 74
  · subst h74; cases h; exact ⟨_, fits74⟩
  rw [show (f == 74) = false from beq_false_of_ne h74, cond_false] at h
  by_cases h60 : f = 60
  · subst h60; cases h; exact ⟨_, fits60⟩
  rw [show (f == 60) = false from beq_false_of_ne h60, cond_false] at h
  by_cases h38 : f = 38
  · subst h38; cases h; exact ⟨_, fits38⟩
  rw [show (f == 38) = false from beq_false_of_ne h38, cond_false] at h
  by_cases h18 : f = 18
  · subst h18; cases h; exact ⟨_, fits18⟩
  rw [show (f == 18) = false from beq_false_of_ne h18, cond_false] at h
  by_cases h35 : f = 35
  · subst h35; cases h; exact ⟨_, fits35⟩
  rw [show (f == 35) = false from beq_false_of_ne h35, cond_false] at h
  by_cases h14 : f = 14
  · subst h14; cases h; exact ⟨_, fits14⟩
  rw [show (f == 14) = false from beq_false_of_ne h14, cond_false] at h
  by_cases h39 : f = 39
  · subst h39; cases h; exact ⟨_, fits39⟩
  rw [show (f == 39) = false from beq_false_of_ne h39, cond_false] at h
  by_cases h40 : f = 40
  · subst h40; cases h; exact ⟨_, fits40⟩
  rw [show (f == 40) = false from beq_false_of_ne h40, cond_false] at h
  by_cases h61 : f = 61
  · subst h61; cases h; exact ⟨_, fits61⟩
  rw [show (f == 61) = false from beq_false_of_ne h61, cond_false] at h
  by_cases h42 : f = 42
  · subst h42; cases h; exact ⟨_, fits42⟩
  rw [show (f == 42) = false from beq_false_of_ne h42, cond_false] at h
  by_cases h23 : f = 23
  · subst h23; cases h; exact ⟨_, fits23⟩
  rw [show (f == 23) = false from beq_false_of_ne h23, cond_false] at h
  by_cases h24 : f = 24
  · subst h24; cases h; exact ⟨_, fits24⟩
  rw [show (f == 24) = false from beq_false_of_ne h24, cond_false] at h
  by_cases h25 : f = 25
  · subst h25; cases h; exact ⟨_, fits25⟩
  rw [show (f == 25) = false from beq_false_of_ne h25, cond_false] at h
  by_cases h48 : f = 48
  · subst h48; cases h; exact ⟨_, fits48⟩
  rw [show (f == 48) = false from beq_false_of_ne h48, cond_false] at h
  by_cases h49 : f = 49
  · subst h49; cases h; exact ⟨_, fits49⟩
  rw [show (f == 49) = false from beq_false_of_ne h49, cond_false] at h
  by_cases h26 : f = 26
  · subst h26; cases h; exact ⟨_, fits26⟩
  rw [show (f == 26) = false from beq_false_of_ne h26, cond_false] at h
  by_cases h50 : f = 50
  · subst h50; cases h; exact ⟨_, fits50⟩
  rw [show (f == 50) = false from beq_false_of_ne h50, cond_false] at h
  by_cases h27 : f = 27
  · subst h27; cases h; exact ⟨_, fits27⟩
  rw [show (f == 27) = false from beq_false_of_ne h27, cond_false] at h
  by_cases h28 : f = 28
  · subst h28; cases h; exact ⟨_, fits28⟩
  rw [show (f == 28) = false from beq_false_of_ne h28, cond_false] at h
  by_cases h29 : f = 29
  · subst h29; cases h; exact ⟨_, fits29⟩
  rw [show (f == 29) = false from beq_false_of_ne h29, cond_false] at h
  by_cases h30 : f = 30
  · subst h30; cases h; exact ⟨_, fits30⟩
  rw [show (f == 30) = false from beq_false_of_ne h30, cond_false] at h
  by_cases h51 : f = 51
  · subst h51; cases h; exact ⟨_, fits51⟩
  rw [show (f == 51) = false from beq_false_of_ne h51, cond_false] at h
  by_cases h31 : f = 31
  · subst h31; cases h; exact ⟨_, fits31⟩
  rw [show (f == 31) = false from beq_false_of_ne h31, cond_false] at h
  by_cases h12 : f = 12
  · subst h12; cases h; exact ⟨_, fits12⟩
  rw [show (f == 12) = false from beq_false_of_ne h12, cond_false] at h
  by_cases h75 : f = 75
  · subst h75; cases h; exact ⟨_, fits75⟩
  rw [show (f == 75) = false from beq_false_of_ne h75, cond_false] at h
  by_cases h62 : f = 62
  · subst h62; cases h; exact ⟨_, fits62⟩
  rw [show (f == 62) = false from beq_false_of_ne h62, cond_false] at h
  by_cases h63 : f = 63
  · subst h63; cases h; exact ⟨_, fits63⟩
  rw [show (f == 63) = false from beq_false_of_ne h63, cond_false] at h
  by_cases h64 : f = 64
  · subst h64; cases h; exact ⟨_, fits64⟩
  rw [show (f == 64) = false from beq_false_of_ne h64, cond_false] at h
  by_cases h65 : f = 65
  · subst h65; cases h; exact ⟨_, fits65⟩
  rw [show (f == 65) = false from beq_false_of_ne h65, cond_false] at h
  by_cases h41 : f = 41
  · subst h41; cases h; exact ⟨_, fits41⟩
  rw [show (f == 41) = false from beq_false_of_ne h41, cond_false] at h
  by_cases h19 : f = 19
  · subst h19; cases h; exact ⟨_, fits19⟩
  rw [show (f == 19) = false from beq_false_of_ne h19, cond_false] at h
  by_cases h10 : f = 10
  · subst h10; cases h; exact ⟨_, fits10⟩
  rw [show (f == 10) = false from beq_false_of_ne h10, cond_false] at h
  by_cases h8 : f = 8
  · subst h8; cases h; exact ⟨_, fits8⟩
  rw [show (f == 8) = false from beq_false_of_ne h8, cond_false] at h
  by_cases h43 : f = 43
  · subst h43; cases h; exact ⟨_, fits43⟩
  rw [show (f == 43) = false from beq_false_of_ne h43, cond_false] at h
  by_cases h76 : f = 76
  · subst h76; cases h; exact ⟨_, fits76⟩
  rw [show (f == 76) = false from beq_false_of_ne h76, cond_false] at h
  by_cases h66 : f = 66
  · subst h66; cases h; exact ⟨_, fits66⟩
  rw [show (f == 66) = false from beq_false_of_ne h66, cond_false] at h
  by_cases h77 : f = 77
  · subst h77; cases h; exact ⟨_, fits77⟩
  rw [show (f == 77) = false from beq_false_of_ne h77, cond_false] at h
  by_cases h67 : f = 67
  · subst h67; cases h; exact ⟨_, fits67⟩
  rw [show (f == 67) = false from beq_false_of_ne h67, cond_false] at h
  by_cases h44 : f = 44
  · subst h44; cases h; exact ⟨_, fits44⟩
  rw [show (f == 44) = false from beq_false_of_ne h44, cond_false] at h
  by_cases h20 : f = 20
  · subst h20; cases h; exact ⟨_, fits20⟩
  rw [show (f == 20) = false from beq_false_of_ne h20, cond_false] at h
  by_cases h36 : f = 36
  · subst h36; cases h; exact ⟨_, fits36⟩
  rw [show (f == 36) = false from beq_false_of_ne h36, cond_false] at h
  by_cases h15 : f = 15
  · subst h15; cases h; exact ⟨_, fits15⟩
  rw [show (f == 15) = false from beq_false_of_ne h15, cond_false] at h
  by_cases h21 : f = 21
  · subst h21; cases h; exact ⟨_, fits21⟩
  rw [show (f == 21) = false from beq_false_of_ne h21, cond_false] at h
  by_cases h68 : f = 68
  · subst h68; cases h; exact ⟨_, fits68⟩
  rw [show (f == 68) = false from beq_false_of_ne h68, cond_false] at h
  by_cases h45 : f = 45
  · subst h45; cases h; exact ⟨_, fits45⟩
  rw [show (f == 45) = false from beq_false_of_ne h45, cond_false] at h
  by_cases h52 : f = 52
  · subst h52; cases h; exact ⟨_, fits52⟩
  rw [show (f == 52) = false from beq_false_of_ne h52, cond_false] at h
  by_cases h53 : f = 53
  · subst h53; cases h; exact ⟨_, fits53⟩
  rw [show (f == 53) = false from beq_false_of_ne h53, cond_false] at h
  by_cases h47 : f = 47
  · subst h47; cases h; exact ⟨_, fits47⟩
  rw [show (f == 47) = false from beq_false_of_ne h47, cond_false] at h
  by_cases h32 : f = 32
  · subst h32; cases h; exact ⟨_, fits32⟩
  rw [show (f == 32) = false from beq_false_of_ne h32, cond_false] at h
  by_cases h33 : f = 33
  · subst h33; cases h; exact ⟨_, fits33⟩
  rw [show (f == 33) = false from beq_false_of_ne h33, cond_false] at h
  by_cases h54 : f = 54
  · subst h54; cases h; exact ⟨_, fits54⟩
  rw [show (f == 54) = false from beq_false_of_ne h54, cond_false] at h
  by_cases h55 : f = 55
  · subst h55; cases h; exact ⟨_, fits55⟩
  rw [show (f == 55) = false from beq_false_of_ne h55, cond_false] at h
  by_cases h70 : f = 70
  · subst h70; cases h; exact ⟨_, fits70⟩
  rw [show (f == 70) = false from beq_false_of_ne h70, cond_false] at h
  by_cases h56 : f = 56
  · subst h56; cases h; exact ⟨_, fits56⟩
  rw [show (f == 56) = false from beq_false_of_ne h56, cond_false] at h
  by_cases h71 : f = 71
  · subst h71; cases h; exact ⟨_, fits71⟩
  rw [show (f == 71) = false from beq_false_of_ne h71, cond_false] at h
  by_cases h57 : f = 57
  · subst h57; cases h; exact ⟨_, fits57⟩
  rw [show (f == 57) = false from beq_false_of_ne h57, cond_false] at h
  by_cases h58 : f = 58
  · subst h58; cases h; exact ⟨_, fits58⟩
  rw [show (f == 58) = false from beq_false_of_ne h58, cond_false] at h
  by_cases h59 : f = 59
  · subst h59; cases h; exact ⟨_, fits59⟩
  rw [show (f == 59) = false from beq_false_of_ne h59, cond_false] at h
  by_cases h34 : f = 34
  · subst h34; cases h; exact ⟨_, fits34⟩
  rw [show (f == 34) = false from beq_false_of_ne h34, cond_false] at h
  by_cases h13 : f = 13
  · subst h13; cases h; exact ⟨_, fits13⟩
  rw [show (f == 13) = false from beq_false_of_ne h13, cond_false] at h
  by_cases h69 : f = 69
  · subst h69; cases h; exact ⟨_, fits69⟩
  rw [show (f == 69) = false from beq_false_of_ne h69, cond_false] at h
  by_cases h46 : f = 46
  · subst h46; cases h; exact ⟨_, fits46⟩
  rw [show (f == 46) = false from beq_false_of_ne h46, cond_false] at h
  by_cases h22 : f = 22
  · subst h22; cases h; exact ⟨_, fits22⟩
  rw [show (f == 22) = false from beq_false_of_ne h22, cond_false] at h
  by_cases h11 : f = 11
  · subst h11; cases h; exact ⟨_, fits11⟩
  rw [show (f == 11) = false from beq_false_of_ne h11, cond_false] at h
  by_cases h16 : f = 16
  · subst h16; cases h; exact ⟨_, fits16⟩
  rw [show (f == 16) = false from beq_false_of_ne h16, cond_false] at h
  by_cases h9 : f = 9
  · subst h9; cases h; exact ⟨_, fits9⟩
  rw [show (f == 9) = false from beq_false_of_ne h9, cond_false] at h
  by_cases h3 : f = 3
  · subst h3; cases h; exact ⟨_, fits3⟩
  rw [show (f == 3) = false from beq_false_of_ne h3, cond_false] at h
  by_cases h4 : f = 4
  · subst h4; cases h; exact ⟨_, fits4⟩
  rw [show (f == 4) = false from beq_false_of_ne h4, cond_false] at h
  by_cases h5 : f = 5
  · subst h5; cases h; exact ⟨_, fits5⟩
  rw [show (f == 5) = false from beq_false_of_ne h5, cond_false] at h
  by_cases h6 : f = 6
  · subst h6; cases h; exact ⟨_, fits6⟩
  rw [show (f == 6) = false from beq_false_of_ne h6, cond_false] at h
  cases h
end Go.Ev.Try
