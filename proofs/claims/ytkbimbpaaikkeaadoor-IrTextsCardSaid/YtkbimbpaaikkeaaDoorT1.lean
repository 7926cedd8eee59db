import Derived.Test.YtkbimbpaaikkeaaDoorProg
import Derived.Test.YtkbimbpaaikkeaaDoorE2
import Derived.KernelRfl
import Derived.Test.YtkbimbpaaikkeaaDoorE4
set_option linter.unusedSimpArgs false
set_option linter.unusedVariables false
/- The functions' plain texts, written by a program (gen.py) out of the loaded program. -/
set_option linter.unusedVariables false
namespace Go.Ev.Tryd
open Go Go.Ev Go.Proofs
/-! #### rushlight/rushlightlaw13.ins -/
noncomputable def fi12 : FI := ⟨66, 0, [.tmp 2], (.seq (rgn Tryd.f12.body 0) (.seq (rgn Tryd.f12.body 1) (.seq (.seq (rgn Tryd.f12.body 2) (.block 0 (.loop ⟨[1, 3, 4], some [2], [(0, [1])]⟩ (.seq (.seq (rgn Tryd.f12.body 3) (.cond (.tmp 26) .skip (.exit 0))) (.seq (.block 1 (.seq (rgn Tryd.f12.body 5) (.cond (.tmp 40) (.seq (rgn Tryd.f12.body 6) .ret) .skip))) (rgn Tryd.f12.body 4)))))) (.seq (.seq (rgn Tryd.f12.body 7) (.block 2 (.loop ⟨[1, 5], some [2], [(2, [1])]⟩ (.seq (.seq (rgn Tryd.f12.body 8) (.cond (.tmp 45) .skip (.exit 2))) (.seq (.block 3 (.seq (rgn Tryd.f12.body 10) (.cond (.tmp 61) (.seq (rgn Tryd.f12.body 11) .ret) .skip))) (rgn Tryd.f12.body 9)))))) (.seq (rgn Tryd.f12.body 12) .ret)))))⟩
theorem fits12 : Fits Tryd.prog 12 fi12 Tryd.f12 := ⟨by kernel_rfl, by kernel_rfl, by kernel_rfl, by kernel_rfl, by kernel_rfl⟩
set_option maxRecDepth 100000 in
/-- A round: what is kept: [1, 3, 4]. -/
noncomputable def s12.l0 (call : ACall) (lim : Nat) (v19 : List AV) (h20 : Heap) : Option Res :=
 pu (lnS (v19.getD 1 .junk)) h20 fun r21 =>
 pu (abin Tryd.prog .lss 3 (v19.getD 2 .junk) r21.1) r21.2 fun r22 =>
 cn (asB r22.1)
 (pu (ixS 1 (v19.getD 1 .junk) (v19.getD 2 .junk)) r22.2 fun r23 =>
 pu (ld r23.2 r23.1) r23.2 fun r24 =>
 pu (abin Tryd.prog .gtr 3 r24.1 (.d (.int .i64 1099511627776))) r24.2 fun r25 =>
 gd (yv r25.1) false (some ((v19.getD 1 .junk), r25.2)) r25.2 fun r26 =>
 gd (yv r25.1) false (some ((v19.getD 2 .junk), r26.2)) r26.2 fun r27 =>
 gd (yv r25.1) false (pm (ixS 1 r26.1 r27.1) r27.2) r27.2 fun r28 =>
 gd (yv r25.1) false (pm (ld r28.2 r28.1) r28.2) r28.2 fun r29 =>
 gd (yv r25.1) false (pm (abin Tryd.prog .lss 3 r29.1 (.d (.int .i64 (-1099511627776)))) r29.2) r29.2 fun r30 =>
 bi (pk r25.1 (.d (.bool true)) r30.1 r30.2) fun r31 =>
 cn (asB r31.1)
 (some (.ret, [.d (.bool false)], r31.2))
 (pu (abin Tryd.prog .add 3 (v19.getD 2 .junk) (.d (.int .i64 1))) r31.2 fun r32 =>
 some (.normal, [(v19.getD 0 .junk), (v19.getD 1 .junk), r32.1], r32.2)))
 (some (.exit 0, [(v19.getD 0 .junk)], r22.2))
set_option maxRecDepth 100000 in
/-- A round: what is kept: [1, 5]. -/
noncomputable def s12.l1 (call : ACall) (lim : Nat) (v34 : List AV) (h35 : Heap) : Option Res :=
 pu (fa 9 (v34.getD 0 .junk)) h35 fun r36 =>
 pu (ld r36.2 r36.1) r36.2 fun r37 =>
 pu (lnS r37.1) r37.2 fun r38 =>
 pu (abin Tryd.prog .lss 3 (v34.getD 1 .junk) r38.1) r38.2 fun r39 =>
 cn (asB r39.1)
 (pu (fa 9 (v34.getD 0 .junk)) r39.2 fun r40 =>
 pu (ld r40.2 r40.1) r40.2 fun r41 =>
 pu (ixS 1 r41.1 (v34.getD 1 .junk)) r41.2 fun r42 =>
 pu (ld r42.2 r42.1) r42.2 fun r43 =>
 pu (abin Tryd.prog .gtr 3 r43.1 (.d (.int .i64 1099511627776))) r43.2 fun r44 =>
 gd (yv r44.1) false (pm (fa 9 (v34.getD 0 .junk)) r44.2) r44.2 fun r45 =>
 gd (yv r44.1) false (pm (ld r45.2 r45.1) r45.2) r45.2 fun r46 =>
 gd (yv r44.1) false (some ((v34.getD 1 .junk), r46.2)) r46.2 fun r47 =>
 gd (yv r44.1) false (pm (ixS 1 r46.1 r47.1) r47.2) r47.2 fun r48 =>
 gd (yv r44.1) false (pm (ld r48.2 r48.1) r48.2) r48.2 fun r49 =>
 gd (yv r44.1) false (pm (abin Tryd.prog .lss 3 r49.1 (.d (.int .i64 (-1099511627776)))) r49.2) r49.2 fun r50 =>
 bi (pk r44.1 (.d (.bool true)) r50.1 r50.2) fun r51 =>
 cn (asB r51.1)
 (some (.ret, [.d (.bool false)], r51.2))
 (pu (abin Tryd.prog .add 3 (v34.getD 1 .junk) (.d (.int .i64 1))) r51.2 fun r52 =>
 some (.normal, [(v34.getD 0 .junk), r52.1], r52.2)))
 (some (.exit 2, [(v34.getD 0 .junk)], r39.2))
set_option maxRecDepth 100000 in
noncomputable def s12 (call : ACall) (lim : Nat) (a0 : AV) (H : Heap) : Option Res :=
 bi (bx a0 H) fun r1 =>
 pu (fa 0 r1.1) r1.2 fun r2 =>
 pu (ld r2.2 r2.1) r2.2 fun r3 =>
 pu (fa 1 r1.1) r3.2 fun r4 =>
 pu (ld r4.2 r4.1) r4.2 fun r5 =>
 pu (fa 2 r1.1) r5.2 fun r6 =>
 pu (ld r6.2 r6.1) r6.2 fun r7 =>
 pu (fa 3 r1.1) r7.2 fun r8 =>
 pu (ld r8.2 r8.1) r8.2 fun r9 =>
 pu (fa 4 r1.1) r9.2 fun r10 =>
 pu (ld r10.2 r10.1) r10.2 fun r11 =>
 pu (fa 5 r1.1) r11.2 fun r12 =>
 pu (ld r12.2 r12.1) r12.2 fun r13 =>
 pu (fa 6 r1.1) r13.2 fun r14 =>
 pu (ld r14.2 r14.1) r14.2 fun r15 =>
 pu (fa 7 r1.1) r15.2 fun r16 =>
 pu (ld r16.2 r16.1) r16.2 fun r17 =>
 bi (bldS 1 8 [.d (.int .i64 0)] [(0, r3.1), (1, r5.1), (2, r7.1), (3, r9.1), (4, r11.1), (5, r13.1), (6, r15.1), (7, r17.1)] r17.2) fun r18 =>
 lp (s12.l0 call lim) [r1.1, r18.1, .d (.int .i64 0)] r18.2 fun j33 =>
 dsp j33.1 none (rt (gv j33 0) j33.2.2) [(0, lp (s12.l1 call lim) [(gv j33 0), .d (.int .i64 0)] j33.2.2 fun j53 =>
 dsp j53.1 none (rt (gv j53 0) j53.2.2) [(2, pu (fa 9 (gv j53 0)) j53.2.2 fun r54 =>
 pu (ld r54.2 r54.1) r54.2 fun r55 =>
 pu (lnS r55.1) r55.2 fun r56 =>
 pu (abin Tryd.prog .leq 3 r56.1 (.d (.int .i64 12))) r56.2 fun r57 =>
 rt r57.1 r57.2)])]

/-! #### rushlight/rushlightlaw13.Few -/
noncomputable def fi6 : FI := ⟨100, 0, [.tmp 2], (.seq (rgn Tryd.f6.body 0) (.seq (.seq (rgn Tryd.f6.body 1) (.cond (.tmp 21) (.seq (rgn Tryd.f6.body 2) .ret) .skip)) (.seq (.seq (rgn Tryd.f6.body 3) (.block 0 (.loop ⟨[1, 3], some [2], [(0, [])]⟩ (.seq (.seq (rgn Tryd.f6.body 4) (.cond (.tmp 26) .skip (.exit 0))) (.seq (.block 1 (.seq (.seq (rgn Tryd.f6.body 6) (.cond (.tmp 46) (.seq (rgn Tryd.f6.body 7) .ret) .skip)) (.seq (rgn Tryd.f6.body 8) (.block 2 (.loop ⟨[1, 3, 4], some [2], [(2, [1, 3])]⟩ (.seq (.seq (rgn Tryd.f6.body 9) (.cond (.tmp 55) .skip (.exit 2))) (.seq (.block 3 (.seq (.seq (rgn Tryd.f6.body 11) (.cond (.tmp 69) (.seq (rgn Tryd.f6.body 12) .ret) .skip)) (.seq (rgn Tryd.f6.body 13) (.block 4 (.loop ⟨[1, 3, 4, 5], some [2], [(4, [1, 3, 4])]⟩ (.seq (.seq (rgn Tryd.f6.body 14) (.cond (.tmp 82) .skip (.exit 4))) (.seq (.block 5 (.seq (rgn Tryd.f6.body 16) (.cond (.tmp 99) (.seq (rgn Tryd.f6.body 17) .ret) .skip))) (rgn Tryd.f6.body 15)))))))) (rgn Tryd.f6.body 10)))))))) (rgn Tryd.f6.body 5)))))) (.seq (rgn Tryd.f6.body 18) .ret))))⟩
theorem fits6 : Fits Tryd.prog 6 fi6 Tryd.f6 := ⟨by kernel_rfl, by kernel_rfl, by kernel_rfl, by kernel_rfl, by kernel_rfl⟩
set_option maxRecDepth 100000 in
/-- A round: what is kept: [1, 3, 4, 5]. -/
noncomputable def s6.l0 (call : ACall) (lim : Nat) (v57 : List AV) (h58 : Heap) : Option Res :=
 pu (fa 2 (v57.getD 0 .junk)) h58 fun r59 =>
 pu (ld r59.2 r59.1) r59.2 fun r60 =>
 pu (ixS 6 r60.1 (v57.getD 1 .junk)) r60.2 fun r61 =>
 pu (fa 5 r61.1) r61.2 fun r62 =>
 pu (ld r62.2 r62.1) r62.2 fun r63 =>
 pu (ixS 5 r63.1 (v57.getD 2 .junk)) r63.2 fun r64 =>
 pu (fa 0 r64.1) r64.2 fun r65 =>
 pu (ld r65.2 r65.1) r65.2 fun r66 =>
 pu (lnS r66.1) r66.2 fun r67 =>
 pu (abin Tryd.prog .lss 3 (v57.getD 3 .junk) r67.1) r67.2 fun r68 =>
 cn (asB r68.1)
 (pu (fa 2 (v57.getD 0 .junk)) r68.2 fun r69 =>
 pu (ld r69.2 r69.1) r69.2 fun r70 =>
 pu (ixS 6 r70.1 (v57.getD 1 .junk)) r70.2 fun r71 =>
 pu (fa 5 r71.1) r71.2 fun r72 =>
 pu (ld r72.2 r72.1) r72.2 fun r73 =>
 pu (ixS 5 r73.1 (v57.getD 2 .junk)) r73.2 fun r74 =>
 pu (fa 0 r74.1) r74.2 fun r75 =>
 pu (ld r75.2 r75.1) r75.2 fun r76 =>
 pu (ixS 11 r76.1 (v57.getD 3 .junk)) r76.2 fun r77 =>
 pu (ldA 11 r77.2 r77.1) r77.2 fun r78 =>
 bi (call 12 [r78.1] r78.2) fun r79 =>
 pu (aun .not r79.1) r79.2 fun r80 =>
 cn (asB r80.1)
 (some (.ret, [.d (.bool false)], r80.2))
 (pu (abin Tryd.prog .add 3 (v57.getD 3 .junk) (.d (.int .i64 1))) r80.2 fun r81 =>
 some (.normal, [(v57.getD 0 .junk), (v57.getD 1 .junk), (v57.getD 2 .junk), r81.1], r81.2)))
 (some (.exit 4, [(v57.getD 0 .junk), (v57.getD 1 .junk), (v57.getD 2 .junk)], r68.2))
set_option maxRecDepth 100000 in
/-- A round: what is kept: [1, 3, 4]. -/
noncomputable def s6.l1 (call : ACall) (lim : Nat) (v38 : List AV) (h39 : Heap) : Option Res :=
 pu (fa 2 (v38.getD 0 .junk)) h39 fun r40 =>
 pu (ld r40.2 r40.1) r40.2 fun r41 =>
 pu (ixS 6 r41.1 (v38.getD 1 .junk)) r41.2 fun r42 =>
 pu (fa 5 r42.1) r42.2 fun r43 =>
 pu (ld r43.2 r43.1) r43.2 fun r44 =>
 pu (lnS r44.1) r44.2 fun r45 =>
 pu (abin Tryd.prog .lss 3 (v38.getD 2 .junk) r45.1) r45.2 fun r46 =>
 cn (asB r46.1)
 (pu (fa 2 (v38.getD 0 .junk)) r46.2 fun r47 =>
 pu (ld r47.2 r47.1) r47.2 fun r48 =>
 pu (ixS 6 r48.1 (v38.getD 1 .junk)) r48.2 fun r49 =>
 pu (fa 5 r49.1) r49.2 fun r50 =>
 pu (ld r50.2 r50.1) r50.2 fun r51 =>
 pu (ixS 5 r51.1 (v38.getD 2 .junk)) r51.2 fun r52 =>
 pu (fa 0 r52.1) r52.2 fun r53 =>
 pu (ld r53.2 r53.1) r53.2 fun r54 =>
 pu (lnS r54.1) r54.2 fun r55 =>
 pu (abin Tryd.prog .gtr 3 r55.1 (.d (.int .i64 60))) r55.2 fun r56 =>
 cn (asB r56.1)
 (some (.ret, [.d (.bool false)], r56.2))
 (lp (s6.l0 call lim) [(v38.getD 0 .junk), (v38.getD 1 .junk), (v38.getD 2 .junk), .d (.int .i64 0)] r56.2 fun j82 =>
 dsp j82.1 none (some (.ret, [(gv j82 0)], j82.2.2)) [(4, pu (abin Tryd.prog .add 3 (gv j82 2) (.d (.int .i64 1))) j82.2.2 fun r83 =>
 some (.normal, [(gv j82 0), (gv j82 1), r83.1], r83.2))]))
 (some (.exit 2, [(v38.getD 0 .junk), (v38.getD 1 .junk)], r46.2))
set_option maxRecDepth 100000 in
/-- A round: what is kept: [1, 3]. -/
noncomputable def s6.l2 (call : ACall) (lim : Nat) (v16 : List AV) (h17 : Heap) : Option Res :=
 pu (fa 2 (v16.getD 0 .junk)) h17 fun r18 =>
 pu (ld r18.2 r18.1) r18.2 fun r19 =>
 pu (lnS r19.1) r19.2 fun r20 =>
 pu (abin Tryd.prog .lss 3 (v16.getD 1 .junk) r20.1) r20.2 fun r21 =>
 cn (asB r21.1)
 (pu (fa 2 (v16.getD 0 .junk)) r21.2 fun r22 =>
 pu (ld r22.2 r22.1) r22.2 fun r23 =>
 pu (ixS 6 r23.1 (v16.getD 1 .junk)) r23.2 fun r24 =>
 pu (fa 5 r24.1) r24.2 fun r25 =>
 pu (ld r25.2 r25.1) r25.2 fun r26 =>
 pu (lnS r26.1) r26.2 fun r27 =>
 pu (abin Tryd.prog .gtr 3 r27.1 (.d (.int .i64 40))) r27.2 fun r28 =>
 gd (yv r28.1) false (pm (fa 2 (v16.getD 0 .junk)) r28.2) r28.2 fun r29 =>
 gd (yv r28.1) false (pm (ld r29.2 r29.1) r29.2) r29.2 fun r30 =>
 gd (yv r28.1) false (some ((v16.getD 1 .junk), r30.2)) r30.2 fun r31 =>
 gd (yv r28.1) false (pm (ixS 6 r30.1 r31.1) r31.2) r31.2 fun r32 =>
 gd (yv r28.1) false (pm (fa 4 r32.1) r32.2) r32.2 fun r33 =>
 gd (yv r28.1) false (pm (ld r33.2 r33.1) r33.2) r33.2 fun r34 =>
 gd (yv r28.1) false (pm (lnS r34.1) r34.2) r34.2 fun r35 =>
 gd (yv r28.1) false (pm (abin Tryd.prog .gtr 3 r35.1 (.d (.int .i64 20))) r35.2) r35.2 fun r36 =>
 bi (pk r28.1 (.d (.bool true)) r36.1 r36.2) fun r37 =>
 cn (asB r37.1)
 (some (.ret, [.d (.bool false)], r37.2))
 (lp (s6.l1 call lim) [(v16.getD 0 .junk), (v16.getD 1 .junk), .d (.int .i64 0)] r37.2 fun j84 =>
 dsp j84.1 none (some (.ret, [(gv j84 0)], j84.2.2)) [(2, pu (abin Tryd.prog .add 3 (gv j84 1) (.d (.int .i64 1))) j84.2.2 fun r85 =>
 some (.normal, [(gv j84 0), r85.1], r85.2))]))
 (some (.exit 0, [], r21.2))
set_option maxRecDepth 100000 in
noncomputable def s6 (call : ACall) (lim : Nat) (a0 : AV) (H : Heap) : Option Res :=
 bi (bx a0 H) fun r1 =>
 pu (fa 2 r1.1) r1.2 fun r2 =>
 pu (ld r2.2 r2.1) r2.2 fun r3 =>
 pu (lnS r3.1) r3.2 fun r4 =>
 pu (abin Tryd.prog .gtr 3 r4.1 (.d (.int .i64 6))) r4.2 fun r5 =>
 gd (yv r5.1) false (pm (fa 0 r1.1) r5.2) r5.2 fun r6 =>
 gd (yv r5.1) false (pm (ld r6.2 r6.1) r6.2) r6.2 fun r7 =>
 gd (yv r5.1) false (pm (lnS r7.1) r7.2) r7.2 fun r8 =>
 gd (yv r5.1) false (pm (abin Tryd.prog .gtr 3 r8.1 (.d (.int .i64 20))) r8.2) r8.2 fun r9 =>
 bi (pk r5.1 (.d (.bool true)) r9.1 r9.2) fun r10 =>
 gd (yv r10.1) false (pm (fa 1 r1.1) r10.2) r10.2 fun r11 =>
 gd (yv r10.1) false (pm (ld r11.2 r11.1) r11.2) r11.2 fun r12 =>
 gd (yv r10.1) false (pm (lnS r12.1) r12.2) r12.2 fun r13 =>
 gd (yv r10.1) false (pm (abin Tryd.prog .gtr 3 r13.1 (.d (.int .i64 20))) r13.2) r13.2 fun r14 =>
 bi (pk r10.1 (.d (.bool true)) r14.1 r14.2) fun r15 =>
 cn (asB r15.1)
 (rt (.d (.bool false)) r15.2)
 (lp (s6.l2 call lim) [r1.1, .d (.int .i64 0)] r15.2 fun j86 =>
 dsp j86.1 none (rt (gv j86 0) j86.2.2) [(0, rt (.d (.bool true)) j86.2.2)])

/-! #### (*strings.Builder).copyCheck -/
noncomputable def fi40 : FI := ⟨20, 2, [], (.seq (rgn Tryd.f40.body 0) (.cond (.tmp 6) (rgn Tryd.f40.body 1) (.seq (rgn Tryd.f40.body 2) (.cond (.tmp 19) (rfz Tryd.f40.body) .skip))))⟩
theorem fits40 : Fits Tryd.prog 40 fi40 Tryd.f40 := ⟨by kernel_rfl, by kernel_rfl, by kernel_rfl, by kernel_rfl, by kernel_rfl⟩
set_option maxRecDepth 100000 in
noncomputable def s40 (call : ACall) (lim : Nat) (a0 : AV) (H : Heap) : Option Res :=
 pu (anil a0) H fun r1 =>
 pu (fa 0 r1.1) r1.2 fun r2 =>
 pu (ld r2.2 r2.1) r2.2 fun r3 =>
 pu (abin Tryd.prog .eql 63 r3.1 .nilptr) r3.2 fun r4 =>
 cn (asB r4.1)
 (pu (cvP a0) r4.2 fun r5 =>
 bi (call 47 [r5.1] r5.2) fun r6 =>
 pu (cvP r6.1) r6.2 fun r7 =>
 pu (anil a0) r7.2 fun r8 =>
 pu (fa 0 r8.1) r8.2 fun r9 =>
 bi (stA 1 lim r9.2 r9.1 r7.1) fun r10 =>
 rt (.tup []) r10.2)
 (pu (anil a0) r4.2 fun r11 =>
 pu (fa 0 r11.1) r11.2 fun r12 =>
 pu (ld r12.2 r12.1) r12.2 fun r13 =>
 pu (abin Tryd.prog .neq 63 r13.1 a0) r13.2 fun r14 =>
 cn (asB r14.1)
 (none)
 (rt (.tup []) r14.2))

/-! #### (*strings.Builder).WriteString -/
noncomputable def fi29 : FI := ⟨19, 2, [.tmp 4, .tmp 5], (.seq (rgn Tryd.f29.body 0) (.seq (rgn Tryd.f29.body 1) (.seq (rgn Tryd.f29.body 2) (.seq (rgn Tryd.f29.body 3) .ret))))⟩
theorem fits29 : Fits Tryd.prog 29 fi29 Tryd.f29 := ⟨by kernel_rfl, by kernel_rfl, by kernel_rfl, by kernel_rfl, by kernel_rfl⟩
set_option maxRecDepth 100000 in
noncomputable def s29 (call : ACall) (lim : Nat) (a0 a1 : AV) (H : Heap) : Option Res :=
 bi (call 40 [a0] H) fun r1 =>
 pu (anil a0) r1.2 fun r2 =>
 pu (fa 1 r2.1) r2.2 fun r3 =>
 pu (ld r3.2 r3.1) r3.2 fun r4 =>
 bi (appW true 1 1 lim r4.2 r4.1 (elStr a1)) fun r5 =>
 pu (anil a0) r5.2 fun r6 =>
 pu (fa 1 r6.1) r6.2 fun r7 =>
 bi (stA 1 lim r7.2 r7.1 r5.1) fun r8 =>
 pu (lnStr a1) r8.2 fun r9 =>
 rt (.tup [r9.1, .junk]) r9.2

/-! #### (*strings.Builder).String -/
noncomputable def fi32 : FI := ⟨14, 2, [.tmp 2], (.seq (rgn Tryd.f32.body 0) (.seq (rgn Tryd.f32.body 1) .ret))⟩
theorem fits32 : Fits Tryd.prog 32 fi32 Tryd.f32 := ⟨by kernel_rfl, by kernel_rfl, by kernel_rfl, by kernel_rfl, by kernel_rfl⟩
set_option maxRecDepth 100000 in
noncomputable def s32 (call : ACall) (lim : Nat) (a0 : AV) (H : Heap) : Option Res :=
 pu (anil a0) H fun r1 =>
 pu (fa 1 r1.1) r1.2 fun r2 =>
 pu (ld r2.2 r2.1) r2.2 fun r3 =>
 pu (asliceData r3.1) r3.2 fun r4 =>
 pu (anil a0) r4.2 fun r5 =>
 pu (fa 1 r5.1) r5.2 fun r6 =>
 pu (ld r6.2 r6.1) r6.2 fun r7 =>
 pu (lnS r7.1) r7.2 fun r8 =>
 bi (usS lim r8.2 r4.1 r8.1) fun r9 =>
 rt r9.1 r9.2

/-! #### rushlight/ir.nums -/
noncomputable def fi31 : FI := ⟨18, 0, [.tmp 2], (.seq (rgn Tryd.f31.body 0) (.seq (rgn Tryd.f31.body 1) (.seq (.seq (rgn Tryd.f31.body 2) (.block 0 (.loop ⟨[3, 6, 7, 8], none, [(0, [3])]⟩ (.seq (rgn Tryd.f31.body 3) (.seq (.cond (.tmp 9) .skip (.exit 0)) (.seq (.block 1 (.seq (rgn Tryd.f31.body 4) (rgn Tryd.f31.body 5))) (rgn Tryd.f31.body 6))))))) (.seq (rgn Tryd.f31.body 7) .ret))))⟩
theorem fits31 : Fits Tryd.prog 31 fi31 Tryd.f31 := ⟨by kernel_rfl, by kernel_rfl, by kernel_rfl, by kernel_rfl, by kernel_rfl⟩
set_option maxRecDepth 100000 in
/-- A round: what is kept: [3, 6, 7, 8]. -/
noncomputable def s31.l0 (call : ACall) (lim : Nat) (v3 : List AV) (h4 : Heap) : Option Res :=
 pu (abin Tryd.prog .lss 3 (v3.getD 3 .junk) (v3.getD 2 .junk)) h4 fun r5 =>
 cn (asB r5.1)
 (pu (ixS 1 (v3.getD 1 .junk) (v3.getD 3 .junk)) r5.2 fun r6 =>
 pu (ld r6.2 r6.1) r6.2 fun r7 =>
 bi (call 30 [r7.1] r7.2) fun r8 =>
 pu (abin Tryd.prog .add 9 (.d (.str ⟨#[32]⟩)) r8.1) r8.2 fun r9 =>
 bi (call 29 [(v3.getD 0 .junk), r9.1] r9.2) fun r10 =>
 pu (abin Tryd.prog .add 3 (v3.getD 3 .junk) (.d (.int .i64 1))) r10.2 fun r11 =>
 some (.normal, [(v3.getD 0 .junk), (v3.getD 1 .junk), (v3.getD 2 .junk), r11.1], r11.2))
 (some (.exit 0, [(v3.getD 0 .junk)], r5.2))
set_option maxRecDepth 100000 in
noncomputable def s31 (call : ACall) (lim : Nat) (a0 : AV) (H : Heap) : Option Res :=
 bi (alB [.nilptr, .d (.seq true 0 [])] H) fun r1 =>
 pu (lnS a0) r1.2 fun r2 =>
 lp (s31.l0 call lim) [r1.1, a0, r2.1, .d (.int .i64 0)] r2.2 fun j12 =>
 dsp j12.1 none none [(0, bi (call 32 [(gv j12 0)] j12.2.2) fun r13 =>
 rt r13.1 r13.2)]

/-! #### rushlight/ir.Text -/
noncomputable def fi13 : FI := ⟨74, 0, [.tmp 2], (.seq (rgn Tryd.f13.body 0) (.seq (rgn Tryd.f13.body 1) (.seq (.seq (rgn Tryd.f13.body 2) (.block 0 (.loop ⟨[3, 9, 10, 11], none, [(0, [3])]⟩ (.seq (rgn Tryd.f13.body 3) (.seq (.cond (.tmp 12) .skip (.exit 0)) (.seq (.block 1 (.seq (rgn Tryd.f13.body 4) (.seq (rgn Tryd.f13.body 5) (.seq (.seq (rgn Tryd.f13.body 6) (.block 2 (.loop ⟨[3, 5, 9, 10, 11, 22, 23, 24], none, [(2, [3, 5, 9, 10, 11])]⟩ (.seq (rgn Tryd.f13.body 7) (.seq (.cond (.tmp 25) .skip (.exit 2)) (.seq (.block 3 (.seq (rgn Tryd.f13.body 8) (.seq (rgn Tryd.f13.body 9) (.cut ⟨[3, 5, 9, 10, 11, 22, 23, 24], none, []⟩ (.seq (rgn Tryd.f13.body 10) (.cond (.tmp 55) (rgn Tryd.f13.body 11) .skip)) (rgn Tryd.f13.body 12))))) (rgn Tryd.f13.body 13))))))) (rgn Tryd.f13.body 14))))) (rgn Tryd.f13.body 15))))))) (.seq (rgn Tryd.f13.body 16) .ret))))⟩
theorem fits13 : Fits Tryd.prog 13 fi13 Tryd.f13 := ⟨by kernel_rfl, by kernel_rfl, by kernel_rfl, by kernel_rfl, by kernel_rfl⟩
set_option maxRecDepth 100000 in
/-- A round: what is kept: [3, 5, 9, 10, 11, 22, 23, 24]. -/
noncomputable def s13.l0 (call : ACall) (lim : Nat) (v20 : List AV) (h21 : Heap) : Option Res :=
 pu (abin Tryd.prog .lss 3 (v20.getD 7 .junk) (v20.getD 6 .junk)) h21 fun r22 =>
 cn (asB r22.1)
 (pu (ixS 11 (v20.getD 5 .junk) (v20.getD 7 .junk)) r22.2 fun r23 =>
 pu (ldA 11 r23.2 r23.1) r23.2 fun r24 =>
 bi (al [.d (.int .i64 0), .d (.int .i64 0), .d (.int .i64 0), .d (.int .i64 0), .d (.int .i64 0), .d (.int .i64 0), .d (.int .i64 0), .d (.int .i64 0), .d (.int .u32 0), .d (.seq true 0 []), .d (.bool false)] r24.2) fun r25 =>
 bi (stA 11 lim r25.2 r25.1 r24.1) fun r26 =>
 pu (fa 0 r25.1) r26.2 fun r27 =>
 pu (ld r27.2 r27.1) r27.2 fun r28 =>
 pu (fa 1 r25.1) r28.2 fun r29 =>
 pu (ld r29.2 r29.1) r29.2 fun r30 =>
 pu (fa 2 r25.1) r30.2 fun r31 =>
 pu (ld r31.2 r31.1) r31.2 fun r32 =>
 pu (fa 3 r25.1) r32.2 fun r33 =>
 pu (ld r33.2 r33.1) r33.2 fun r34 =>
 pu (fa 4 r25.1) r34.2 fun r35 =>
 pu (ld r35.2 r35.1) r35.2 fun r36 =>
 pu (fa 5 r25.1) r36.2 fun r37 =>
 pu (ld r37.2 r37.1) r37.2 fun r38 =>
 pu (fa 6 r25.1) r38.2 fun r39 =>
 pu (ld r39.2 r39.1) r39.2 fun r40 =>
 pu (fa 7 r25.1) r40.2 fun r41 =>
 pu (ld r41.2 r41.1) r41.2 fun r42 =>
 pu (fa 8 r25.1) r42.2 fun r43 =>
 pu (ld r43.2 r43.1) r43.2 fun r44 =>
 pu (cvI .i64 r44.1) r44.2 fun r45 =>
 bi (bldS 1 9 [.d (.int .i64 0)] [(0, r28.1), (1, r30.1), (2, r32.1), (3, r34.1), (4, r36.1), (5, r38.1), (6, r40.1), (7, r42.1), (8, r45.1)] r45.2) fun r46 =>
 bi (call 31 [r46.1] r46.2) fun r47 =>
 pu (fa 9 r25.1) r47.2 fun r48 =>
 pu (ld r48.2 r48.1) r48.2 fun r49 =>
 ck [again lim (pm (ld r45.2 r48.1) r45.2) r49.1 r45.2] (
 bi (call 31 [r49.1] r49.2) fun r50 =>
 pu (abin Tryd.prog .add 9 r47.1 r50.1) r50.2 fun r51 =>
 bi (call 29 [(v20.getD 0 .junk), r51.1] r51.2) fun r52 =>
 jn
 (pu (fa 10 r25.1) r52.2 fun r53 =>
 pu (ld r53.2 r53.1) r53.2 fun r54 =>
 cn (asB r54.1)
 (bi (call 29 [(v20.getD 0 .junk), .d (.str ⟨#[32, 108, 111, 103]⟩)] r54.2) fun r55 =>
 some (.normal, [(v20.getD 0 .junk), (v20.getD 1 .junk), (v20.getD 2 .junk), (v20.getD 3 .junk), (v20.getD 4 .junk), (v20.getD 5 .junk), (v20.getD 6 .junk), (v20.getD 7 .junk)], r55.2))
 (some (.normal, [(v20.getD 0 .junk), (v20.getD 1 .junk), (v20.getD 2 .junk), (v20.getD 3 .junk), (v20.getD 4 .junk), (v20.getD 5 .junk), (v20.getD 6 .junk), (v20.getD 7 .junk)], r54.2))) fun j56 =>
 dsp j56.1 (bi (call 29 [(gv j56 0), .d (.str ⟨#[10]⟩)] j56.2.2) fun r57 =>
 pu (abin Tryd.prog .add 3 (gv j56 7) (.d (.int .i64 1))) r57.2 fun r58 =>
 some (.normal, [(gv j56 0), (gv j56 1), (gv j56 2), (gv j56 3), (gv j56 4), (gv j56 5), (gv j56 6), r58.1], r58.2)) none []))
 (some (.exit 2, [(v20.getD 0 .junk), (v20.getD 1 .junk), (v20.getD 2 .junk), (v20.getD 3 .junk), (v20.getD 4 .junk)], r22.2))
set_option maxRecDepth 100000 in
/-- A round: what is kept: [3, 9, 10, 11]. -/
noncomputable def s13.l1 (call : ACall) (lim : Nat) (v6 : List AV) (h7 : Heap) : Option Res :=
 pu (abin Tryd.prog .lss 3 (v6.getD 3 .junk) (v6.getD 2 .junk)) h7 fun r8 =>
 cn (asB r8.1)
 (pu (ixS 5 (v6.getD 1 .junk) (v6.getD 3 .junk)) r8.2 fun r9 =>
 pu (ldA 5 r9.2 r9.1) r9.2 fun r10 =>
 bi (al [.d (.seq true 0 []), .d (.int .i64 0), .d (.int .i64 0), .d (.int .i64 0), .d (.int .i64 0)] r10.2) fun r11 =>
 bi (stA 5 lim r11.2 r11.1 r10.1) fun r12 =>
 bi (call 30 [(v6.getD 3 .junk)] r12.2) fun r13 =>
 pu (abin Tryd.prog .add 9 (.d (.str ⟨#[98]⟩)) r13.1) r13.2 fun r14 =>
 pu (abin Tryd.prog .add 9 r14.1 (.d (.str ⟨#[58, 10]⟩))) r14.2 fun r15 =>
 bi (call 29 [(v6.getD 0 .junk), r15.1] r15.2) fun r16 =>
 pu (fa 0 r11.1) r16.2 fun r17 =>
 pu (ld r17.2 r17.1) r17.2 fun r18 =>
 pu (lnS r18.1) r18.2 fun r19 =>
 lp (s13.l0 call lim) [(v6.getD 0 .junk), r11.1, (v6.getD 1 .junk), (v6.getD 2 .junk), (v6.getD 3 .junk), r18.1, r19.1, .d (.int .i64 0)] r19.2 fun j59 =>
 dsp j59.1 none none [(2, pu (fa 1 (gv j59 1)) j59.2.2 fun r60 =>
 pu (ld r60.2 r60.1) r60.2 fun r61 =>
 pu (fa 2 (gv j59 1)) r61.2 fun r62 =>
 pu (ld r62.2 r62.1) r62.2 fun r63 =>
 pu (fa 3 (gv j59 1)) r63.2 fun r64 =>
 pu (ld r64.2 r64.1) r64.2 fun r65 =>
 pu (fa 4 (gv j59 1)) r65.2 fun r66 =>
 pu (ld r66.2 r66.1) r66.2 fun r67 =>
 bi (bldS 1 4 [.d (.int .i64 0)] [(0, r61.1), (1, r63.1), (2, r65.1), (3, r67.1)] r67.2) fun r68 =>
 bi (call 31 [r68.1] r68.2) fun r69 =>
 pu (abin Tryd.prog .add 9 (.d (.str ⟨#[32, 101, 110, 100]⟩)) r69.1) r69.2 fun r70 =>
 pu (abin Tryd.prog .add 9 r70.1 (.d (.str ⟨#[10]⟩))) r70.2 fun r71 =>
 bi (call 29 [(gv j59 0), r71.1] r71.2) fun r72 =>
 pu (abin Tryd.prog .add 3 (gv j59 4) (.d (.int .i64 1))) r72.2 fun r73 =>
 some (.normal, [(gv j59 0), (gv j59 2), (gv j59 3), r73.1], r73.2))])
 (some (.exit 0, [(v6.getD 0 .junk)], r8.2))
set_option maxRecDepth 100000 in
noncomputable def s13 (call : ACall) (lim : Nat) (a0 : AV) (H : Heap) : Option Res :=
 bi (bx a0 H) fun r1 =>
 bi (alB [.nilptr, .d (.seq true 0 [])] r1.2) fun r2 =>
 pu (fa 5 r1.1) r2.2 fun r3 =>
 pu (ld r3.2 r3.1) r3.2 fun r4 =>
 pu (lnS r4.1) r4.2 fun r5 =>
 lp (s13.l1 call lim) [r2.1, r4.1, r5.1, .d (.int .i64 0)] r5.2 fun j74 =>
 dsp j74.1 none none [(0, bi (call 32 [(gv j74 0)] j74.2.2) fun r75 =>
 rt r75.1 r75.2)]

/-! #### rushlight/ir.slots -/
noncomputable def fi24 : FI := ⟨30, 0, [.tmp 2], (.seq (rgn Tryd.f24.body 0) (.seq (.seq (rgn Tryd.f24.body 1) (.block 0 (.loop ⟨[5, 6, 7], some [2], [(0, [])]⟩ (.seq (rgn Tryd.f24.body 2) (.seq (.cond (.tmp 8) .skip (.exit 0)) (.seq (.block 1 (.seq (rgn Tryd.f24.body 3) (.seq (rgn Tryd.f24.body 4) (.cond (.tmp 28) (.seq (rgn Tryd.f24.body 5) .ret) .skip)))) (rgn Tryd.f24.body 6))))))) (.seq (rgn Tryd.f24.body 7) .ret)))⟩
theorem fits24 : Fits Tryd.prog 24 fi24 Tryd.f24 := ⟨by kernel_rfl, by kernel_rfl, by kernel_rfl, by kernel_rfl, by kernel_rfl⟩
set_option maxRecDepth 100000 in
/-- A round: what is kept: [5, 6, 7]. -/
noncomputable def s24.l0 (call : ACall) (lim : Nat) (v2 : List AV) (h3 : Heap) : Option Res :=
 pu (abin Tryd.prog .lss 3 (v2.getD 2 .junk) (v2.getD 1 .junk)) h3 fun r4 =>
 cn (asB r4.1)
 (pu (ixS 4 (v2.getD 0 .junk) (v2.getD 2 .junk)) r4.2 fun r5 =>
 pu (ldA 4 r5.2 r5.1) r5.2 fun r6 =>
 bi (al [.d (.str ⟨#[]⟩), .d (.int .i64 0), .d (.int .i64 0), .d (.int .i64 0)] r6.2) fun r7 =>
 bi (stA 4 lim r7.2 r7.1 r6.1) fun r8 =>
 pu (fa 1 r7.1) r8.2 fun r9 =>
 pu (ld r9.2 r9.1) r9.2 fun r10 =>
 pu (abin Tryd.prog .lss 3 r10.1 (.d (.int .i64 1))) r10.2 fun r11 =>
 gd (yv r11.1) false (pm (fa 1 r7.1) r11.2) r11.2 fun r12 =>
 gd (yv r11.1) false (pm (ld r12.2 r12.1) r12.2) r12.2 fun r13 =>
 gd (yv r11.1) false (pm (abin Tryd.prog .gtr 3 r13.1 (.d (.int .i64 32768))) r13.2) r13.2 fun r14 =>
 bi (pk r11.1 (.d (.bool true)) r14.1 r14.2) fun r15 =>
 gd (yv r15.1) false (pm (fa 2 r7.1) r15.2) r15.2 fun r16 =>
 gd (yv r15.1) false (pm (ld r16.2 r16.1) r16.2) r16.2 fun r17 =>
 gd (yv r15.1) false (pm (abin Tryd.prog .neq 3 r17.1 (.d (.int .i64 1))) r17.2) r17.2 fun r18 =>
 gd (yv r15.1) false (some (r18.1, r18.2)) r18.2 fun r19 =>
 gd (yv r19.1) true (pm (fa 2 r7.1) r19.2) r19.2 fun r20 =>
 gd (yv r19.1) true (pm (ld r20.2 r20.1) r20.2) r20.2 fun r21 =>
 gd (yv r19.1) true (pm (abin Tryd.prog .neq 3 r21.1 (.d (.int .i64 4))) r21.2) r21.2 fun r22 =>
 gd (yv r15.1) false (pk r19.1 r22.1 (.d (.bool false)) r22.2) r22.2 fun r23 =>
 bi (pk r15.1 (.d (.bool true)) r23.1 r23.2) fun r24 =>
 cn (asB r24.1)
 (some (.ret, [.d (.bool false)], r24.2))
 (pu (abin Tryd.prog .add 3 (v2.getD 2 .junk) (.d (.int .i64 1))) r24.2 fun r25 =>
 some (.normal, [(v2.getD 0 .junk), (v2.getD 1 .junk), r25.1], r25.2)))
 (some (.exit 0, [], r4.2))
set_option maxRecDepth 100000 in
noncomputable def s24 (call : ACall) (lim : Nat) (a0 : AV) (H : Heap) : Option Res :=
 pu (lnS a0) H fun r1 =>
 lp (s24.l0 call lim) [a0, r1.1, .d (.int .i64 0)] r1.2 fun j26 =>
 dsp j26.1 none (rt (gv j26 0) j26.2.2) [(0, rt (.d (.bool true)) j26.2.2)]

/-! #### rushlight/ir.Size -/
noncomputable def fi15 : FI := ⟨23, 0, [.tmp 2], (.seq (rgn Tryd.f15.body 0) (.seq (rgn Tryd.f15.body 1) (.seq (.seq (rgn Tryd.f15.body 2) (.block 0 (.loop ⟨[3, 10, 11, 12], none, [(0, [3])]⟩ (.seq (rgn Tryd.f15.body 3) (.seq (.cond (.tmp 13) .skip (.exit 0)) (.seq (.block 1 (.seq (rgn Tryd.f15.body 4) (rgn Tryd.f15.body 5))) (rgn Tryd.f15.body 6))))))) (.seq (rgn Tryd.f15.body 7) .ret))))⟩
theorem fits15 : Fits Tryd.prog 15 fi15 Tryd.f15 := ⟨by kernel_rfl, by kernel_rfl, by kernel_rfl, by kernel_rfl, by kernel_rfl⟩
set_option maxRecDepth 100000 in
/-- A round: what is kept: [3, 10, 11, 12]. -/
noncomputable def s15.l0 (call : ACall) (lim : Nat) (v8 : List AV) (h9 : Heap) : Option Res :=
 pu (abin Tryd.prog .lss 3 (v8.getD 3 .junk) (v8.getD 2 .junk)) h9 fun r10 =>
 cn (asB r10.1)
 (pu (ixS 5 (v8.getD 1 .junk) (v8.getD 3 .junk)) r10.2 fun r11 =>
 pu (ldA 5 r11.2 r11.1) r11.2 fun r12 =>
 bi (al [.d (.seq true 0 []), .d (.int .i64 0), .d (.int .i64 0), .d (.int .i64 0), .d (.int .i64 0)] r12.2) fun r13 =>
 bi (stA 5 lim r13.2 r13.1 r12.1) fun r14 =>
 pu (fa 0 r13.1) r14.2 fun r15 =>
 pu (ld r15.2 r15.1) r15.2 fun r16 =>
 pu (lnS r16.1) r16.2 fun r17 =>
 pu (abin Tryd.prog .add 3 (v8.getD 0 .junk) r17.1) r17.2 fun r18 =>
 pu (abin Tryd.prog .add 3 (v8.getD 3 .junk) (.d (.int .i64 1))) r18.2 fun r19 =>
 some (.normal, [r18.1, (v8.getD 1 .junk), (v8.getD 2 .junk), r19.1], r19.2))
 (some (.exit 0, [(v8.getD 0 .junk)], r10.2))
set_option maxRecDepth 100000 in
noncomputable def s15 (call : ACall) (lim : Nat) (a0 : AV) (H : Heap) : Option Res :=
 bi (bx a0 H) fun r1 =>
 pu (fa 5 r1.1) r1.2 fun r2 =>
 pu (ld r2.2 r2.1) r2.2 fun r3 =>
 pu (lnS r3.1) r3.2 fun r4 =>
 pu (fa 5 r1.1) r4.2 fun r5 =>
 pu (ld r5.2 r5.1) r5.2 fun r6 =>
 pu (lnS r6.1) r6.2 fun r7 =>
 lp (s15.l0 call lim) [r4.1, r6.1, r7.1, .d (.int .i64 0)] r7.2 fun j20 =>
 dsp j20.1 none none [(0, rt (gv j20 0) j20.2.2)]

/-! #### rushlight/ir.reads -/
noncomputable def fi36 : FI := ⟨15, 0, [.tmp 2, .tmp 3], (.seq (rgn Tryd.f36.body 0) (.cut ⟨[2, 3], none, []⟩ (.seq (rgn Tryd.f36.body 1) (.block 0 (.cut ⟨[3], none, [(0, [2, 3])]⟩ (.block 2 (.seq (.block 1 (.seq (.seq (.cut ⟨[2, 3, 4, 5], none, []⟩ (.seq (rgn Tryd.f36.body 2) (.cond (.tmp 5) .skip (rgn Tryd.f36.body 3))) (.cond (.tmp 5) (.exit 1) .skip)) (.cut ⟨[2, 3, 8], none, []⟩ (.seq (rgn Tryd.f36.body 4) (.cond (.tmp 8) .skip (.seq (rgn Tryd.f36.body 5) (.cond (.tmp 8) .skip (.seq (rgn Tryd.f36.body 6) (.cond (.tmp 8) .skip (rgn Tryd.f36.body 7))))))) (.cond (.tmp 8) (.exit 2) .skip))) (.exit 0))) (rgn Tryd.f36.body 8))) (.seq (rgn Tryd.f36.body 9) (.exit 0))))) (.seq (rgn Tryd.f36.body 10) .ret)))⟩
theorem fits36 : Fits Tryd.prog 36 fi36 Tryd.f36 := ⟨by kernel_rfl, by kernel_rfl, by kernel_rfl, by kernel_rfl, by kernel_rfl⟩
set_option maxRecDepth 100000 in
noncomputable def s36 (call : ACall) (lim : Nat) (a0 : AV) (H : Heap) : Option Res :=
 jn
 (jn
 (jn
 (pu (abin Tryd.prog .eql 3 a0 (.d (.int .i64 3))) H fun r1 =>
 cn (asB r1.1)
 (some (.normal, [.d (.bool false), .d (.bool false), a0, r1.1], r1.2))
 (pu (abin Tryd.prog .eql 3 a0 (.d (.int .i64 6))) r1.2 fun r2 =>
 some (.normal, [.d (.bool false), .d (.bool false), a0, r2.1], r2.2))) fun j3 =>
 dsp j3.1 (cn (asB (gv j3 3))
 (some (.normal, [.d (.bool true)], j3.2.2))
 (jn
 (pu (abin Tryd.prog .eql 3 (gv j3 2) (.d (.int .i64 2))) j3.2.2 fun r4 =>
 cn (asB r4.1)
 (some (.normal, [(gv j3 0), (gv j3 1), r4.1], r4.2))
 (pu (abin Tryd.prog .eql 3 (gv j3 2) (.d (.int .i64 4))) r4.2 fun r5 =>
 cn (asB r5.1)
 (some (.normal, [(gv j3 0), (gv j3 1), r5.1], r5.2))
 (pu (abin Tryd.prog .eql 3 (gv j3 2) (.d (.int .i64 5))) r5.2 fun r6 =>
 cn (asB r6.1)
 (some (.normal, [(gv j3 0), (gv j3 1), r6.1], r6.2))
 (pu (abin Tryd.prog .eql 3 (gv j3 2) (.d (.int .i64 10))) r6.2 fun r7 =>
 some (.normal, [(gv j3 0), (gv j3 1), r7.1], r7.2))))) fun j8 =>
 dsp j8.1 (cn (asB (gv j8 2))
 (some (.normal, [(gv j8 1)], j8.2.2))
 (some (.exit 0, [(gv j8 0), (gv j8 1)], j8.2.2))) none [])) none []) fun j9 =>
 dsp j9.1 (some (.normal, [.d (.bool true), (gv j9 0)], j9.2.2)) none [(0, some (.normal, [(gv j9 0), (gv j9 1)], j9.2.2))]) fun j10 =>
 dsp j10.1 (rt (.tup [(gv j10 0), (gv j10 1)]) j10.2.2) none []

/-! #### rushlight/ir.Def -/
noncomputable def fi16 : FI := ⟨17, 0, [.tmp 2], (.seq (rgn Tryd.f16.body 0) (.seq (.seq (rgn Tryd.f16.body 1) (.block 0 (.cut ⟨[1, 5], none, []⟩ (.seq (rgn Tryd.f16.body 2) (.cond (.tmp 5) .skip (.seq (rgn Tryd.f16.body 3) (.cond (.tmp 5) .skip (.seq (rgn Tryd.f16.body 4) (.cond (.tmp 5) .skip (.seq (rgn Tryd.f16.body 5) (.cond (.tmp 5) .skip (.seq (rgn Tryd.f16.body 6) (.cond (.tmp 5) .skip (.seq (rgn Tryd.f16.body 7) (.cond (.tmp 5) .skip (.seq (rgn Tryd.f16.body 8) (.cond (.tmp 5) .skip (.seq (rgn Tryd.f16.body 9) (.cond (.tmp 5) .skip (rgn Tryd.f16.body 10))))))))))))))))) (.cond (.tmp 5) (.seq (rgn Tryd.f16.body 11) .ret) .skip)))) (.seq (rgn Tryd.f16.body 12) .ret)))⟩
theorem fits16 : Fits Tryd.prog 16 fi16 Tryd.f16 := ⟨by kernel_rfl, by kernel_rfl, by kernel_rfl, by kernel_rfl, by kernel_rfl⟩
set_option maxRecDepth 100000 in
noncomputable def s16 (call : ACall) (lim : Nat) (a0 : AV) (H : Heap) : Option Res :=
 bi (bx a0 H) fun r1 =>
 pu (fa 0 r1.1) r1.2 fun r2 =>
 pu (ld r2.2 r2.1) r2.2 fun r3 =>
 jn
 (pu (abin Tryd.prog .eql 3 r3.1 (.d (.int .i64 1))) r3.2 fun r4 =>
 cn (asB r4.1)
 (some (.normal, [r1.1, r4.1], r4.2))
 (pu (abin Tryd.prog .eql 3 r3.1 (.d (.int .i64 2))) r4.2 fun r5 =>
 cn (asB r5.1)
 (some (.normal, [r1.1, r5.1], r5.2))
 (pu (abin Tryd.prog .eql 3 r3.1 (.d (.int .i64 3))) r5.2 fun r6 =>
 cn (asB r6.1)
 (some (.normal, [r1.1, r6.1], r6.2))
 (pu (abin Tryd.prog .eql 3 r3.1 (.d (.int .i64 4))) r6.2 fun r7 =>
 cn (asB r7.1)
 (some (.normal, [r1.1, r7.1], r7.2))
 (pu (abin Tryd.prog .eql 3 r3.1 (.d (.int .i64 5))) r7.2 fun r8 =>
 cn (asB r8.1)
 (some (.normal, [r1.1, r8.1], r8.2))
 (pu (abin Tryd.prog .eql 3 r3.1 (.d (.int .i64 7))) r8.2 fun r9 =>
 cn (asB r9.1)
 (some (.normal, [r1.1, r9.1], r9.2))
 (pu (abin Tryd.prog .eql 3 r3.1 (.d (.int .i64 8))) r9.2 fun r10 =>
 cn (asB r10.1)
 (some (.normal, [r1.1, r10.1], r10.2))
 (pu (abin Tryd.prog .eql 3 r3.1 (.d (.int .i64 9))) r10.2 fun r11 =>
 cn (asB r11.1)
 (some (.normal, [r1.1, r11.1], r11.2))
 (pu (abin Tryd.prog .eql 3 r3.1 (.d (.int .i64 11))) r11.2 fun r12 =>
 some (.normal, [r1.1, r12.1], r12.2)))))))))) fun j13 =>
 dsp j13.1 (cn (asB (gv j13 1))
 (pu (fa 1 (gv j13 0)) j13.2.2 fun r14 =>
 pu (ld r14.2 r14.1) r14.2 fun r15 =>
 rt r15.1 r15.2)
 (rt (.d (.int .i64 (-1))) j13.2.2)) none []

/-! #### rushlight/ir.plain -/
noncomputable def fi49 : FI := ⟨39, 0, [.cell 2 45], (.seq (rgn Tryd.f49.body 0) (.cut ⟨[1, 2], none, []⟩ (.seq (rgn Tryd.f49.body 1) (.cond (.tmp 10) (rgn Tryd.f49.body 2) .skip)) (.seq (rgn Tryd.f49.body 3) (.seq (rgn Tryd.f49.body 4) (.cut ⟨[1, 2], none, []⟩ (.seq (rgn Tryd.f49.body 5) (.block 0 (.seq (rgn Tryd.f49.body 6) (.cond (.tmp 18) (rgn Tryd.f49.body 7) (.cut ⟨[1, 2, 17, 21], none, []⟩ (.seq (rgn Tryd.f49.body 8) (.cond (.tmp 21) .skip (rgn Tryd.f49.body 9))) (.cond (.tmp 21) (rgn Tryd.f49.body 10) (.cut ⟨[1, 2, 17, 25], none, []⟩ (.seq (rgn Tryd.f49.body 11) (.cond (.tmp 25) .skip (rgn Tryd.f49.body 12))) (.cond (.tmp 25) (rgn Tryd.f49.body 13) (.cut ⟨[1, 2, 17, 30], none, []⟩ (.seq (rgn Tryd.f49.body 14) (.cond (.tmp 30) .skip (rgn Tryd.f49.body 15))) (.cond (.tmp 30) (rgn Tryd.f49.body 16) (.seq (rgn Tryd.f49.body 17) (.cond (.tmp 35) (rgn Tryd.f49.body 18) .skip)))))))))))) (.seq (rgn Tryd.f49.body 19) .ret))))))⟩
theorem fits49 : Fits Tryd.prog 49 fi49 Tryd.f49 := ⟨by kernel_rfl, by kernel_rfl, by kernel_rfl, by kernel_rfl, by kernel_rfl⟩
set_option maxRecDepth 100000 in
noncomputable def s49 (call : ACall) (lim : Nat) (a0 : AV) (H : Heap) : Option Res :=
 bi (bx a0 H) fun r1 =>
 bi (al [.d (.int .i64 0), .d (.int .i64 0), .d (.int .i64 0), .d (.int .i64 0), .d (.int .i64 0), .d (.int .i64 0), .d (.int .i64 0), .d (.int .i64 0), .d (.int .u32 0), .d (.seq true 0 []), .d (.bool false)] r1.2) fun r2 =>
 jn
 (pu (fa 0 r1.1) r2.2 fun r3 =>
 pu (ld r3.2 r3.1) r3.2 fun r4 =>
 pu (abin Tryd.prog .eql 3 r4.1 (.d (.int .i64 6))) r4.2 fun r5 =>
 gd (yv r5.1) false (pm (ldA 11 r5.2 r1.1) r5.2) r5.2 fun r6 =>
 gd (yv r5.1) false (call 16 [r6.1] r6.2) r6.2 fun r7 =>
 gd (yv r5.1) false (pm (abin Tryd.prog .neq 3 r7.1 (.d (.int .i64 (-1)))) r7.2) r7.2 fun r8 =>
 bi (pk r5.1 (.d (.bool true)) r8.1 r8.2) fun r9 =>
 cn (asB r9.1)
 (pu (fa 10 r1.1) r9.2 fun r10 =>
 bi (stA 1 lim r10.2 r10.1 (.d (.bool false))) fun r11 =>
 some (.normal, [r1.1, r2.1], r11.2))
 (some (.normal, [r1.1, r2.1], r9.2))) fun j12 =>
 dsp j12.1 (pu (fa 1 (gv j12 0)) j12.2.2 fun r13 =>
 bi (stA 1 lim r13.2 r13.1 (.d (.int .i64 (-1)))) fun r14 =>
 pu (fa 2 (gv j12 0)) r14.2 fun r15 =>
 bi (stA 1 lim r15.2 r15.1 (.d (.int .i64 (-1)))) fun r16 =>
 pu (fa 3 (gv j12 0)) r16.2 fun r17 =>
 bi (stA 1 lim r17.2 r17.1 (.d (.int .i64 (-1)))) fun r18 =>
 pu (fa 9 (gv j12 0)) r18.2 fun r19 =>
 bi (stA 1 lim r19.2 r19.1 (.d (.seq true 0 []))) fun r20 =>
 jn
 (pu (fa 0 (gv j12 0)) r20.2 fun r21 =>
 pu (ld r21.2 r21.1) r21.2 fun r22 =>
 pu (abin Tryd.prog .eql 3 r22.1 (.d (.int .i64 1))) r22.2 fun r23 =>
 cn (asB r23.1)
 (pu (fa 8 (gv j12 0)) r23.2 fun r24 =>
 bi (stA 1 lim r24.2 r24.1 (.d (.int .u32 0))) fun r25 =>
 some (.normal, [(gv j12 0), (gv j12 1)], r25.2))
 (jn
 (pu (abin Tryd.prog .eql 3 r22.1 (.d (.int .i64 3))) r23.2 fun r26 =>
 cn (asB r26.1)
 (some (.normal, [(gv j12 0), (gv j12 1), r22.1, r26.1], r26.2))
 (pu (abin Tryd.prog .eql 3 r22.1 (.d (.int .i64 4))) r26.2 fun r27 =>
 some (.normal, [(gv j12 0), (gv j12 1), r22.1, r27.1], r27.2))) fun j28 =>
 dsp j28.1 (cn (asB (gv j28 3))
 (pu (fa 4 (gv j28 0)) j28.2.2 fun r29 =>
 bi (stA 1 lim r29.2 r29.1 (.d (.int .i64 0))) fun r30 =>
 some (.normal, [(gv j28 0), (gv j28 1)], r30.2))
 (jn
 (pu (abin Tryd.prog .eql 3 (gv j28 2) (.d (.int .i64 6))) j28.2.2 fun r31 =>
 cn (asB r31.1)
 (some (.normal, [(gv j28 0), (gv j28 1), (gv j28 2), r31.1], r31.2))
 (pu (abin Tryd.prog .eql 3 (gv j28 2) (.d (.int .i64 5))) r31.2 fun r32 =>
 some (.normal, [(gv j28 0), (gv j28 1), (gv j28 2), r32.1], r32.2))) fun j33 =>
 dsp j33.1 (cn (asB (gv j33 3))
 (pu (fa 6 (gv j33 0)) j33.2.2 fun r34 =>
 bi (stA 1 lim r34.2 r34.1 (.d (.int .i64 0))) fun r35 =>
 pu (fa 7 (gv j33 0)) r35.2 fun r36 =>
 bi (stA 1 lim r36.2 r36.1 (.d (.int .i64 0))) fun r37 =>
 some (.normal, [(gv j33 0), (gv j33 1)], r37.2))
 (jn
 (pu (abin Tryd.prog .eql 3 (gv j33 2) (.d (.int .i64 7))) j33.2.2 fun r38 =>
 cn (asB r38.1)
 (some (.normal, [(gv j33 0), (gv j33 1), (gv j33 2), r38.1], r38.2))
 (pu (abin Tryd.prog .eql 3 (gv j33 2) (.d (.int .i64 8))) r38.2 fun r39 =>
 some (.normal, [(gv j33 0), (gv j33 1), (gv j33 2), r39.1], r39.2))) fun j40 =>
 dsp j40.1 (cn (asB (gv j40 3))
 (pu (fa 6 (gv j40 0)) j40.2.2 fun r41 =>
 bi (stA 1 lim r41.2 r41.1 (.d (.int .i64 0))) fun r42 =>
 pu (fa 5 (gv j40 0)) r42.2 fun r43 =>
 bi (stA 1 lim r43.2 r43.1 (.d (.int .i64 0))) fun r44 =>
 some (.normal, [(gv j40 0), (gv j40 1)], r44.2))
 (pu (abin Tryd.prog .eql 3 (gv j40 2) (.d (.int .i64 9))) j40.2.2 fun r45 =>
 cn (asB r45.1)
 (pu (fa 5 (gv j40 0)) r45.2 fun r46 =>
 bi (stA 1 lim r46.2 r46.1 (.d (.int .i64 0))) fun r47 =>
 some (.normal, [(gv j40 0), (gv j40 1)], r47.2))
 (some (.normal, [(gv j40 0), (gv j40 1)], r45.2)))) none [])) none [])) none [])) fun j48 =>
 dsp j48.1 (pu (ldA 11 j48.2.2 (gv j48 0)) j48.2.2 fun r49 =>
 bi (stA 11 lim r49.2 (gv j48 1) r49.1) fun r50 =>
 rs [ldA 11 r50.2 (gv j48 1)] r50.2) none []) none []

/-! #### rushlight/ir.bare -/
noncomputable def fi42 : FI := ⟨45, 0, [.tmp 2], (.seq (rgn Tryd.f42.body 0) (.seq (rgn Tryd.f42.body 1) (.seq (rgn Tryd.f42.body 2) .ret)))⟩
theorem fits42 : Fits Tryd.prog 42 fi42 Tryd.f42 := ⟨by kernel_rfl, by kernel_rfl, by kernel_rfl, by kernel_rfl, by kernel_rfl⟩
set_option maxRecDepth 100000 in
noncomputable def s42 (call : ACall) (lim : Nat) (a0 : AV) (H : Heap) : Option Res :=
 bi (bx a0 H) fun r1 =>
 pu (ldA 11 r1.2 r1.1) r1.2 fun r2 =>
 bi (call 49 [r2.1] r2.2) fun r3 =>
 bi (al [.d (.int .i64 0), .d (.int .i64 0), .d (.int .i64 0), .d (.int .i64 0), .d (.int .i64 0), .d (.int .i64 0), .d (.int .i64 0), .d (.int .i64 0), .d (.int .u32 0), .d (.seq true 0 []), .d (.bool false)] r3.2) fun r4 =>
 bi (stA 11 lim r4.2 r4.1 r3.1) fun r5 =>
 pu (fa 4 r4.1) r5.2 fun r6 =>
 pu (ld r6.2 r6.1) r6.2 fun r7 =>
 pu (abin Tryd.prog .eql 3 r7.1 (.d (.int .i64 0))) r7.2 fun r8 =>
 gd (yv r8.1) true (pm (fa 5 r4.1) r8.2) r8.2 fun r9 =>
 gd (yv r8.1) true (pm (ld r9.2 r9.1) r9.2) r9.2 fun r10 =>
 gd (yv r8.1) true (pm (abin Tryd.prog .eql 3 r10.1 (.d (.int .i64 0))) r10.2) r10.2 fun r11 =>
 bi (pk r8.1 r11.1 (.d (.bool false)) r11.2) fun r12 =>
 gd (yv r12.1) true (pm (fa 6 r4.1) r12.2) r12.2 fun r13 =>
 gd (yv r12.1) true (pm (ld r13.2 r13.1) r13.2) r13.2 fun r14 =>
 gd (yv r12.1) true (pm (abin Tryd.prog .eql 3 r14.1 (.d (.int .i64 0))) r14.2) r14.2 fun r15 =>
 bi (pk r12.1 r15.1 (.d (.bool false)) r15.2) fun r16 =>
 gd (yv r16.1) true (pm (fa 7 r4.1) r16.2) r16.2 fun r17 =>
 gd (yv r16.1) true (pm (ld r17.2 r17.1) r17.2) r17.2 fun r18 =>
 gd (yv r16.1) true (pm (abin Tryd.prog .eql 3 r18.1 (.d (.int .i64 0))) r18.2) r18.2 fun r19 =>
 bi (pk r16.1 r19.1 (.d (.bool false)) r19.2) fun r20 =>
 gd (yv r20.1) true (pm (fa 8 r4.1) r20.2) r20.2 fun r21 =>
 gd (yv r20.1) true (pm (ld r21.2 r21.1) r21.2) r21.2 fun r22 =>
 gd (yv r20.1) true (pm (abin Tryd.prog .eql 42 r22.1 (.d (.int .u32 0))) r22.2) r22.2 fun r23 =>
 bi (pk r20.1 r23.1 (.d (.bool false)) r23.2) fun r24 =>
 gd (yv r24.1) true (pm (fa 10 r4.1) r24.2) r24.2 fun r25 =>
 gd (yv r24.1) true (pm (ld r25.2 r25.1) r25.2) r25.2 fun r26 =>
 gd (yv r24.1) true (pm (aun .not r26.1) r26.2) r26.2 fun r27 =>
 bi (pk r24.1 r27.1 (.d (.bool false)) r27.2) fun r28 =>
 gd (yv r28.1) true (pm (fa 0 r1.1) r28.2) r28.2 fun r29 =>
 gd (yv r28.1) true (pm (ld r29.2 r29.1) r29.2) r29.2 fun r30 =>
 gd (yv r28.1) true (pm (abin Tryd.prog .eql 3 r30.1 (.d (.int .i64 9))) r30.2) r30.2 fun r31 =>
 gd (yv r28.1) true (some (r31.1, r31.2)) r31.2 fun r32 =>
 gd (yv r32.1) false (pm (fa 9 r1.1) r32.2) r32.2 fun r33 =>
 gd (yv r32.1) false (pm (ld r33.2 r33.1) r33.2) r33.2 fun r34 =>
 gd (yv r32.1) false (pm (lnS r34.1) r34.2) r34.2 fun r35 =>
 gd (yv r32.1) false (pm (abin Tryd.prog .eql 3 r35.1 (.d (.int .i64 0))) r35.2) r35.2 fun r36 =>
 gd (yv r28.1) true (pk r32.1 (.d (.bool true)) r36.1 r36.2) r36.2 fun r37 =>
 bi (pk r28.1 r37.1 (.d (.bool false)) r37.2) fun r38 =>
 rt r38.1 r38.2

/-! #### (rushlight/ir.looker).reg -/
noncomputable def fi44 : FI := ⟨20, 0, [.tmp 6], (.seq (rgn Tryd.f44.body 0) (.seq (.seq (rgn Tryd.f44.body 1) (.cond (.tmp 8) (.seq (rgn Tryd.f44.body 2) .ret) .skip)) (.seq (rgn Tryd.f44.body 3) .ret)))⟩
theorem fits44 : Fits Tryd.prog 44 fi44 Tryd.f44 := ⟨by kernel_rfl, by kernel_rfl, by kernel_rfl, by kernel_rfl, by kernel_rfl⟩
set_option maxRecDepth 100000 in
noncomputable def s44 (call : ACall) (lim : Nat) (a0 a1 a2 : AV) (H : Heap) : Option Res :=
 bi (bx a0 H) fun r1 =>
 pu (aun .not a2) r1.2 fun r2 =>
 cn (asB r2.1)
 (pu (abin Tryd.prog .eql 3 a1 (.d (.int .i64 (-1)))) r2.2 fun r3 =>
 rt r3.1 r3.2)
 (pu (abin Tryd.prog .geq 3 a1 (.d (.int .i64 0))) r2.2 fun r4 =>
 gd (yv r4.1) true (some (a1, r4.2)) r4.2 fun r5 =>
 gd (yv r4.1) true (pm (fa 4 r1.1) r5.2) r5.2 fun r6 =>
 gd (yv r4.1) true (pm (fa 3 r6.1) r6.2) r6.2 fun r7 =>
 gd (yv r4.1) true (pm (ld r7.2 r7.1) r7.2) r7.2 fun r8 =>
 gd (yv r4.1) true (pm (abin Tryd.prog .lss 3 r5.1 r8.1) r8.2) r8.2 fun r9 =>
 bi (pk r4.1 r9.1 (.d (.bool false)) r9.2) fun r10 =>
 rt r10.1 r10.2)

/-! #### (rushlight/ir.looker).call -/
noncomputable def fi43 : FI := ⟨55, 0, [.tmp 4], (.seq (rgn Tryd.f43.body 0) (.seq (.seq (rgn Tryd.f43.body 1) (.cond (.tmp 19) (.seq (rgn Tryd.f43.body 2) .ret) .skip)) (.seq (rgn Tryd.f43.body 3) (.seq (.seq (rgn Tryd.f43.body 4) (.cond (.tmp 42) (.seq (rgn Tryd.f43.body 5) .ret) .skip)) (.seq (.seq (rgn Tryd.f43.body 6) (.block 0 (.loop ⟨[2, 44, 45, 46], some [4], [(0, [])]⟩ (.seq (rgn Tryd.f43.body 7) (.seq (.cond (.tmp 47) .skip (.exit 0)) (.seq (.block 1 (.seq (rgn Tryd.f43.body 8) (.seq (rgn Tryd.f43.body 9) (.cond (.tmp 53) (.seq (rgn Tryd.f43.body 10) .ret) .skip)))) (rgn Tryd.f43.body 11))))))) (.seq (rgn Tryd.f43.body 12) .ret))))))⟩
theorem fits43 : Fits Tryd.prog 43 fi43 Tryd.f43 := ⟨by kernel_rfl, by kernel_rfl, by kernel_rfl, by kernel_rfl, by kernel_rfl⟩
set_option maxRecDepth 100000 in
/-- A round: what is kept: [2, 44, 45, 46]. -/
noncomputable def s43.l0 (call : ACall) (lim : Nat) (v41 : List AV) (h42 : Heap) : Option Res :=
 pu (abin Tryd.prog .lss 3 (v41.getD 3 .junk) (v41.getD 2 .junk)) h42 fun r43 =>
 cn (asB r43.1)
 (pu (ixS 1 (v41.getD 1 .junk) (v41.getD 3 .junk)) r43.2 fun r44 =>
 pu (ld r44.2 r44.1) r44.2 fun r45 =>
 pu (ldA 10 r45.2 (v41.getD 0 .junk)) r45.2 fun r46 =>
 bi (call 44 [r46.1, r45.1, .d (.bool true)] r46.2) fun r47 =>
 pu (aun .not r47.1) r47.2 fun r48 =>
 cn (asB r48.1)
 (some (.ret, [.d (.bool false)], r48.2))
 (pu (abin Tryd.prog .add 3 (v41.getD 3 .junk) (.d (.int .i64 1))) r48.2 fun r49 =>
 some (.normal, [(v41.getD 0 .junk), (v41.getD 1 .junk), (v41.getD 2 .junk), r49.1], r49.2)))
 (some (.exit 0, [], r43.2))
set_option maxRecDepth 100000 in
noncomputable def s43 (call : ACall) (lim : Nat) (a0 a1 : AV) (H : Heap) : Option Res :=
 bi (bx a0 H) fun r1 =>
 bi (bx a1 r1.2) fun r2 =>
 pu (fa 5 r2.1) r2.2 fun r3 =>
 pu (ld r3.2 r3.1) r3.2 fun r4 =>
 pu (abin Tryd.prog .lss 3 r4.1 (.d (.int .i64 0))) r4.2 fun r5 =>
 gd (yv r5.1) false (pm (fa 5 r2.1) r5.2) r5.2 fun r6 =>
 gd (yv r5.1) false (pm (ld r6.2 r6.1) r6.2) r6.2 fun r7 =>
 gd (yv r5.1) false (pm (fa 0 r1.1) r7.2) r7.2 fun r8 =>
 gd (yv r5.1) false (pm (fa 2 r8.1) r8.2) r8.2 fun r9 =>
 gd (yv r5.1) false (pm (ld r9.2 r9.1) r9.2) r9.2 fun r10 =>
 gd (yv r5.1) false (pm (lnS r10.1) r10.2) r10.2 fun r11 =>
 gd (yv r5.1) false (pm (abin Tryd.prog .geq 3 r7.1 r11.1) r11.2) r11.2 fun r12 =>
 bi (pk r5.1 (.d (.bool true)) r12.1 r12.2) fun r13 =>
 cn (asB r13.1)
 (rt (.d (.bool false)) r13.2)
 (pu (fa 0 r1.1) r13.2 fun r14 =>
 pu (fa 2 r14.1) r14.2 fun r15 =>
 pu (ld r15.2 r15.1) r15.2 fun r16 =>
 pu (fa 5 r2.1) r16.2 fun r17 =>
 pu (ld r17.2 r17.1) r17.2 fun r18 =>
 pu (ixS 6 r16.1 r18.1) r18.2 fun r19 =>
 pu (ldA 6 r19.2 r19.1) r19.2 fun r20 =>
 bi (al [.d (.str ⟨#[]⟩), .d (.bool false), .d (.int .i64 0), .d (.int .i64 0), .d (.seq true 0 []), .d (.seq true 0 [])] r20.2) fun r21 =>
 bi (stA 6 lim r21.2 r21.1 r20.1) fun r22 =>
 pu (fa 9 r2.1) r22.2 fun r23 =>
 pu (ld r23.2 r23.1) r23.2 fun r24 =>
 pu (lnS r24.1) r24.2 fun r25 =>
 pu (fa 2 r21.1) r25.2 fun r26 =>
 pu (ld r26.2 r26.1) r26.2 fun r27 =>
 pu (abin Tryd.prog .neq 3 r25.1 r27.1) r27.2 fun r28 =>
 gd (yv r28.1) false (pm (ldA 10 r28.2 r1.1) r28.2) r28.2 fun r29 =>
 gd (yv r28.1) false (pm (fa 1 r2.1) r29.2) r29.2 fun r30 =>
 gd (yv r28.1) false (pm (ld r30.2 r30.1) r30.2) r30.2 fun r31 =>
 gd (yv r28.1) false (pm (fa 1 r21.1) r31.2) r31.2 fun r32 =>
 gd (yv r28.1) false (pm (ld r32.2 r32.1) r32.2) r32.2 fun r33 =>
 gd (yv r28.1) false (pm (aun .not r33.1) r33.2) r33.2 fun r34 =>
 gd (yv r28.1) false (call 44 [r29.1, r31.1, r34.1] r34.2) r34.2 fun r35 =>
 gd (yv r28.1) false (pm (aun .not r35.1) r35.2) r35.2 fun r36 =>
 bi (pk r28.1 (.d (.bool true)) r36.1 r36.2) fun r37 =>
 cn (asB r37.1)
 (rt (.d (.bool false)) r37.2)
 (pu (fa 9 r2.1) r37.2 fun r38 =>
 pu (ld r38.2 r38.1) r38.2 fun r39 =>
 pu (lnS r39.1) r39.2 fun r40 =>
 lp (s43.l0 call lim) [r1.1, r39.1, r40.1, .d (.int .i64 0)] r40.2 fun j50 =>
 dsp j50.1 none (rt (gv j50 0) j50.2.2) [(0, rt (.d (.bool true)) j50.2.2)]))

/-! #### rushlight/ir.off -/
noncomputable def fi45 : FI := ⟨9, 0, [.tmp 2], (.seq (rgn Tryd.f45.body 0) (.seq (rgn Tryd.f45.body 1) .ret))⟩
theorem fits45 : Fits Tryd.prog 45 fi45 Tryd.f45 := ⟨by kernel_rfl, by kernel_rfl, by kernel_rfl, by kernel_rfl, by kernel_rfl⟩
set_option maxRecDepth 100000 in
noncomputable def s45 (call : ACall) (lim : Nat) (a0 : AV) (H : Heap) : Option Res :=
 pu (abin Tryd.prog .geq 3 a0 (.d (.int .i64 (-32768)))) H fun r1 =>
 gd (yv r1.1) true (some (a0, r1.2)) r1.2 fun r2 =>
 gd (yv r1.1) true (pm (abin Tryd.prog .leq 3 r2.1 (.d (.int .i64 32768))) r2.2) r2.2 fun r3 =>
 bi (pk r1.1 r3.1 (.d (.bool false)) r3.2) fun r4 =>
 rt r4.1 r4.2

/-! #### (rushlight/ir.looker).ins -/
noncomputable def fi37 : FI := ⟨156, 0, [.tmp 4], (.seq (rgn Tryd.f37.body 0) (.seq (rgn Tryd.f37.body 1) (.seq (rgn Tryd.f37.body 2) (.seq (.seq (rgn Tryd.f37.body 3) (.cond (.tmp 39) (.seq (rgn Tryd.f37.body 4) .ret) .skip)) (.seq (.seq (rgn Tryd.f37.body 5) (.cond (.tmp 42) (.seq (rgn Tryd.f37.body 6) .ret) .skip)) (.seq (.seq (rgn Tryd.f37.body 7) (.cond (.tmp 79) (.seq (rgn Tryd.f37.body 8) .ret) .skip)) (.seq (.seq (rgn Tryd.f37.body 9) (.block 0 (.seq (rgn Tryd.f37.body 10) (.cond (.tmp 82) (.seq (rgn Tryd.f37.body 11) .ret) (.seq (rgn Tryd.f37.body 12) (.cond (.tmp 92) (.seq (rgn Tryd.f37.body 13) .ret) (.cut ⟨[2, 3, 81, 102], none, []⟩ (.seq (rgn Tryd.f37.body 14) (.cond (.tmp 102) .skip (rgn Tryd.f37.body 15))) (.cond (.tmp 102) (.seq (rgn Tryd.f37.body 16) .ret) (.seq (rgn Tryd.f37.body 17) (.cond (.tmp 118) (.seq (rgn Tryd.f37.body 18) .ret) (.seq (rgn Tryd.f37.body 19) (.cond (.tmp 137) (.seq (rgn Tryd.f37.body 20) .ret) .skip)))))))))))) (.seq (rgn Tryd.f37.body 21) .ret))))))))⟩
theorem fits37 : Fits Tryd.prog 37 fi37 Tryd.f37 := ⟨by kernel_rfl, by kernel_rfl, by kernel_rfl, by kernel_rfl, by kernel_rfl⟩
set_option maxRecDepth 100000 in
noncomputable def s37 (call : ACall) (lim : Nat) (a0 a1 : AV) (H : Heap) : Option Res :=
 bi (bx a0 H) fun r1 =>
 bi (bx a1 r1.2) fun r2 =>
 pu (fa 0 r2.1) r2.2 fun r3 =>
 pu (ld r3.2 r3.1) r3.2 fun r4 =>
 bi (call 36 [r4.1] r4.2) fun r5 =>
 pu (aextract r5.1 0) r5.2 fun r6 =>
 pu (aextract r5.1 1) r6.2 fun r7 =>
 pu (fa 0 r2.1) r7.2 fun r8 =>
 pu (ld r8.2 r8.1) r8.2 fun r9 =>
 pu (abin Tryd.prog .neq 3 r9.1 (.d (.int .i64 6))) r9.2 fun r10 =>
 gd (yv r10.1) true (pm (fa 0 r2.1) r10.2) r10.2 fun r11 =>
 gd (yv r10.1) true (pm (ld r11.2 r11.1) r11.2) r11.2 fun r12 =>
 gd (yv r10.1) true (pm (abin Tryd.prog .neq 3 r12.1 (.d (.int .i64 10))) r12.2) r12.2 fun r13 =>
 bi (pk r10.1 r13.1 (.d (.bool false)) r13.2) fun r14 =>
 gd (yv r14.1) true (pm (fa 0 r2.1) r14.2) r14.2 fun r15 =>
 gd (yv r14.1) true (pm (ld r15.2 r15.1) r15.2) r15.2 fun r16 =>
 gd (yv r14.1) true (pm (abin Tryd.prog .neq 3 r16.1 (.d (.int .i64 12))) r16.2) r16.2 fun r17 =>
 bi (pk r14.1 r17.1 (.d (.bool false)) r17.2) fun r18 =>
 pu (fa 0 r2.1) r18.2 fun r19 =>
 pu (ld r19.2 r19.1) r19.2 fun r20 =>
 pu (abin Tryd.prog .lss 3 r20.1 (.d (.int .i64 1))) r20.2 fun r21 =>
 gd (yv r21.1) false (pm (fa 0 r2.1) r21.2) r21.2 fun r22 =>
 gd (yv r21.1) false (pm (ld r22.2 r22.1) r22.2) r22.2 fun r23 =>
 gd (yv r21.1) false (pm (abin Tryd.prog .gtr 3 r23.1 (.d (.int .i64 12))) r23.2) r23.2 fun r24 =>
 bi (pk r21.1 (.d (.bool true)) r24.1 r24.2) fun r25 =>
 gd (yv r25.1) false (pm (ldA 11 r25.2 r2.1) r25.2) r25.2 fun r26 =>
 gd (yv r25.1) false (call 42 [r26.1] r26.2) r26.2 fun r27 =>
 gd (yv r25.1) false (pm (aun .not r27.1) r27.2) r27.2 fun r28 =>
 bi (pk r25.1 (.d (.bool true)) r28.1 r28.2) fun r29 =>
 cn (asB r29.1)
 (rt (.d (.bool false)) r29.2)
 (pu (fa 0 r2.1) r29.2 fun r30 =>
 pu (ld r30.2 r30.1) r30.2 fun r31 =>
 pu (abin Tryd.prog .eql 3 r31.1 (.d (.int .i64 9))) r31.2 fun r32 =>
 cn (asB r32.1)
 (pu (ldA 10 r32.2 r1.1) r32.2 fun r33 =>
 pu (ldA 11 r33.2 r2.1) r33.2 fun r34 =>
 bi (call 43 [r33.1, r34.1] r34.2) fun r35 =>
 gd (yv r35.1) true (pm (ldA 10 r35.2 r1.1) r35.2) r35.2 fun r36 =>
 gd (yv r35.1) true (pm (fa 2 r2.1) r36.2) r36.2 fun r37 =>
 gd (yv r35.1) true (pm (ld r37.2 r37.1) r37.2) r37.2 fun r38 =>
 gd (yv r35.1) true (call 44 [r36.1, r38.1, .d (.bool false)] r38.2) r38.2 fun r39 =>
 bi (pk r35.1 r39.1 (.d (.bool false)) r39.2) fun r40 =>
 gd (yv r40.1) true (pm (ldA 10 r40.2 r1.1) r40.2) r40.2 fun r41 =>
 gd (yv r40.1) true (pm (fa 3 r2.1) r41.2) r41.2 fun r42 =>
 gd (yv r40.1) true (pm (ld r42.2 r42.1) r42.2) r42.2 fun r43 =>
 gd (yv r40.1) true (call 44 [r41.1, r43.1, .d (.bool false)] r43.2) r43.2 fun r44 =>
 bi (pk r40.1 r44.1 (.d (.bool false)) r44.2) fun r45 =>
 rt r45.1 r45.2)
 (pu (ldA 10 r32.2 r1.1) r32.2 fun r46 =>
 pu (fa 1 r2.1) r46.2 fun r47 =>
 pu (ld r47.2 r47.1) r47.2 fun r48 =>
 bi (call 44 [r46.1, r48.1, r18.1] r48.2) fun r49 =>
 pu (aun .not r49.1) r49.2 fun r50 =>
 gd (yv r50.1) false (pm (ldA 10 r50.2 r1.1) r50.2) r50.2 fun r51 =>
 gd (yv r50.1) false (pm (fa 2 r2.1) r51.2) r51.2 fun r52 =>
 gd (yv r50.1) false (pm (ld r52.2 r52.1) r52.2) r52.2 fun r53 =>
 gd (yv r50.1) false (some (r6.1, r53.2)) r53.2 fun r54 =>
 gd (yv r50.1) false (call 44 [r51.1, r53.1, r54.1] r54.2) r54.2 fun r55 =>
 gd (yv r50.1) false (pm (aun .not r55.1) r55.2) r55.2 fun r56 =>
 bi (pk r50.1 (.d (.bool true)) r56.1 r56.2) fun r57 =>
 gd (yv r57.1) false (pm (ldA 10 r57.2 r1.1) r57.2) r57.2 fun r58 =>
 gd (yv r57.1) false (pm (fa 3 r2.1) r58.2) r58.2 fun r59 =>
 gd (yv r57.1) false (pm (ld r59.2 r59.1) r59.2) r59.2 fun r60 =>
 gd (yv r57.1) false (some (r7.1, r60.2)) r60.2 fun r61 =>
 gd (yv r57.1) false (call 44 [r58.1, r60.1, r61.1] r61.2) r61.2 fun r62 =>
 gd (yv r57.1) false (pm (aun .not r62.1) r62.2) r62.2 fun r63 =>
 bi (pk r57.1 (.d (.bool true)) r63.1 r63.2) fun r64 =>
 cn (asB r64.1)
 (rt (.d (.bool false)) r64.2)
 (pu (fa 0 r2.1) r64.2 fun r65 =>
 pu (ld r65.2 r65.1) r65.2 fun r66 =>
 pu (abin Tryd.prog .eql 3 r66.1 (.d (.int .i64 3))) r66.2 fun r67 =>
 cn (asB r67.1)
 (pu (fa 4 r2.1) r67.2 fun r68 =>
 pu (ld r68.2 r68.1) r68.2 fun r69 =>
 pu (abin Tryd.prog .geq 3 r69.1 (.d (.int .i64 1))) r69.2 fun r70 =>
 gd (yv r70.1) true (pm (fa 4 r2.1) r70.2) r70.2 fun r71 =>
 gd (yv r70.1) true (pm (ld r71.2 r71.1) r71.2) r71.2 fun r72 =>
 gd (yv r70.1) true (pm (abin Tryd.prog .leq 3 r72.1 (.d (.int .i64 16))) r72.2) r72.2 fun r73 =>
 bi (pk r70.1 r73.1 (.d (.bool false)) r73.2) fun r74 =>
 rt r74.1 r74.2)
 (pu (abin Tryd.prog .eql 3 r66.1 (.d (.int .i64 4))) r67.2 fun r75 =>
 cn (asB r75.1)
 (pu (fa 4 r2.1) r75.2 fun r76 =>
 pu (ld r76.2 r76.1) r76.2 fun r77 =>
 pu (abin Tryd.prog .geq 3 r77.1 (.d (.int .i64 17))) r77.2 fun r78 =>
 gd (yv r78.1) true (pm (fa 4 r2.1) r78.2) r78.2 fun r79 =>
 gd (yv r78.1) true (pm (ld r79.2 r79.1) r79.2) r79.2 fun r80 =>
 gd (yv r78.1) true (pm (abin Tryd.prog .leq 3 r80.1 (.d (.int .i64 19))) r80.2) r80.2 fun r81 =>
 bi (pk r78.1 r81.1 (.d (.bool false)) r81.2) fun r82 =>
 rt r82.1 r82.2)
 (jn
 (pu (abin Tryd.prog .eql 3 r66.1 (.d (.int .i64 5))) r75.2 fun r83 =>
 cn (asB r83.1)
 (some (.normal, [r1.1, r2.1, r66.1, r83.1], r83.2))
 (pu (abin Tryd.prog .eql 3 r66.1 (.d (.int .i64 6))) r83.2 fun r84 =>
 some (.normal, [r1.1, r2.1, r66.1, r84.1], r84.2))) fun j85 =>
 dsp j85.1 (cn (asB (gv j85 3))
 (pu (fa 7 (gv j85 1)) j85.2.2 fun r86 =>
 pu (ld r86.2 r86.1) r86.2 fun r87 =>
 pu (abin Tryd.prog .eql 3 r87.1 (.d (.int .i64 1))) r87.2 fun r88 =>
 gd (yv r88.1) false (pm (fa 7 (gv j85 1)) r88.2) r88.2 fun r89 =>
 gd (yv r88.1) false (pm (ld r89.2 r89.1) r89.2) r89.2 fun r90 =>
 gd (yv r88.1) false (pm (abin Tryd.prog .eql 3 r90.1 (.d (.int .i64 4))) r90.2) r90.2 fun r91 =>
 bi (pk r88.1 (.d (.bool true)) r91.1 r91.2) fun r92 =>
 gd (yv r92.1) true (pm (fa 6 (gv j85 1)) r92.2) r92.2 fun r93 =>
 gd (yv r92.1) true (pm (ld r93.2 r93.1) r93.2) r93.2 fun r94 =>
 gd (yv r92.1) true (call 45 [r94.1] r94.2) r94.2 fun r95 =>
 bi (pk r92.1 r95.1 (.d (.bool false)) r95.2) fun r96 =>
 rt r96.1 r96.2)
 (pu (abin Tryd.prog .eql 3 (gv j85 2) (.d (.int .i64 7))) j85.2.2 fun r97 =>
 cn (asB r97.1)
 (pu (fa 5 (gv j85 1)) r97.2 fun r98 =>
 pu (ld r98.2 r98.1) r98.2 fun r99 =>
 pu (abin Tryd.prog .geq 3 r99.1 (.d (.int .i64 0))) r99.2 fun r100 =>
 gd (yv r100.1) true (pm (fa 5 (gv j85 1)) r100.2) r100.2 fun r101 =>
 gd (yv r100.1) true (pm (ld r101.2 r101.1) r101.2) r101.2 fun r102 =>
 gd (yv r100.1) true (pm (fa 4 (gv j85 0)) r102.2) r102.2 fun r103 =>
 gd (yv r100.1) true (pm (fa 4 r103.1) r103.2) r103.2 fun r104 =>
 gd (yv r100.1) true (pm (ld r104.2 r104.1) r104.2) r104.2 fun r105 =>
 gd (yv r100.1) true (pm (lnS r105.1) r105.2) r105.2 fun r106 =>
 gd (yv r100.1) true (pm (abin Tryd.prog .lss 3 r102.1 r106.1) r106.2) r106.2 fun r107 =>
 bi (pk r100.1 r107.1 (.d (.bool false)) r107.2) fun r108 =>
 gd (yv r108.1) true (pm (fa 6 (gv j85 1)) r108.2) r108.2 fun r109 =>
 gd (yv r108.1) true (pm (ld r109.2 r109.1) r109.2) r109.2 fun r110 =>
 gd (yv r108.1) true (call 45 [r110.1] r110.2) r110.2 fun r111 =>
 bi (pk r108.1 r111.1 (.d (.bool false)) r111.2) fun r112 =>
 rt r112.1 r112.2)
 (pu (abin Tryd.prog .eql 3 (gv j85 2) (.d (.int .i64 8))) r97.2 fun r113 =>
 cn (asB r113.1)
 (pu (fa 5 (gv j85 1)) r113.2 fun r114 =>
 pu (ld r114.2 r114.1) r114.2 fun r115 =>
 pu (abin Tryd.prog .geq 3 r115.1 (.d (.int .i64 0))) r115.2 fun r116 =>
 gd (yv r116.1) true (pm (fa 5 (gv j85 1)) r116.2) r116.2 fun r117 =>
 gd (yv r116.1) true (pm (ld r117.2 r117.1) r117.2) r117.2 fun r118 =>
 gd (yv r116.1) true (pm (fa 0 (gv j85 0)) r118.2) r118.2 fun r119 =>
 gd (yv r116.1) true (pm (fa 0 r119.1) r119.2) r119.2 fun r120 =>
 gd (yv r116.1) true (pm (ld r120.2 r120.1) r120.2) r120.2 fun r121 =>
 gd (yv r116.1) true (pm (lnS r121.1) r121.2) r121.2 fun r122 =>
 gd (yv r116.1) true (pm (abin Tryd.prog .lss 3 r118.1 r122.1) r122.2) r122.2 fun r123 =>
 bi (pk r116.1 r123.1 (.d (.bool false)) r123.2) fun r124 =>
 gd (yv r124.1) true (pm (fa 6 (gv j85 1)) r124.2) r124.2 fun r125 =>
 gd (yv r124.1) true (pm (ld r125.2 r125.1) r125.2) r125.2 fun r126 =>
 gd (yv r124.1) true (call 45 [r126.1] r126.2) r126.2 fun r127 =>
 bi (pk r124.1 r127.1 (.d (.bool false)) r127.2) fun r128 =>
 rt r128.1 r128.2)
 (rt (.d (.bool true)) r113.2)))) none [])))))

/-! #### (rushlight/ir.looker).block -/
noncomputable def fi46 : FI := ⟨15, 0, [.tmp 4], (.seq (rgn Tryd.f46.body 0) (.seq (rgn Tryd.f46.body 1) .ret))⟩
theorem fits46 : Fits Tryd.prog 46 fi46 Tryd.f46 := ⟨by kernel_rfl, by kernel_rfl, by kernel_rfl, by kernel_rfl, by kernel_rfl⟩
set_option maxRecDepth 100000 in
noncomputable def s46 (call : ACall) (lim : Nat) (a0 a1 : AV) (H : Heap) : Option Res :=
 bi (bx a0 H) fun r1 =>
 pu (abin Tryd.prog .geq 3 a1 (.d (.int .i64 0))) r1.2 fun r2 =>
 gd (yv r2.1) true (some (a1, r2.2)) r2.2 fun r3 =>
 gd (yv r2.1) true (pm (fa 4 r1.1) r3.2) r3.2 fun r4 =>
 gd (yv r2.1) true (pm (fa 5 r4.1) r4.2) r4.2 fun r5 =>
 gd (yv r2.1) true (pm (ld r5.2 r5.1) r5.2) r5.2 fun r6 =>
 gd (yv r2.1) true (pm (lnS r6.1) r6.2) r6.2 fun r7 =>
 gd (yv r2.1) true (pm (abin Tryd.prog .lss 3 r3.1 r7.1) r7.2) r7.2 fun r8 =>
 bi (pk r2.1 r8.1 (.d (.bool false)) r8.2) fun r9 =>
 rt r9.1 r9.2

/-! #### (rushlight/ir.looker).end -/
noncomputable def fi38 : FI := ⟨61, 0, [.tmp 4], (.seq (rgn Tryd.f38.body 0) (.seq (.seq (rgn Tryd.f38.body 1) (.block 0 (.seq (rgn Tryd.f38.body 2) (.cond (.tmp 7) (.seq (rgn Tryd.f38.body 3) .ret) (.seq (rgn Tryd.f38.body 4) (.cond (.tmp 23) (.seq (rgn Tryd.f38.body 5) .ret) (.seq (rgn Tryd.f38.body 6) (.cond (.tmp 41) (.seq (rgn Tryd.f38.body 7) .ret) .skip)))))))) (.seq (rgn Tryd.f38.body 8) .ret)))⟩
theorem fits38 : Fits Tryd.prog 38 fi38 Tryd.f38 := ⟨by kernel_rfl, by kernel_rfl, by kernel_rfl, by kernel_rfl, by kernel_rfl⟩
set_option maxRecDepth 100000 in
noncomputable def s38 (call : ACall) (lim : Nat) (a0 a1 : AV) (H : Heap) : Option Res :=
 bi (bx a0 H) fun r1 =>
 bi (bx a1 r1.2) fun r2 =>
 pu (fa 1 r2.1) r2.2 fun r3 =>
 pu (ld r3.2 r3.1) r3.2 fun r4 =>
 pu (abin Tryd.prog .eql 3 r4.1 (.d (.int .i64 1))) r4.2 fun r5 =>
 cn (asB r5.1)
 (pu (ldA 10 r5.2 r1.1) r5.2 fun r6 =>
 pu (fa 3 r2.1) r6.2 fun r7 =>
 pu (ld r7.2 r7.1) r7.2 fun r8 =>
 bi (call 46 [r6.1, r8.1] r8.2) fun r9 =>
 gd (yv r9.1) true (pm (fa 2 r2.1) r9.2) r9.2 fun r10 =>
 gd (yv r9.1) true (pm (ld r10.2 r10.1) r10.2) r10.2 fun r11 =>
 gd (yv r9.1) true (pm (abin Tryd.prog .eql 3 r11.1 (.d (.int .i64 (-1)))) r11.2) r11.2 fun r12 =>
 bi (pk r9.1 r12.1 (.d (.bool false)) r12.2) fun r13 =>
 gd (yv r13.1) true (pm (fa 4 r2.1) r13.2) r13.2 fun r14 =>
 gd (yv r13.1) true (pm (ld r14.2 r14.1) r14.2) r14.2 fun r15 =>
 gd (yv r13.1) true (pm (abin Tryd.prog .eql 3 r15.1 (.d (.int .i64 0))) r15.2) r15.2 fun r16 =>
 bi (pk r13.1 r16.1 (.d (.bool false)) r16.2) fun r17 =>
 rt r17.1 r17.2)
 (pu (abin Tryd.prog .eql 3 r4.1 (.d (.int .i64 2))) r5.2 fun r18 =>
 cn (asB r18.1)
 (pu (ldA 10 r18.2 r1.1) r18.2 fun r19 =>
 pu (fa 3 r2.1) r19.2 fun r20 =>
 pu (ld r20.2 r20.1) r20.2 fun r21 =>
 bi (call 46 [r19.1, r21.1] r21.2) fun r22 =>
 gd (yv r22.1) true (pm (ldA 10 r22.2 r1.1) r22.2) r22.2 fun r23 =>
 gd (yv r22.1) true (pm (fa 4 r2.1) r23.2) r23.2 fun r24 =>
 gd (yv r22.1) true (pm (ld r24.2 r24.1) r24.2) r24.2 fun r25 =>
 gd (yv r22.1) true (call 46 [r23.1, r25.1] r25.2) r25.2 fun r26 =>
 bi (pk r22.1 r26.1 (.d (.bool false)) r26.2) fun r27 =>
 gd (yv r27.1) true (pm (ldA 10 r27.2 r1.1) r27.2) r27.2 fun r28 =>
 gd (yv r27.1) true (pm (fa 2 r2.1) r28.2) r28.2 fun r29 =>
 gd (yv r27.1) true (pm (ld r29.2 r29.1) r29.2) r29.2 fun r30 =>
 gd (yv r27.1) true (call 44 [r28.1, r30.1, .d (.bool true)] r30.2) r30.2 fun r31 =>
 bi (pk r27.1 r31.1 (.d (.bool false)) r31.2) fun r32 =>
 rt r32.1 r32.2)
 (pu (abin Tryd.prog .eql 3 r4.1 (.d (.int .i64 3))) r18.2 fun r33 =>
 cn (asB r33.1)
 (pu (ldA 10 r33.2 r1.1) r33.2 fun r34 =>
 pu (fa 2 r2.1) r34.2 fun r35 =>
 pu (ld r35.2 r35.1) r35.2 fun r36 =>
 pu (fa 4 r1.1) r36.2 fun r37 =>
 pu (fa 1 r37.1) r37.2 fun r38 =>
 pu (ld r38.2 r38.1) r38.2 fun r39 =>
 pu (aun .not r39.1) r39.2 fun r40 =>
 bi (call 44 [r34.1, r36.1, r40.1] r40.2) fun r41 =>
 gd (yv r41.1) true (pm (fa 3 r2.1) r41.2) r41.2 fun r42 =>
 gd (yv r41.1) true (pm (ld r42.2 r42.1) r42.2) r42.2 fun r43 =>
 gd (yv r41.1) true (pm (abin Tryd.prog .eql 3 r43.1 (.d (.int .i64 0))) r43.2) r43.2 fun r44 =>
 bi (pk r41.1 r44.1 (.d (.bool false)) r44.2) fun r45 =>
 gd (yv r45.1) true (pm (fa 4 r2.1) r45.2) r45.2 fun r46 =>
 gd (yv r45.1) true (pm (ld r46.2 r46.1) r46.2) r46.2 fun r47 =>
 gd (yv r45.1) true (pm (abin Tryd.prog .eql 3 r47.1 (.d (.int .i64 0))) r47.2) r47.2 fun r48 =>
 bi (pk r45.1 r48.1 (.d (.bool false)) r48.2) fun r49 =>
 rt r49.1 r49.2)
 (rt (.d (.bool false)) r33.2)))

/-! #### (rushlight/ir.looker).proc -/
noncomputable def fi26 : FI := ⟨87, 0, [.tmp 2], (.seq (rgn Tryd.f26.body 0) (.seq (rgn Tryd.f26.body 1) (.seq (.seq (rgn Tryd.f26.body 2) (.cond (.tmp 62) (.seq (rgn Tryd.f26.body 3) .ret) .skip)) (.seq (.seq (rgn Tryd.f26.body 4) (.block 0 (.loop ⟨[1, 64, 65, 66], some [2], [(0, [])]⟩ (.seq (rgn Tryd.f26.body 5) (.seq (.cond (.tmp 67) .skip (.exit 0)) (.seq (.block 1 (.seq (rgn Tryd.f26.body 6) (.seq (.seq (rgn Tryd.f26.body 7) (.block 2 (.loop ⟨[1, 5, 64, 65, 66, 71, 72, 73], some [2], [(2, [1, 5, 64, 65, 66])]⟩ (.seq (rgn Tryd.f26.body 8) (.seq (.cond (.tmp 74) .skip (.exit 2)) (.seq (.block 3 (.seq (rgn Tryd.f26.body 9) (.seq (rgn Tryd.f26.body 10) (.cond (.tmp 80) (.seq (rgn Tryd.f26.body 11) .ret) .skip)))) (rgn Tryd.f26.body 12))))))) (.seq (rgn Tryd.f26.body 13) (.cond (.tmp 85) (.seq (rgn Tryd.f26.body 14) .ret) .skip))))) (rgn Tryd.f26.body 15))))))) (.seq (rgn Tryd.f26.body 16) .ret)))))⟩
theorem fits26 : Fits Tryd.prog 26 fi26 Tryd.f26 := ⟨by kernel_rfl, by kernel_rfl, by kernel_rfl, by kernel_rfl, by kernel_rfl⟩
set_option maxRecDepth 100000 in
/-- A round: what is kept: [1, 5, 64, 65, 66, 71, 72, 73]. -/
noncomputable def s26.l0 (call : ACall) (lim : Nat) (v64 : List AV) (h65 : Heap) : Option Res :=
 pu (abin Tryd.prog .lss 3 (v64.getD 7 .junk) (v64.getD 6 .junk)) h65 fun r66 =>
 cn (asB r66.1)
 (pu (ixS 11 (v64.getD 5 .junk) (v64.getD 7 .junk)) r66.2 fun r67 =>
 pu (ldA 11 r67.2 r67.1) r67.2 fun r68 =>
 bi (al [.d (.int .i64 0), .d (.int .i64 0), .d (.int .i64 0), .d (.int .i64 0), .d (.int .i64 0), .d (.int .i64 0), .d (.int .i64 0), .d (.int .i64 0), .d (.int .u32 0), .d (.seq true 0 []), .d (.bool false)] r68.2) fun r69 =>
 bi (stA 11 lim r69.2 r69.1 r68.1) fun r70 =>
 pu (ldA 10 r70.2 (v64.getD 0 .junk)) r70.2 fun r71 =>
 pu (ldA 11 r71.2 r69.1) r71.2 fun r72 =>
 bi (call 37 [r71.1, r72.1] r72.2) fun r73 =>
 pu (aun .not r73.1) r73.2 fun r74 =>
 cn (asB r74.1)
 (some (.ret, [.d (.bool false)], r74.2))
 (pu (abin Tryd.prog .add 3 (v64.getD 7 .junk) (.d (.int .i64 1))) r74.2 fun r75 =>
 some (.normal, [(v64.getD 0 .junk), (v64.getD 1 .junk), (v64.getD 2 .junk), (v64.getD 3 .junk), (v64.getD 4 .junk), (v64.getD 5 .junk), (v64.getD 6 .junk), r75.1], r75.2)))
 (some (.exit 2, [(v64.getD 0 .junk), (v64.getD 1 .junk), (v64.getD 2 .junk), (v64.getD 3 .junk), (v64.getD 4 .junk)], r66.2))
set_option maxRecDepth 100000 in
/-- A round: what is kept: [1, 64, 65, 66]. -/
noncomputable def s26.l1 (call : ACall) (lim : Nat) (v54 : List AV) (h55 : Heap) : Option Res :=
 pu (abin Tryd.prog .lss 3 (v54.getD 3 .junk) (v54.getD 2 .junk)) h55 fun r56 =>
 cn (asB r56.1)
 (pu (ixS 5 (v54.getD 1 .junk) (v54.getD 3 .junk)) r56.2 fun r57 =>
 pu (ldA 5 r57.2 r57.1) r57.2 fun r58 =>
 bi (al [.d (.seq true 0 []), .d (.int .i64 0), .d (.int .i64 0), .d (.int .i64 0), .d (.int .i64 0)] r58.2) fun r59 =>
 bi (stA 5 lim r59.2 r59.1 r58.1) fun r60 =>
 pu (fa 0 r59.1) r60.2 fun r61 =>
 pu (ld r61.2 r61.1) r61.2 fun r62 =>
 pu (lnS r62.1) r62.2 fun r63 =>
 lp (s26.l0 call lim) [(v54.getD 0 .junk), r59.1, (v54.getD 1 .junk), (v54.getD 2 .junk), (v54.getD 3 .junk), r62.1, r63.1, .d (.int .i64 0)] r63.2 fun j76 =>
 dsp j76.1 none (some (.ret, [(gv j76 0)], j76.2.2)) [(2, pu (ldA 10 j76.2.2 (gv j76 0)) j76.2.2 fun r77 =>
 pu (ldA 5 r77.2 (gv j76 1)) r77.2 fun r78 =>
 bi (call 38 [r77.1, r78.1] r78.2) fun r79 =>
 pu (aun .not r79.1) r79.2 fun r80 =>
 cn (asB r80.1)
 (some (.ret, [.d (.bool false)], r80.2))
 (pu (abin Tryd.prog .add 3 (gv j76 4) (.d (.int .i64 1))) r80.2 fun r81 =>
 some (.normal, [(gv j76 0), (gv j76 2), (gv j76 3), r81.1], r81.2)))])
 (some (.exit 0, [], r56.2))
set_option maxRecDepth 100000 in
noncomputable def s26 (call : ACall) (lim : Nat) (a0 : AV) (H : Heap) : Option Res :=
 bi (bx a0 H) fun r1 =>
 pu (fa 4 r1.1) r1.2 fun r2 =>
 pu (ldA 6 r2.2 r2.1) r2.2 fun r3 =>
 bi (al [.d (.str ⟨#[]⟩), .d (.bool false), .d (.int .i64 0), .d (.int .i64 0), .d (.seq true 0 []), .d (.seq true 0 [])] r3.2) fun r4 =>
 bi (stA 6 lim r4.2 r4.1 r3.1) fun r5 =>
 pu (fa 2 r4.1) r5.2 fun r6 =>
 pu (ld r6.2 r6.1) r6.2 fun r7 =>
 pu (abin Tryd.prog .lss 3 r7.1 (.d (.int .i64 0))) r7.2 fun r8 =>
 gd (yv r8.1) false (pm (fa 2 r4.1) r8.2) r8.2 fun r9 =>
 gd (yv r8.1) false (pm (ld r9.2 r9.1) r9.2) r9.2 fun r10 =>
 gd (yv r8.1) false (pm (abin Tryd.prog .gtr 3 r10.1 (.d (.int .i64 6))) r10.2) r10.2 fun r11 =>
 bi (pk r8.1 (.d (.bool true)) r11.1 r11.2) fun r12 =>
 gd (yv r12.1) false (pm (fa 3 r4.1) r12.2) r12.2 fun r13 =>
 gd (yv r12.1) false (pm (ld r13.2 r13.1) r13.2) r13.2 fun r14 =>
 gd (yv r12.1) false (pm (fa 2 r4.1) r14.2) r14.2 fun r15 =>
 gd (yv r12.1) false (pm (ld r15.2 r15.1) r15.2) r15.2 fun r16 =>
 gd (yv r12.1) false (pm (abin Tryd.prog .lss 3 r14.1 r16.1) r16.2) r16.2 fun r17 =>
 bi (pk r12.1 (.d (.bool true)) r17.1 r17.2) fun r18 =>
 gd (yv r18.1) false (pm (fa 3 r4.1) r18.2) r18.2 fun r19 =>
 gd (yv r18.1) false (pm (ld r19.2 r19.1) r19.2) r19.2 fun r20 =>
 gd (yv r18.1) false (pm (abin Tryd.prog .gtr 3 r20.1 (.d (.int .i64 8000))) r20.2) r20.2 fun r21 =>
 bi (pk r18.1 (.d (.bool true)) r21.1 r21.2) fun r22 =>
 gd (yv r22.1) false (pm (fa 4 r4.1) r22.2) r22.2 fun r23 =>
 gd (yv r22.1) false (pm (ld r23.2 r23.1) r23.2) r23.2 fun r24 =>
 gd (yv r22.1) false (pm (lnS r24.1) r24.2) r24.2 fun r25 =>
 gd (yv r22.1) false (pm (abin Tryd.prog .gtr 3 r25.1 (.d (.int .i64 400))) r25.2) r25.2 fun r26 =>
 bi (pk r22.1 (.d (.bool true)) r26.1 r26.2) fun r27 =>
 gd (yv r27.1) false (pm (fa 5 r4.1) r27.2) r27.2 fun r28 =>
 gd (yv r27.1) false (pm (ld r28.2 r28.1) r28.2) r28.2 fun r29 =>
 gd (yv r27.1) false (pm (lnS r29.1) r29.2) r29.2 fun r30 =>
 gd (yv r27.1) false (pm (abin Tryd.prog .lss 3 r30.1 (.d (.int .i64 1))) r30.2) r30.2 fun r31 =>
 bi (pk r27.1 (.d (.bool true)) r31.1 r31.2) fun r32 =>
 gd (yv r32.1) false (pm (fa 5 r4.1) r32.2) r32.2 fun r33 =>
 gd (yv r32.1) false (pm (ld r33.2 r33.1) r33.2) r33.2 fun r34 =>
 gd (yv r32.1) false (pm (lnS r34.1) r34.2) r34.2 fun r35 =>
 gd (yv r32.1) false (pm (abin Tryd.prog .gtr 3 r35.1 (.d (.int .i64 4000))) r35.2) r35.2 fun r36 =>
 bi (pk r32.1 (.d (.bool true)) r36.1 r36.2) fun r37 =>
 gd (yv r37.1) false (pm (fa 4 r4.1) r37.2) r37.2 fun r38 =>
 gd (yv r37.1) false (pm (ld r38.2 r38.1) r38.2) r38.2 fun r39 =>
 gd (yv r37.1) false (call 24 [r39.1] r39.2) r39.2 fun r40 =>
 gd (yv r37.1) false (pm (aun .not r40.1) r40.2) r40.2 fun r41 =>
 bi (pk r37.1 (.d (.bool true)) r41.1 r41.2) fun r42 =>
 gd (yv r42.1) false (pm (ldA 6 r42.2 r4.1) r42.2) r42.2 fun r43 =>
 gd (yv r42.1) false (call 15 [r43.1] r43.2) r43.2 fun r44 =>
 gd (yv r42.1) false (pm (fa 5 r4.1) r44.2) r44.2 fun r45 =>
 gd (yv r42.1) false (pm (ld r45.2 r45.1) r45.2) r45.2 fun r46 =>
 gd (yv r42.1) false (pm (lnS r46.1) r46.2) r46.2 fun r47 =>
 gd (yv r42.1) false (pm (abin Tryd.prog .sub 3 r44.1 r47.1) r47.2) r47.2 fun r48 =>
 gd (yv r42.1) false (pm (abin Tryd.prog .gtr 3 r48.1 (.d (.int .i64 20000))) r48.2) r48.2 fun r49 =>
 bi (pk r42.1 (.d (.bool true)) r49.1 r49.2) fun r50 =>
 cn (asB r50.1)
 (rt (.d (.bool false)) r50.2)
 (pu (fa 5 r4.1) r50.2 fun r51 =>
 pu (ld r51.2 r51.1) r51.2 fun r52 =>
 pu (lnS r52.1) r52.2 fun r53 =>
 lp (s26.l1 call lim) [r1.1, r52.1, r53.1, .d (.int .i64 0)] r53.2 fun j82 =>
 dsp j82.1 none (rt (gv j82 0) j82.2.2) [(0, rt (.d (.bool true)) j82.2.2)])

/-! #### rushlight/ir.Proc -/
noncomputable def fi10 : FI := ⟨25, 0, [.tmp 4], (.seq (rgn Tryd.f10.body 0) (.seq (.block 0 (.seq (rgn Tryd.f10.body 1) (.cond (.tmp 5) (.seq (rgn Tryd.f10.body 2) .ret) (.seq (rgn Tryd.f10.body 3) (.cond (.tmp 15) (.seq (rgn Tryd.f10.body 4) .ret) .skip))))) (.seq (rgn Tryd.f10.body 5) .ret)))⟩
theorem fits10 : Fits Tryd.prog 10 fi10 Tryd.f10 := ⟨by kernel_rfl, by kernel_rfl, by kernel_rfl, by kernel_rfl, by kernel_rfl⟩
set_option maxRecDepth 100000 in
noncomputable def s10 (call : ACall) (lim : Nat) (a0 a1 : AV) (H : Heap) : Option Res :=
 bi (bx a0 H) fun r1 =>
 pu (abin Tryd.prog .lss 3 a1 (.d (.int .i64 0))) r1.2 fun r2 =>
 gd (yv r2.1) false (some (a1, r2.2)) r2.2 fun r3 =>
 gd (yv r2.1) false (pm (fa 2 r1.1) r3.2) r3.2 fun r4 =>
 gd (yv r2.1) false (pm (ld r4.2 r4.1) r4.2) r4.2 fun r5 =>
 gd (yv r2.1) false (pm (lnS r5.1) r5.2) r5.2 fun r6 =>
 gd (yv r2.1) false (pm (abin Tryd.prog .geq 3 r3.1 r6.1) r6.2) r6.2 fun r7 =>
 bi (pk r2.1 (.d (.bool true)) r7.1 r7.2) fun r8 =>
 cn (asB r8.1)
 (rt (.d (.int .i64 4)) r8.2)
 (pu (ldA 4 r8.2 r1.1) r8.2 fun r9 =>
 pu (fa 2 r1.1) r9.2 fun r10 =>
 pu (ld r10.2 r10.1) r10.2 fun r11 =>
 pu (ixS 6 r11.1 a1) r11.2 fun r12 =>
 pu (ldA 6 r12.2 r12.1) r12.2 fun r13 =>
 pu (bld [(0, 4), (4, 6)] [.d (.seq true 0 []), .d (.seq true 0 []), .d (.seq true 0 []), .d (.int .i64 0), .d (.str ⟨#[]⟩), .d (.bool false), .d (.int .i64 0), .d (.int .i64 0), .d (.seq true 0 []), .d (.seq true 0 [])] [(0, r9.1), (1, r13.1)]) r13.2 fun r14 =>
 bi (call 26 [r14.1] r14.2) fun r15 =>
 pu (aun .not r15.1) r15.2 fun r16 =>
 cn (asB r16.1)
 (rt (.d (.int .i64 3)) r16.2)
 (rt (.d (.int .i64 0)) r16.2))

/-! #### rushlight/ir.Check -/
noncomputable def fi8 : FI := ⟨93, 0, [.tmp 2], (.seq (rgn Tryd.f8.body 0) (.seq (.seq (rgn Tryd.f8.body 1) (.cond (.tmp 50) (.seq (rgn Tryd.f8.body 2) .ret) .skip)) (.seq (.seq (rgn Tryd.f8.body 3) (.block 0 (.loop ⟨[1, 52, 53, 54], some [2], [(0, [1])]⟩ (.seq (rgn Tryd.f8.body 4) (.seq (.cond (.tmp 55) .skip (.exit 0)) (.seq (.block 1 (.seq (rgn Tryd.f8.body 5) (.seq (rgn Tryd.f8.body 6) (.cond (.tmp 67) (.seq (rgn Tryd.f8.body 7) .ret) .skip)))) (rgn Tryd.f8.body 8))))))) (.seq (.seq (rgn Tryd.f8.body 9) (.seq (rgn Tryd.f8.body 10) (.cond (.tmp 81) (.seq (rgn Tryd.f8.body 11) .ret) .skip))) (.seq (.seq (rgn Tryd.f8.body 12) (.block 2 (.loop ⟨[1, 84, 85], some [2], [(2, [])]⟩ (.seq (rgn Tryd.f8.body 13) (.seq (.cond (.tmp 86) .skip (.exit 2)) (.seq (.block 3 (.seq (rgn Tryd.f8.body 14) (.seq (rgn Tryd.f8.body 15) (.cond (.tmp 91) (.seq (rgn Tryd.f8.body 16) .ret) .skip)))) (rgn Tryd.f8.body 17))))))) (.seq (rgn Tryd.f8.body 18) .ret))))))⟩
theorem fits8 : Fits Tryd.prog 8 fi8 Tryd.f8 := ⟨by kernel_rfl, by kernel_rfl, by kernel_rfl, by kernel_rfl, by kernel_rfl⟩
set_option maxRecDepth 100000 in
/-- A round: what is kept: [1, 52, 53, 54]. -/
noncomputable def s8.l0 (call : ACall) (lim : Nat) (v43 : List AV) (h44 : Heap) : Option Res :=
 pu (abin Tryd.prog .lss 3 (v43.getD 3 .junk) (v43.getD 2 .junk)) h44 fun r45 =>
 cn (asB r45.1)
 (pu (ixS 1 (v43.getD 1 .junk) (v43.getD 3 .junk)) r45.2 fun r46 =>
 pu (ld r46.2 r46.1) r46.2 fun r47 =>
 pu (lnS r47.1) r47.2 fun r48 =>
 pu (fa 0 (v43.getD 0 .junk)) r48.2 fun r49 =>
 pu (ld r49.2 r49.1) r49.2 fun r50 =>
 pu (ixS 4 r50.1 (v43.getD 3 .junk)) r50.2 fun r51 =>
 pu (fa 1 r51.1) r51.2 fun r52 =>
 pu (ld r52.2 r52.1) r52.2 fun r53 =>
 pu (abin Tryd.prog .neq 3 r48.1 r53.1) r53.2 fun r54 =>
 cn (asB r54.1)
 (some (.ret, [.d (.int .i64 3)], r54.2))
 (pu (abin Tryd.prog .add 3 (v43.getD 3 .junk) (.d (.int .i64 1))) r54.2 fun r55 =>
 some (.normal, [(v43.getD 0 .junk), (v43.getD 1 .junk), (v43.getD 2 .junk), r55.1], r55.2)))
 (some (.exit 0, [(v43.getD 0 .junk)], r45.2))
set_option maxRecDepth 100000 in
/-- A round: what is kept: [1, 84, 85]. -/
noncomputable def s8.l1 (call : ACall) (lim : Nat) (v74 : List AV) (h75 : Heap) : Option Res :=
 pu (abin Tryd.prog .lss 3 (v74.getD 2 .junk) (v74.getD 1 .junk)) h75 fun r76 =>
 cn (asB r76.1)
 (pu (ldA 4 r76.2 (v74.getD 0 .junk)) r76.2 fun r77 =>
 bi (call 10 [r77.1, (v74.getD 2 .junk)] r77.2) fun r78 =>
 pu (abin Tryd.prog .neq 29 r78.1 (.d (.int .i64 0))) r78.2 fun r79 =>
 cn (asB r79.1)
 (some (.ret, [.d (.int .i64 3)], r79.2))
 (pu (abin Tryd.prog .add 3 (v74.getD 2 .junk) (.d (.int .i64 1))) r79.2 fun r80 =>
 some (.normal, [(v74.getD 0 .junk), (v74.getD 1 .junk), r80.1], r80.2)))
 (some (.exit 2, [], r76.2))
set_option maxRecDepth 100000 in
noncomputable def s8 (call : ACall) (lim : Nat) (a0 : AV) (H : Heap) : Option Res :=
 bi (bx a0 H) fun r1 =>
 pu (fa 1 r1.1) r1.2 fun r2 =>
 pu (ld r2.2 r2.1) r2.2 fun r3 =>
 pu (lnS r3.1) r3.2 fun r4 =>
 pu (fa 0 r1.1) r4.2 fun r5 =>
 pu (ld r5.2 r5.1) r5.2 fun r6 =>
 pu (lnS r6.1) r6.2 fun r7 =>
 pu (abin Tryd.prog .neq 3 r4.1 r7.1) r7.2 fun r8 =>
 gd (yv r8.1) false (pm (fa 0 r1.1) r8.2) r8.2 fun r9 =>
 gd (yv r8.1) false (pm (ld r9.2 r9.1) r9.2) r9.2 fun r10 =>
 gd (yv r8.1) false (pm (lnS r10.1) r10.2) r10.2 fun r11 =>
 gd (yv r8.1) false (pm (abin Tryd.prog .gtr 3 r11.1 (.d (.int .i64 200))) r11.2) r11.2 fun r12 =>
 bi (pk r8.1 (.d (.bool true)) r12.1 r12.2) fun r13 =>
 gd (yv r13.1) false (pm (fa 0 r1.1) r13.2) r13.2 fun r14 =>
 gd (yv r13.1) false (pm (ld r14.2 r14.1) r14.2) r14.2 fun r15 =>
 gd (yv r13.1) false (call 24 [r15.1] r15.2) r15.2 fun r16 =>
 gd (yv r13.1) false (pm (aun .not r16.1) r16.2) r16.2 fun r17 =>
 bi (pk r13.1 (.d (.bool true)) r17.1 r17.2) fun r18 =>
 gd (yv r18.1) false (pm (fa 2 r1.1) r18.2) r18.2 fun r19 =>
 gd (yv r18.1) false (pm (ld r19.2 r19.1) r19.2) r19.2 fun r20 =>
 gd (yv r18.1) false (pm (lnS r20.1) r20.2) r20.2 fun r21 =>
 gd (yv r18.1) false (pm (abin Tryd.prog .lss 3 r21.1 (.d (.int .i64 1))) r21.2) r21.2 fun r22 =>
 bi (pk r18.1 (.d (.bool true)) r22.1 r22.2) fun r23 =>
 gd (yv r23.1) false (pm (fa 2 r1.1) r23.2) r23.2 fun r24 =>
 gd (yv r23.1) false (pm (ld r24.2 r24.1) r24.2) r24.2 fun r25 =>
 gd (yv r23.1) false (pm (lnS r25.1) r25.2) r25.2 fun r26 =>
 gd (yv r23.1) false (pm (abin Tryd.prog .gtr 3 r26.1 (.d (.int .i64 200))) r26.2) r26.2 fun r27 =>
 bi (pk r23.1 (.d (.bool true)) r27.1 r27.2) fun r28 =>
 gd (yv r28.1) false (pm (fa 3 r1.1) r28.2) r28.2 fun r29 =>
 gd (yv r28.1) false (pm (ld r29.2 r29.1) r29.2) r29.2 fun r30 =>
 gd (yv r28.1) false (pm (abin Tryd.prog .lss 3 r30.1 (.d (.int .i64 0))) r30.2) r30.2 fun r31 =>
 bi (pk r28.1 (.d (.bool true)) r31.1 r31.2) fun r32 =>
 gd (yv r32.1) false (pm (fa 3 r1.1) r32.2) r32.2 fun r33 =>
 gd (yv r32.1) false (pm (ld r33.2 r33.1) r33.2) r33.2 fun r34 =>
 gd (yv r32.1) false (pm (fa 2 r1.1) r34.2) r34.2 fun r35 =>
 gd (yv r32.1) false (pm (ld r35.2 r35.1) r35.2) r35.2 fun r36 =>
 gd (yv r32.1) false (pm (lnS r36.1) r36.2) r36.2 fun r37 =>
 gd (yv r32.1) false (pm (abin Tryd.prog .geq 3 r34.1 r37.1) r37.2) r37.2 fun r38 =>
 bi (pk r32.1 (.d (.bool true)) r38.1 r38.2) fun r39 =>
 cn (asB r39.1)
 (rt (.d (.int .i64 3)) r39.2)
 (pu (fa 1 r1.1) r39.2 fun r40 =>
 pu (ld r40.2 r40.1) r40.2 fun r41 =>
 pu (lnS r41.1) r41.2 fun r42 =>
 lp (s8.l0 call lim) [r1.1, r41.1, r42.1, .d (.int .i64 0)] r42.2 fun j56 =>
 dsp j56.1 none (rt (gv j56 0) j56.2.2) [(0, pu (fa 2 (gv j56 0)) j56.2.2 fun r57 =>
 pu (ld r57.2 r57.1) r57.2 fun r58 =>
 pu (fa 3 (gv j56 0)) r58.2 fun r59 =>
 pu (ld r59.2 r59.1) r59.2 fun r60 =>
 pu (ixS 6 r58.1 r60.1) r60.2 fun r61 =>
 pu (ldA 6 r61.2 r61.1) r61.2 fun r62 =>
 bi (al [.d (.str ⟨#[]⟩), .d (.bool false), .d (.int .i64 0), .d (.int .i64 0), .d (.seq true 0 []), .d (.seq true 0 [])] r62.2) fun r63 =>
 bi (stA 6 lim r63.2 r63.1 r62.1) fun r64 =>
 pu (fa 2 r63.1) r64.2 fun r65 =>
 pu (ld r65.2 r65.1) r65.2 fun r66 =>
 pu (abin Tryd.prog .neq 3 r66.1 (.d (.int .i64 0))) r66.2 fun r67 =>
 gd (yv r67.1) false (pm (fa 1 r63.1) r67.2) r67.2 fun r68 =>
 gd (yv r67.1) false (pm (ld r68.2 r68.1) r68.2) r68.2 fun r69 =>
 bi (pk r67.1 (.d (.bool true)) r69.1 r69.2) fun r70 =>
 cn (asB r70.1)
 (rt (.d (.int .i64 3)) r70.2)
 (pu (fa 2 (gv j56 0)) r70.2 fun r71 =>
 pu (ld r71.2 r71.1) r71.2 fun r72 =>
 pu (lnS r72.1) r72.2 fun r73 =>
 lp (s8.l1 call lim) [(gv j56 0), r73.1, .d (.int .i64 0)] r73.2 fun j81 =>
 dsp j81.1 none (rt (gv j81 0) j81.2.2) [(2, rt (.d (.int .i64 0)) j81.2.2)]))])

/-! #### rushlight/rushlightlaw13.awake -/
noncomputable def fi7 : FI := ⟨22, 0, [.tmp 0], (.seq (rgn Tryd.f7.body 0) (.seq (rgn Tryd.f7.body 1) (.seq (rgn Tryd.f7.body 2) .ret)))⟩
theorem fits7 : Fits Tryd.prog 7 fi7 Tryd.f7 := ⟨by kernel_rfl, by kernel_rfl, by kernel_rfl, by kernel_rfl, by kernel_rfl⟩
set_option maxRecDepth 100000 in
noncomputable def s7 (call : ACall) (lim : Nat) (H : Heap) : Option Res :=
 pu (bld [(0, 1), (1, 1), (2, 1), (3, 1), (4, 1), (5, 1), (6, 1), (7, 1), (8, 1), (9, 1), (10, 1)] [.d (.int .i64 0), .d (.int .i64 0), .d (.int .i64 0), .d (.int .i64 0), .d (.int .i64 0), .d (.int .i64 0), .d (.int .i64 0), .d (.int .i64 0), .d (.int .u32 0), .d (.seq true 0 []), .d (.bool false)] [(0, .d (.int .i64 1)), (2, .d (.int .i64 (-1))), (3, .d (.int .i64 (-1))), (8, .d (.int .u32 7))]) H fun r1 =>
 bi (bldS 11 1 [.d (.int .i64 0), .d (.int .i64 0), .d (.int .i64 0), .d (.int .i64 0), .d (.int .i64 0), .d (.int .i64 0), .d (.int .i64 0), .d (.int .i64 0), .d (.int .u32 0), .d (.seq true 0 []), .d (.bool false)] [(0, r1.1)] r1.2) fun r2 =>
 pu (bld [(0, 1), (1, 1), (2, 1), (3, 1), (4, 1)] [.d (.seq true 0 []), .d (.int .i64 0), .d (.int .i64 0), .d (.int .i64 0), .d (.int .i64 0)] [(0, r2.1), (1, .d (.int .i64 3))]) r2.2 fun r3 =>
 bi (bldS 5 1 [.d (.seq true 0 []), .d (.int .i64 0), .d (.int .i64 0), .d (.int .i64 0), .d (.int .i64 0)] [(0, r3.1)] r3.2) fun r4 =>
 pu (bld [(0, 1), (1, 1), (2, 1), (3, 1), (4, 1), (5, 1)] [.d (.str ⟨#[]⟩), .d (.bool false), .d (.int .i64 0), .d (.int .i64 0), .d (.seq true 0 []), .d (.seq true 0 [])] [(3, .d (.int .i64 1)), (5, r4.1)]) r4.2 fun r5 =>
 bi (al [.d (.str ⟨#[]⟩), .d (.bool false), .d (.int .i64 0), .d (.int .i64 0), .d (.seq true 0 []), .d (.seq true 0 [])] r5.2) fun r6 =>
 bi (stA 6 lim r6.2 r6.1 r5.1) fun r7 =>
 pu (ldA 6 r7.2 r6.1) r7.2 fun r8 =>
 bi (call 13 [r8.1] r8.2) fun r9 =>
 pu (abin Tryd.prog .eql 9 r9.1 (.d (.str ⟨#[98, 48, 58, 10, 32, 49, 32, 48, 32, 45, 49, 32, 45, 49, 32, 48, 32, 48, 32, 48, 32, 48, 32, 55, 10, 32, 101, 110, 100, 32, 51, 32, 48, 32, 48, 32, 48, 10]⟩))) r9.2 fun r10 =>
 gd (yv r10.1) true (pm (ldA 6 r10.2 r6.1) r10.2) r10.2 fun r11 =>
 gd (yv r10.1) true (bldS 6 1 [.d (.str ⟨#[]⟩), .d (.bool false), .d (.int .i64 0), .d (.int .i64 0), .d (.seq true 0 []), .d (.seq true 0 [])] [(0, r11.1)] r11.2) r11.2 fun r12 =>
 gd (yv r10.1) true (pm (bld [(0, 1), (1, 1), (2, 1), (3, 1)] [.d (.seq true 0 []), .d (.seq true 0 []), .d (.seq true 0 []), .d (.int .i64 0)] [(2, r12.1)]) r12.2) r12.2 fun r13 =>
 gd (yv r10.1) true (call 8 [r13.1] r13.2) r13.2 fun r14 =>
 gd (yv r10.1) true (pm (abin Tryd.prog .eql 29 r14.1 (.d (.int .i64 0))) r14.2) r14.2 fun r15 =>
 bi (pk r10.1 r15.1 (.d (.bool false)) r15.2) fun r16 =>
 gd (yv r16.1) true (pm (ldA 6 r16.2 r6.1) r16.2) r16.2 fun r17 =>
 gd (yv r16.1) true (call 15 [r17.1] r17.2) r17.2 fun r18 =>
 gd (yv r16.1) true (pm (abin Tryd.prog .eql 3 r18.1 (.d (.int .i64 2))) r18.2) r18.2 fun r19 =>
 bi (pk r16.1 r19.1 (.d (.bool false)) r19.2) fun r20 =>
 rt r20.1 r20.2

/-! #### rushlight/rushlightref13.slots -/
noncomputable def fi25 : FI := ⟨46, 0, [.tmp 4], (.seq (rgn Tryd.f25.body 0) (.seq (.seq (rgn Tryd.f25.body 1) (.block 0 (.loop ⟨[0, 1, 5], some [4], [(0, [0, 1])]⟩ (.seq (.seq (rgn Tryd.f25.body 2) (.cond (.tmp 9) .skip (.exit 0))) (.seq (.block 1 (.seq (rgn Tryd.f25.body 4) (.cond (.tmp 41) (.seq (rgn Tryd.f25.body 5) .ret) .skip))) (rgn Tryd.f25.body 3)))))) (.seq (rgn Tryd.f25.body 6) .ret)))⟩
theorem fits25 : Fits Tryd.prog 25 fi25 Tryd.f25 := ⟨by kernel_rfl, by kernel_rfl, by kernel_rfl, by kernel_rfl, by kernel_rfl⟩
set_option maxRecDepth 100000 in
/-- A round: what is kept: [0, 1, 5]. -/
noncomputable def s25.l0 (call : ACall) (lim : Nat) (v1 : List AV) (h2 : Heap) : Option Res :=
 pu (lnS (v1.getD 0 .junk)) h2 fun r3 =>
 pu (abin Tryd.prog .lss 3 (v1.getD 2 .junk) r3.1) r3.2 fun r4 =>
 cn (asB r4.1)
 (pu (ixS 4 (v1.getD 0 .junk) (v1.getD 2 .junk)) r4.2 fun r5 =>
 pu (fa 1 r5.1) r5.2 fun r6 =>
 pu (ld r6.2 r6.1) r6.2 fun r7 =>
 pu (abin Tryd.prog .lss 3 r7.1 (.d (.int .i64 1))) r7.2 fun r8 =>
 gd (yv r8.1) false (some ((v1.getD 0 .junk), r8.2)) r8.2 fun r9 =>
 gd (yv r8.1) false (some ((v1.getD 2 .junk), r9.2)) r9.2 fun r10 =>
 gd (yv r8.1) false (pm (ixS 4 r9.1 r10.1) r10.2) r10.2 fun r11 =>
 gd (yv r8.1) false (pm (fa 1 r11.1) r11.2) r11.2 fun r12 =>
 gd (yv r8.1) false (pm (ld r12.2 r12.1) r12.2) r12.2 fun r13 =>
 gd (yv r8.1) false (pm (abin Tryd.prog .gtr 3 r13.1 (.d (.int .i64 32768))) r13.2) r13.2 fun r14 =>
 bi (pk r8.1 (.d (.bool true)) r14.1 r14.2) fun r15 =>
 gd (yv r15.1) false (some ((v1.getD 0 .junk), r15.2)) r15.2 fun r16 =>
 gd (yv r15.1) false (some ((v1.getD 2 .junk), r16.2)) r16.2 fun r17 =>
 gd (yv r15.1) false (pm (ixS 4 r16.1 r17.1) r17.2) r17.2 fun r18 =>
 gd (yv r15.1) false (pm (fa 2 r18.1) r18.2) r18.2 fun r19 =>
 gd (yv r15.1) false (pm (ld r19.2 r19.1) r19.2) r19.2 fun r20 =>
 gd (yv r15.1) false (pm (abin Tryd.prog .neq 3 r20.1 (.d (.int .i64 1))) r20.2) r20.2 fun r21 =>
 gd (yv r15.1) false (some (r21.1, r21.2)) r21.2 fun r22 =>
 gd (yv r22.1) true (some ((v1.getD 0 .junk), r22.2)) r22.2 fun r23 =>
 gd (yv r22.1) true (some ((v1.getD 2 .junk), r23.2)) r23.2 fun r24 =>
 gd (yv r22.1) true (pm (ixS 4 r23.1 r24.1) r24.2) r24.2 fun r25 =>
 gd (yv r22.1) true (pm (fa 2 r25.1) r25.2) r25.2 fun r26 =>
 gd (yv r22.1) true (pm (ld r26.2 r26.1) r26.2) r26.2 fun r27 =>
 gd (yv r22.1) true (pm (abin Tryd.prog .neq 3 r27.1 (.d (.int .i64 4))) r27.2) r27.2 fun r28 =>
 gd (yv r15.1) false (pk r22.1 r28.1 (.d (.bool false)) r28.2) r28.2 fun r29 =>
 bi (pk r15.1 (.d (.bool true)) r29.1 r29.2) fun r30 =>
 cn (asB r30.1)
 (some (.ret, [.d (.bool false)], r30.2))
 (pu (abin Tryd.prog .add 3 (v1.getD 2 .junk) (.d (.int .i64 1))) r30.2 fun r31 =>
 some (.normal, [(v1.getD 0 .junk), (v1.getD 1 .junk), r31.1], r31.2)))
 (some (.exit 0, [(v1.getD 0 .junk), (v1.getD 1 .junk)], r4.2))
set_option maxRecDepth 100000 in
noncomputable def s25 (call : ACall) (lim : Nat) (a0 a1 : AV) (H : Heap) : Option Res :=
 lp (s25.l0 call lim) [a0, a1, .d (.int .i64 0)] H fun j32 =>
 dsp j32.1 none (rt (gv j32 0) j32.2.2) [(0, pu (lnS (gv j32 0)) j32.2.2 fun r33 =>
 pu (abin Tryd.prog .leq 3 r33.1 (gv j32 1)) r33.2 fun r34 =>
 rt r34.1 r34.2)]

/-! #### rushlight/rushlightref13.register -/
noncomputable def fi39 : FI := ⟨19, 0, [.tmp 6], (.seq (rgn Tryd.f39.body 0) (.seq (.seq (rgn Tryd.f39.body 1) (.cond (.tmp 7) (.seq (rgn Tryd.f39.body 2) .ret) .skip)) (.seq (rgn Tryd.f39.body 3) .ret)))⟩
theorem fits39 : Fits Tryd.prog 39 fi39 Tryd.f39 := ⟨by kernel_rfl, by kernel_rfl, by kernel_rfl, by kernel_rfl, by kernel_rfl⟩
set_option maxRecDepth 100000 in
noncomputable def s39 (call : ACall) (lim : Nat) (a0 a1 a2 : AV) (H : Heap) : Option Res :=
 bi (bx a0 H) fun r1 =>
 cn (asB a2)
 (pu (abin Tryd.prog .geq 3 a1 (.d (.int .i64 0))) r1.2 fun r2 =>
 gd (yv r2.1) true (some (a1, r2.2)) r2.2 fun r3 =>
 gd (yv r2.1) true (pm (fa 3 r1.1) r3.2) r3.2 fun r4 =>
 gd (yv r2.1) true (pm (ld r4.2 r4.1) r4.2) r4.2 fun r5 =>
 gd (yv r2.1) true (pm (abin Tryd.prog .sub 3 r5.1 (.d (.int .i64 1))) r5.2) r5.2 fun r6 =>
 gd (yv r2.1) true (pm (abin Tryd.prog .leq 3 r3.1 r6.1) r6.2) r6.2 fun r7 =>
 bi (pk r2.1 r7.1 (.d (.bool false)) r7.2) fun r8 =>
 rt r8.1 r8.2)
 (pu (abin Tryd.prog .eql 3 a1 (.d (.int .i64 (-1)))) r1.2 fun r9 =>
 rt r9.1 r9.2)

/-! #### rushlight/rushlightref13.End -/
noncomputable def fi27 : FI := ⟨76, 0, [.tmp 4], (.seq (rgn Tryd.f27.body 0) (.seq (rgn Tryd.f27.body 1) (.seq (.seq (rgn Tryd.f27.body 2) (.cond (.tmp 19) (.seq (rgn Tryd.f27.body 3) .ret) .skip)) (.seq (.seq (rgn Tryd.f27.body 4) (.cond (.tmp 33) (.seq (rgn Tryd.f27.body 5) .ret) .skip)) (.seq (rgn Tryd.f27.body 6) .ret)))))⟩
theorem fits27 : Fits Tryd.prog 27 fi27 Tryd.f27 := ⟨by kernel_rfl, by kernel_rfl, by kernel_rfl, by kernel_rfl, by kernel_rfl⟩
set_option maxRecDepth 100000 in
noncomputable def s27 (call : ACall) (lim : Nat) (a0 a1 : AV) (H : Heap) : Option Res :=
 bi (bx a0 H) fun r1 =>
 bi (bx a1 r1.2) fun r2 =>
 pu (fa 3 r2.1) r2.2 fun r3 =>
 pu (ld r3.2 r3.1) r3.2 fun r4 =>
 pu (abin Tryd.prog .geq 3 r4.1 (.d (.int .i64 0))) r4.2 fun r5 =>
 gd (yv r5.1) true (pm (fa 3 r2.1) r5.2) r5.2 fun r6 =>
 gd (yv r5.1) true (pm (ld r6.2 r6.1) r6.2) r6.2 fun r7 =>
 gd (yv r5.1) true (pm (fa 5 r1.1) r7.2) r7.2 fun r8 =>
 gd (yv r5.1) true (pm (ld r8.2 r8.1) r8.2) r8.2 fun r9 =>
 gd (yv r5.1) true (pm (lnS r9.1) r9.2) r9.2 fun r10 =>
 gd (yv r5.1) true (pm (abin Tryd.prog .lss 3 r7.1 r10.1) r10.2) r10.2 fun r11 =>
 bi (pk r5.1 r11.1 (.d (.bool false)) r11.2) fun r12 =>
 pu (fa 1 r2.1) r12.2 fun r13 =>
 pu (ld r13.2 r13.1) r13.2 fun r14 =>
 pu (abin Tryd.prog .eql 3 r14.1 (.d (.int .i64 1))) r14.2 fun r15 =>
 cn (asB r15.1)
 (gd (yv r12.1) true (pm (fa 2 r2.1) r15.2) r15.2 fun r16 =>
 gd (yv r12.1) true (pm (ld r16.2 r16.1) r16.2) r16.2 fun r17 =>
 gd (yv r12.1) true (pm (abin Tryd.prog .eql 3 r17.1 (.d (.int .i64 (-1)))) r17.2) r17.2 fun r18 =>
 bi (pk r12.1 r18.1 (.d (.bool false)) r18.2) fun r19 =>
 gd (yv r19.1) true (pm (fa 4 r2.1) r19.2) r19.2 fun r20 =>
 gd (yv r19.1) true (pm (ld r20.2 r20.1) r20.2) r20.2 fun r21 =>
 gd (yv r19.1) true (pm (abin Tryd.prog .eql 3 r21.1 (.d (.int .i64 0))) r21.2) r21.2 fun r22 =>
 bi (pk r19.1 r22.1 (.d (.bool false)) r22.2) fun r23 =>
 rt r23.1 r23.2)
 (pu (fa 1 r2.1) r15.2 fun r24 =>
 pu (ld r24.2 r24.1) r24.2 fun r25 =>
 pu (abin Tryd.prog .eql 3 r25.1 (.d (.int .i64 2))) r25.2 fun r26 =>
 cn (asB r26.1)
 (gd (yv r12.1) true (pm (fa 4 r2.1) r26.2) r26.2 fun r27 =>
 gd (yv r12.1) true (pm (ld r27.2 r27.1) r27.2) r27.2 fun r28 =>
 gd (yv r12.1) true (pm (abin Tryd.prog .geq 3 r28.1 (.d (.int .i64 0))) r28.2) r28.2 fun r29 =>
 bi (pk r12.1 r29.1 (.d (.bool false)) r29.2) fun r30 =>
 gd (yv r30.1) true (pm (fa 4 r2.1) r30.2) r30.2 fun r31 =>
 gd (yv r30.1) true (pm (ld r31.2 r31.1) r31.2) r31.2 fun r32 =>
 gd (yv r30.1) true (pm (fa 5 r1.1) r32.2) r32.2 fun r33 =>
 gd (yv r30.1) true (pm (ld r33.2 r33.1) r33.2) r33.2 fun r34 =>
 gd (yv r30.1) true (pm (lnS r34.1) r34.2) r34.2 fun r35 =>
 gd (yv r30.1) true (pm (abin Tryd.prog .lss 3 r32.1 r35.1) r35.2) r35.2 fun r36 =>
 bi (pk r30.1 r36.1 (.d (.bool false)) r36.2) fun r37 =>
 gd (yv r37.1) true (pm (ldA 6 r37.2 r1.1) r37.2) r37.2 fun r38 =>
 gd (yv r37.1) true (pm (fa 2 r2.1) r38.2) r38.2 fun r39 =>
 gd (yv r37.1) true (pm (ld r39.2 r39.1) r39.2) r39.2 fun r40 =>
 gd (yv r37.1) true (call 39 [r38.1, r40.1, .d (.bool true)] r40.2) r40.2 fun r41 =>
 bi (pk r37.1 r41.1 (.d (.bool false)) r41.2) fun r42 =>
 rt r42.1 r42.2)
 (pu (fa 1 r2.1) r26.2 fun r43 =>
 pu (ld r43.2 r43.1) r43.2 fun r44 =>
 pu (abin Tryd.prog .eql 3 r44.1 (.d (.int .i64 3))) r44.2 fun r45 =>
 gd (yv r45.1) true (pm (fa 3 r2.1) r45.2) r45.2 fun r46 =>
 gd (yv r45.1) true (pm (ld r46.2 r46.1) r46.2) r46.2 fun r47 =>
 gd (yv r45.1) true (pm (abin Tryd.prog .eql 3 r47.1 (.d (.int .i64 0))) r47.2) r47.2 fun r48 =>
 bi (pk r45.1 r48.1 (.d (.bool false)) r48.2) fun r49 =>
 gd (yv r49.1) true (pm (fa 4 r2.1) r49.2) r49.2 fun r50 =>
 gd (yv r49.1) true (pm (ld r50.2 r50.1) r50.2) r50.2 fun r51 =>
 gd (yv r49.1) true (pm (abin Tryd.prog .eql 3 r51.1 (.d (.int .i64 0))) r51.2) r51.2 fun r52 =>
 bi (pk r49.1 r52.1 (.d (.bool false)) r52.2) fun r53 =>
 gd (yv r53.1) true (pm (ldA 6 r53.2 r1.1) r53.2) r53.2 fun r54 =>
 gd (yv r53.1) true (pm (fa 2 r2.1) r54.2) r54.2 fun r55 =>
 gd (yv r53.1) true (pm (ld r55.2 r55.1) r55.2) r55.2 fun r56 =>
 gd (yv r53.1) true (pm (fa 1 r1.1) r56.2) r56.2 fun r57 =>
 gd (yv r53.1) true (pm (ld r57.2 r57.1) r57.2) r57.2 fun r58 =>
 gd (yv r53.1) true (pm (aun .not r58.1) r58.2) r58.2 fun r59 =>
 gd (yv r53.1) true (call 39 [r54.1, r56.1, r59.1] r59.2) r59.2 fun r60 =>
 bi (pk r53.1 r60.1 (.d (.bool false)) r60.2) fun r61 =>
 rt r61.1 r61.2))

/-! #### rushlight/rushlightref13.fields -/
noncomputable def fi35 : FI := ⟨27, 0, [.tmp 2], (.seq (rgn Tryd.f35.body 0) (.seq (rgn Tryd.f35.body 1) (.seq (.seq (rgn Tryd.f35.body 2) (.cond (.tmp 22) (.seq (rgn Tryd.f35.body 3) .ret) .skip)) (.seq (rgn Tryd.f35.body 4) .ret))))⟩
theorem fits35 : Fits Tryd.prog 35 fi35 Tryd.f35 := ⟨by kernel_rfl, by kernel_rfl, by kernel_rfl, by kernel_rfl, by kernel_rfl⟩
set_option maxRecDepth 100000 in
noncomputable def s35 (call : ACall) (lim : Nat) (a0 : AV) (H : Heap) : Option Res :=
 bi (bldS 1 10 [.d (.bool false)] [(0, .d (.bool true)), (1, .d (.bool false)), (2, .d (.bool false)), (3, .d (.bool false)), (4, .d (.bool false)), (5, .d (.bool false)), (6, .d (.bool false)), (7, .d (.bool true)), (8, .d (.bool false)), (9, .d (.bool true))] H) fun r1 =>
 bi (bldS 1 10 [.d (.bool false)] [(0, .d (.bool true)), (1, .d (.bool true)), (2, .d (.bool false)), (3, .d (.bool false)), (4, .d (.bool false)), (5, .d (.bool false)), (6, .d (.bool false)), (7, .d (.bool false)), (8, .d (.bool false)), (9, .d (.bool true))] r1.2) fun r2 =>
 bi (bldS 1 10 [.d (.bool false)] [(0, .d (.bool true)), (1, .d (.bool true)), (2, .d (.bool true)), (3, .d (.bool true)), (4, .d (.bool false)), (5, .d (.bool false)), (6, .d (.bool false)), (7, .d (.bool false)), (8, .d (.bool false)), (9, .d (.bool true))] r2.2) fun r3 =>
 bi (bldS 1 10 [.d (.bool false)] [(0, .d (.bool true)), (1, .d (.bool true)), (2, .d (.bool false)), (3, .d (.bool true)), (4, .d (.bool false)), (5, .d (.bool false)), (6, .d (.bool false)), (7, .d (.bool false)), (8, .d (.bool false)), (9, .d (.bool true))] r3.2) fun r4 =>
 bi (bldS 1 10 [.d (.bool false)] [(0, .d (.bool true)), (1, .d (.bool true)), (2, .d (.bool false)), (3, .d (.bool false)), (4, .d (.bool false)), (5, .d (.bool true)), (6, .d (.bool true)), (7, .d (.bool false)), (8, .d (.bool false)), (9, .d (.bool true))] r4.2) fun r5 =>
 bi (bldS 1 10 [.d (.bool false)] [(0, .d (.bool false)), (1, .d (.bool true)), (2, .d (.bool true)), (3, .d (.bool false)), (4, .d (.bool false)), (5, .d (.bool true)), (6, .d (.bool true)), (7, .d (.bool false)), (8, .d (.bool false)), (9, .d (.bool true))] r5.2) fun r6 =>
 bi (bldS 1 10 [.d (.bool false)] [(0, .d (.bool true)), (1, .d (.bool false)), (2, .d (.bool false)), (3, .d (.bool false)), (4, .d (.bool true)), (5, .d (.bool true)), (6, .d (.bool false)), (7, .d (.bool false)), (8, .d (.bool false)), (9, .d (.bool true))] r6.2) fun r7 =>
 bi (bldS 1 10 [.d (.bool false)] [(0, .d (.bool true)), (1, .d (.bool false)), (2, .d (.bool false)), (3, .d (.bool false)), (4, .d (.bool true)), (5, .d (.bool true)), (6, .d (.bool false)), (7, .d (.bool false)), (8, .d (.bool false)), (9, .d (.bool true))] r7.2) fun r8 =>
 bi (bldS 1 10 [.d (.bool false)] [(0, .d (.bool true)), (1, .d (.bool false)), (2, .d (.bool false)), (3, .d (.bool false)), (4, .d (.bool true)), (5, .d (.bool false)), (6, .d (.bool false)), (7, .d (.bool false)), (8, .d (.bool true)), (9, .d (.bool true))] r8.2) fun r9 =>
 bi (bldS 1 10 [.d (.bool false)] [(0, .d (.bool false)), (1, .d (.bool true)), (2, .d (.bool false)), (3, .d (.bool false)), (4, .d (.bool false)), (5, .d (.bool false)), (6, .d (.bool false)), (7, .d (.bool false)), (8, .d (.bool false)), (9, .d (.bool false))] r9.2) fun r10 =>
 bi (bldS 1 10 [.d (.bool false)] [(0, .d (.bool true)), (1, .d (.bool false)), (2, .d (.bool false)), (3, .d (.bool false)), (4, .d (.bool false)), (5, .d (.bool false)), (6, .d (.bool false)), (7, .d (.bool false)), (8, .d (.bool false)), (9, .d (.bool true))] r10.2) fun r11 =>
 bi (bldS 1 10 [.d (.bool false)] [(0, .d (.bool false)), (1, .d (.bool false)), (2, .d (.bool false)), (3, .d (.bool false)), (4, .d (.bool false)), (5, .d (.bool false)), (6, .d (.bool false)), (7, .d (.bool false)), (8, .d (.bool false)), (9, .d (.bool false))] r11.2) fun r12 =>
 bi (bldS 1 13 [.d (.seq true 0 [])] [(0, .d (.seq true 0 [])), (1, r1.1), (2, r2.1), (3, r3.1), (4, r4.1), (5, r5.1), (6, r6.1), (7, r7.1), (8, r8.1), (9, r9.1), (10, r10.1), (11, r11.1), (12, r12.1)] r12.2) fun r13 =>
 pu (abin Tryd.prog .lss 3 a0 (.d (.int .i64 1))) r13.2 fun r14 =>
 gd (yv r14.1) false (some (a0, r14.2)) r14.2 fun r15 =>
 gd (yv r14.1) false (pm (abin Tryd.prog .gtr 3 r15.1 (.d (.int .i64 12))) r15.2) r15.2 fun r16 =>
 bi (pk r14.1 (.d (.bool true)) r16.1 r16.2) fun r17 =>
 cn (asB r17.1)
 (rt (.d (.seq true 0 [])) r17.2)
 (pu (ixS 1 r13.1 a0) r17.2 fun r18 =>
 pu (ld r18.2 r18.1) r18.2 fun r19 =>
 rt r19.1 r19.2)

/-! #### rushlight/rushlightref13.Ins -/
noncomputable def fi28 : FI := ⟨272, 0, [.tmp 6], (.seq (rgn Tryd.f28.body 0) (.seq (rgn Tryd.f28.body 1) (.seq (.seq (rgn Tryd.f28.body 2) (.cond (.tmp 14) (.seq (rgn Tryd.f28.body 3) .ret) .skip)) (.seq (.seq (rgn Tryd.f28.body 4) (.cond (.tmp 89) (.seq (rgn Tryd.f28.body 5) .ret) .skip)) (.seq (.seq (rgn Tryd.f28.body 6) (.cond (.tmp 92) (.seq (.seq (rgn Tryd.f28.body 7) (.cond (.tmp 131) (.seq (rgn Tryd.f28.body 8) .ret) .skip)) (.seq (.seq (rgn Tryd.f28.body 9) (.block 0 (.loop ⟨[4, 5, 8], some [6], [(0, [5])]⟩ (.seq (.seq (rgn Tryd.f28.body 10) (.cond (.tmp 136) .skip (.exit 0))) (.seq (.block 1 (.seq (rgn Tryd.f28.body 12) (.cond (.tmp 146) (.seq (rgn Tryd.f28.body 13) .ret) .skip))) (rgn Tryd.f28.body 11)))))) (.seq (rgn Tryd.f28.body 14) .ret))) .skip)) (.seq (.seq (rgn Tryd.f28.body 15) (.cond (.tmp 192) (.seq (rgn Tryd.f28.body 16) .ret) .skip)) (.seq (.seq (rgn Tryd.f28.body 17) (.cond (.tmp 220) (.seq (rgn Tryd.f28.body 18) .ret) .skip)) (.seq (.seq (rgn Tryd.f28.body 19) (.cond (.tmp 243) (.seq (rgn Tryd.f28.body 20) .ret) .skip)) (.seq (.seq (rgn Tryd.f28.body 21) (.cond (.tmp 246) (.seq (rgn Tryd.f28.body 22) .ret) .skip)) (.seq (.seq (rgn Tryd.f28.body 23) (.cond (.tmp 260) (.seq (rgn Tryd.f28.body 24) .ret) .skip)) (.seq (rgn Tryd.f28.body 25) .ret)))))))))))⟩
theorem fits28 : Fits Tryd.prog 28 fi28 Tryd.f28 := ⟨by kernel_rfl, by kernel_rfl, by kernel_rfl, by kernel_rfl, by kernel_rfl⟩
set_option maxRecDepth 100000 in
/-- A round: what is kept: [4, 5, 8]. -/
noncomputable def s28.l0 (call : ACall) (lim : Nat) (v115 : List AV) (h116 : Heap) : Option Res :=
 pu (fa 9 (v115.getD 1 .junk)) h116 fun r117 =>
 pu (ld r117.2 r117.1) r117.2 fun r118 =>
 pu (lnS r118.1) r118.2 fun r119 =>
 pu (abin Tryd.prog .lss 3 (v115.getD 2 .junk) r119.1) r119.2 fun r120 =>
 cn (asB r120.1)
 (pu (ldA 6 r120.2 (v115.getD 0 .junk)) r120.2 fun r121 =>
 pu (fa 9 (v115.getD 1 .junk)) r121.2 fun r122 =>
 pu (ld r122.2 r122.1) r122.2 fun r123 =>
 pu (ixS 1 r123.1 (v115.getD 2 .junk)) r123.2 fun r124 =>
 pu (ld r124.2 r124.1) r124.2 fun r125 =>
 bi (call 39 [r121.1, r125.1, .d (.bool true)] r125.2) fun r126 =>
 pu (aun .not r126.1) r126.2 fun r127 =>
 cn (asB r127.1)
 (some (.ret, [.d (.bool false)], r127.2))
 (pu (abin Tryd.prog .add 3 (v115.getD 2 .junk) (.d (.int .i64 1))) r127.2 fun r128 =>
 some (.normal, [(v115.getD 0 .junk), (v115.getD 1 .junk), r128.1], r128.2)))
 (some (.exit 0, [(v115.getD 1 .junk)], r120.2))
set_option maxRecDepth 100000 in
noncomputable def s28 (call : ACall) (lim : Nat) (a0 a1 a2 : AV) (H : Heap) : Option Res :=
 bi (bx a0 H) fun r1 =>
 bi (bx a1 r1.2) fun r2 =>
 bi (bx a2 r2.2) fun r3 =>
 pu (fa 0 r3.1) r3.2 fun r4 =>
 pu (ld r4.2 r4.1) r4.2 fun r5 =>
 bi (call 35 [r5.1] r5.2) fun r6 =>
 pu (lnS r6.1) r6.2 fun r7 =>
 pu (abin Tryd.prog .eql 3 r7.1 (.d (.int .i64 0))) r7.2 fun r8 =>
 cn (asB r8.1)
 (rt (.d (.bool false)) r8.2)
 (pu (ixS 1 r6.1 (.d (.int .i64 3))) r8.2 fun r9 =>
 pu (ld r9.2 r9.1) r9.2 fun r10 =>
 pu (aun .not r10.1) r10.2 fun r11 =>
 gd (yv r11.1) true (pm (fa 4 r3.1) r11.2) r11.2 fun r12 =>
 gd (yv r11.1) true (pm (ld r12.2 r12.1) r12.2) r12.2 fun r13 =>
 gd (yv r11.1) true (pm (abin Tryd.prog .neq 3 r13.1 (.d (.int .i64 0))) r13.2) r13.2 fun r14 =>
 bi (pk r11.1 r14.1 (.d (.bool false)) r14.2) fun r15 =>
 gd (yv r15.1) false (some (r6.1, r15.2)) r15.2 fun r16 =>
 gd (yv r15.1) false (pm (ixS 1 r16.1 (.d (.int .i64 4))) r16.2) r16.2 fun r17 =>
 gd (yv r15.1) false (pm (ld r17.2 r17.1) r17.2) r17.2 fun r18 =>
 gd (yv r15.1) false (pm (aun .not r18.1) r18.2) r18.2 fun r19 =>
 gd (yv r15.1) false (some (r19.1, r19.2)) r19.2 fun r20 =>
 gd (yv r20.1) true (pm (fa 5 r3.1) r20.2) r20.2 fun r21 =>
 gd (yv r20.1) true (pm (ld r21.2 r21.1) r21.2) r21.2 fun r22 =>
 gd (yv r20.1) true (pm (abin Tryd.prog .neq 3 r22.1 (.d (.int .i64 0))) r22.2) r22.2 fun r23 =>
 gd (yv r15.1) false (pk r20.1 r23.1 (.d (.bool false)) r23.2) r23.2 fun r24 =>
 bi (pk r15.1 (.d (.bool true)) r24.1 r24.2) fun r25 =>
 gd (yv r25.1) false (some (r6.1, r25.2)) r25.2 fun r26 =>
 gd (yv r25.1) false (pm (ixS 1 r26.1 (.d (.int .i64 5))) r26.2) r26.2 fun r27 =>
 gd (yv r25.1) false (pm (ld r27.2 r27.1) r27.2) r27.2 fun r28 =>
 gd (yv r25.1) false (pm (aun .not r28.1) r28.2) r28.2 fun r29 =>
 gd (yv r25.1) false (some (r29.1, r29.2)) r29.2 fun r30 =>
 gd (yv r30.1) true (pm (fa 6 r3.1) r30.2) r30.2 fun r31 =>
 gd (yv r30.1) true (pm (ld r31.2 r31.1) r31.2) r31.2 fun r32 =>
 gd (yv r30.1) true (pm (abin Tryd.prog .neq 3 r32.1 (.d (.int .i64 0))) r32.2) r32.2 fun r33 =>
 gd (yv r25.1) false (pk r30.1 r33.1 (.d (.bool false)) r33.2) r33.2 fun r34 =>
 bi (pk r25.1 (.d (.bool true)) r34.1 r34.2) fun r35 =>
 gd (yv r35.1) false (some (r6.1, r35.2)) r35.2 fun r36 =>
 gd (yv r35.1) false (pm (ixS 1 r36.1 (.d (.int .i64 6))) r36.2) r36.2 fun r37 =>
 gd (yv r35.1) false (pm (ld r37.2 r37.1) r37.2) r37.2 fun r38 =>
 gd (yv r35.1) false (pm (aun .not r38.1) r38.2) r38.2 fun r39 =>
 gd (yv r35.1) false (some (r39.1, r39.2)) r39.2 fun r40 =>
 gd (yv r40.1) true (pm (fa 7 r3.1) r40.2) r40.2 fun r41 =>
 gd (yv r40.1) true (pm (ld r41.2 r41.1) r41.2) r41.2 fun r42 =>
 gd (yv r40.1) true (pm (abin Tryd.prog .neq 3 r42.1 (.d (.int .i64 0))) r42.2) r42.2 fun r43 =>
 gd (yv r35.1) false (pk r40.1 r43.1 (.d (.bool false)) r43.2) r43.2 fun r44 =>
 bi (pk r35.1 (.d (.bool true)) r44.1 r44.2) fun r45 =>
 gd (yv r45.1) false (some (r6.1, r45.2)) r45.2 fun r46 =>
 gd (yv r45.1) false (pm (ixS 1 r46.1 (.d (.int .i64 7))) r46.2) r46.2 fun r47 =>
 gd (yv r45.1) false (pm (ld r47.2 r47.1) r47.2) r47.2 fun r48 =>
 gd (yv r45.1) false (pm (aun .not r48.1) r48.2) r48.2 fun r49 =>
 gd (yv r45.1) false (some (r49.1, r49.2)) r49.2 fun r50 =>
 gd (yv r50.1) true (pm (fa 8 r3.1) r50.2) r50.2 fun r51 =>
 gd (yv r50.1) true (pm (ld r51.2 r51.1) r51.2) r51.2 fun r52 =>
 gd (yv r50.1) true (pm (abin Tryd.prog .neq 42 r52.1 (.d (.int .u32 0))) r52.2) r52.2 fun r53 =>
 gd (yv r45.1) false (pk r50.1 r53.1 (.d (.bool false)) r53.2) r53.2 fun r54 =>
 bi (pk r45.1 (.d (.bool true)) r54.1 r54.2) fun r55 =>
 gd (yv r55.1) false (some (r6.1, r55.2)) r55.2 fun r56 =>
 gd (yv r55.1) false (pm (ixS 1 r56.1 (.d (.int .i64 8))) r56.2) r56.2 fun r57 =>
 gd (yv r55.1) false (pm (ld r57.2 r57.1) r57.2) r57.2 fun r58 =>
 gd (yv r55.1) false (pm (aun .not r58.1) r58.2) r58.2 fun r59 =>
 gd (yv r55.1) false (some (r59.1, r59.2)) r59.2 fun r60 =>
 gd (yv r60.1) true (pm (fa 9 r3.1) r60.2) r60.2 fun r61 =>
 gd (yv r60.1) true (pm (ld r61.2 r61.1) r61.2) r61.2 fun r62 =>
 gd (yv r60.1) true (pm (lnS r62.1) r62.2) r62.2 fun r63 =>
 gd (yv r60.1) true (pm (abin Tryd.prog .gtr 3 r63.1 (.d (.int .i64 0))) r63.2) r63.2 fun r64 =>
 gd (yv r55.1) false (pk r60.1 r64.1 (.d (.bool false)) r64.2) r64.2 fun r65 =>
 bi (pk r55.1 (.d (.bool true)) r65.1 r65.2) fun r66 =>
 gd (yv r66.1) false (some (r6.1, r66.2)) r66.2 fun r67 =>
 gd (yv r66.1) false (pm (ixS 1 r67.1 (.d (.int .i64 9))) r67.2) r67.2 fun r68 =>
 gd (yv r66.1) false (pm (ld r68.2 r68.1) r68.2) r68.2 fun r69 =>
 gd (yv r66.1) false (pm (aun .not r69.1) r69.2) r69.2 fun r70 =>
 gd (yv r66.1) false (some (r70.1, r70.2)) r70.2 fun r71 =>
 gd (yv r71.1) true (pm (fa 10 r3.1) r71.2) r71.2 fun r72 =>
 gd (yv r71.1) true (pm (ld r72.2 r72.1) r72.2) r72.2 fun r73 =>
 gd (yv r66.1) false (pk r71.1 r73.1 (.d (.bool false)) r73.2) r73.2 fun r74 =>
 bi (pk r66.1 (.d (.bool true)) r74.1 r74.2) fun r75 =>
 cn (asB r75.1)
 (rt (.d (.bool false)) r75.2)
 (pu (fa 0 r3.1) r75.2 fun r76 =>
 pu (ld r76.2 r76.1) r76.2 fun r77 =>
 pu (abin Tryd.prog .eql 3 r77.1 (.d (.int .i64 9))) r77.2 fun r78 =>
 cn (asB r78.1)
 (pu (fa 5 r3.1) r78.2 fun r79 =>
 pu (ld r79.2 r79.1) r79.2 fun r80 =>
 pu (abin Tryd.prog .lss 3 r80.1 (.d (.int .i64 0))) r80.2 fun r81 =>
 gd (yv r81.1) false (pm (fa 5 r3.1) r81.2) r81.2 fun r82 =>
 gd (yv r81.1) false (pm (ld r82.2 r82.1) r82.2) r82.2 fun r83 =>
 gd (yv r81.1) false (pm (fa 2 r1.1) r83.2) r83.2 fun r84 =>
 gd (yv r81.1) false (pm (ld r84.2 r84.1) r84.2) r84.2 fun r85 =>
 gd (yv r81.1) false (pm (lnS r85.1) r85.2) r85.2 fun r86 =>
 gd (yv r81.1) false (pm (abin Tryd.prog .geq 3 r83.1 r86.1) r86.2) r86.2 fun r87 =>
 bi (pk r81.1 (.d (.bool true)) r87.1 r87.2) fun r88 =>
 gd (yv r88.1) false (pm (fa 9 r3.1) r88.2) r88.2 fun r89 =>
 gd (yv r88.1) false (pm (ld r89.2 r89.1) r89.2) r89.2 fun r90 =>
 gd (yv r88.1) false (pm (lnS r90.1) r90.2) r90.2 fun r91 =>
 gd (yv r88.1) false (pm (fa 2 r1.1) r91.2) r91.2 fun r92 =>
 gd (yv r88.1) false (pm (ld r92.2 r92.1) r92.2) r92.2 fun r93 =>
 gd (yv r88.1) false (pm (fa 5 r3.1) r93.2) r93.2 fun r94 =>
 gd (yv r88.1) false (pm (ld r94.2 r94.1) r94.2) r94.2 fun r95 =>
 gd (yv r88.1) false (pm (ixS 6 r93.1 r95.1) r95.2) r95.2 fun r96 =>
 gd (yv r88.1) false (pm (fa 2 r96.1) r96.2) r96.2 fun r97 =>
 gd (yv r88.1) false (pm (ld r97.2 r97.1) r97.2) r97.2 fun r98 =>
 gd (yv r88.1) false (pm (abin Tryd.prog .neq 3 r91.1 r98.1) r98.2) r98.2 fun r99 =>
 bi (pk r88.1 (.d (.bool true)) r99.1 r99.2) fun r100 =>
 gd (yv r100.1) false (pm (ldA 6 r100.2 r2.1) r100.2) r100.2 fun r101 =>
 gd (yv r100.1) false (pm (fa 1 r3.1) r101.2) r101.2 fun r102 =>
 gd (yv r100.1) false (pm (ld r102.2 r102.1) r102.2) r102.2 fun r103 =>
 gd (yv r100.1) false (pm (fa 2 r1.1) r103.2) r103.2 fun r104 =>
 gd (yv r100.1) false (pm (ld r104.2 r104.1) r104.2) r104.2 fun r105 =>
 gd (yv r100.1) false (pm (fa 5 r3.1) r105.2) r105.2 fun r106 =>
 gd (yv r100.1) false (pm (ld r106.2 r106.1) r106.2) r106.2 fun r107 =>
 gd (yv r100.1) false (pm (ixS 6 r105.1 r107.1) r107.2) r107.2 fun r108 =>
 gd (yv r100.1) false (pm (fa 1 r108.1) r108.2) r108.2 fun r109 =>
 gd (yv r100.1) false (pm (ld r109.2 r109.1) r109.2) r109.2 fun r110 =>
 gd (yv r100.1) false (pm (aun .not r110.1) r110.2) r110.2 fun r111 =>
 gd (yv r100.1) false (call 39 [r101.1, r103.1, r111.1] r111.2) r111.2 fun r112 =>
 gd (yv r100.1) false (pm (aun .not r112.1) r112.2) r112.2 fun r113 =>
 bi (pk r100.1 (.d (.bool true)) r113.1 r113.2) fun r114 =>
 cn (asB r114.1)
 (rt (.d (.bool false)) r114.2)
 (lp (s28.l0 call lim) [r2.1, r3.1, .d (.int .i64 0)] r114.2 fun j129 =>
 dsp j129.1 none (rt (gv j129 0) j129.2.2) [(0, pu (fa 2 (gv j129 0)) j129.2.2 fun r130 =>
 pu (ld r130.2 r130.1) r130.2 fun r131 =>
 pu (abin Tryd.prog .eql 3 r131.1 (.d (.int .i64 (-1)))) r131.2 fun r132 =>
 gd (yv r132.1) true (pm (fa 3 (gv j129 0)) r132.2) r132.2 fun r133 =>
 gd (yv r132.1) true (pm (ld r133.2 r133.1) r133.2) r133.2 fun r134 =>
 gd (yv r132.1) true (pm (abin Tryd.prog .eql 3 r134.1 (.d (.int .i64 (-1)))) r134.2) r134.2 fun r135 =>
 bi (pk r132.1 r135.1 (.d (.bool false)) r135.2) fun r136 =>
 gd (yv r136.1) true (pm (fa 10 (gv j129 0)) r136.2) r136.2 fun r137 =>
 gd (yv r136.1) true (pm (ld r137.2 r137.1) r137.2) r137.2 fun r138 =>
 gd (yv r136.1) true (pm (aun .not r138.1) r138.2) r138.2 fun r139 =>
 gd (yv r136.1) true (some (r139.1, r139.2)) r139.2 fun r140 =>
 gd (yv r140.1) false (pm (fa 1 (gv j129 0)) r140.2) r140.2 fun r141 =>
 gd (yv r140.1) false (pm (ld r141.2 r141.1) r141.2) r141.2 fun r142 =>
 gd (yv r140.1) false (pm (abin Tryd.prog .neq 3 r142.1 (.d (.int .i64 (-1)))) r142.2) r142.2 fun r143 =>
 gd (yv r136.1) true (pk r140.1 (.d (.bool true)) r143.1 r143.2) r143.2 fun r144 =>
 bi (pk r136.1 r144.1 (.d (.bool false)) r144.2) fun r145 =>
 rt r145.1 r145.2)]))
 (pu (ldA 6 r78.2 r2.1) r78.2 fun r146 =>
 pu (fa 1 r3.1) r146.2 fun r147 =>
 pu (ld r147.2 r147.1) r147.2 fun r148 =>
 pu (ixS 1 r6.1 (.d (.int .i64 0))) r148.2 fun r149 =>
 pu (ld r149.2 r149.1) r149.2 fun r150 =>
 bi (call 39 [r146.1, r148.1, r150.1] r150.2) fun r151 =>
 pu (aun .not r151.1) r151.2 fun r152 =>
 gd (yv r152.1) false (pm (ldA 6 r152.2 r2.1) r152.2) r152.2 fun r153 =>
 gd (yv r152.1) false (pm (fa 2 r3.1) r153.2) r153.2 fun r154 =>
 gd (yv r152.1) false (pm (ld r154.2 r154.1) r154.2) r154.2 fun r155 =>
 gd (yv r152.1) false (some (r6.1, r155.2)) r155.2 fun r156 =>
 gd (yv r152.1) false (pm (ixS 1 r156.1 (.d (.int .i64 1))) r156.2) r156.2 fun r157 =>
 gd (yv r152.1) false (pm (ld r157.2 r157.1) r157.2) r157.2 fun r158 =>
 gd (yv r152.1) false (call 39 [r153.1, r155.1, r158.1] r158.2) r158.2 fun r159 =>
 gd (yv r152.1) false (pm (aun .not r159.1) r159.2) r159.2 fun r160 =>
 bi (pk r152.1 (.d (.bool true)) r160.1 r160.2) fun r161 =>
 gd (yv r161.1) false (pm (ldA 6 r161.2 r2.1) r161.2) r161.2 fun r162 =>
 gd (yv r161.1) false (pm (fa 3 r3.1) r162.2) r162.2 fun r163 =>
 gd (yv r161.1) false (pm (ld r163.2 r163.1) r163.2) r163.2 fun r164 =>
 gd (yv r161.1) false (some (r6.1, r164.2)) r164.2 fun r165 =>
 gd (yv r161.1) false (pm (ixS 1 r165.1 (.d (.int .i64 2))) r165.2) r165.2 fun r166 =>
 gd (yv r161.1) false (pm (ld r166.2 r166.1) r166.2) r166.2 fun r167 =>
 gd (yv r161.1) false (call 39 [r162.1, r164.1, r167.1] r167.2) r167.2 fun r168 =>
 gd (yv r161.1) false (pm (aun .not r168.1) r168.2) r168.2 fun r169 =>
 bi (pk r161.1 (.d (.bool true)) r169.1 r169.2) fun r170 =>
 cn (asB r170.1)
 (rt (.d (.bool false)) r170.2)
 (pu (fa 0 r3.1) r170.2 fun r171 =>
 pu (ld r171.2 r171.1) r171.2 fun r172 =>
 pu (abin Tryd.prog .eql 3 r172.1 (.d (.int .i64 3))) r172.2 fun r173 =>
 gd (yv r173.1) true (pm (fa 4 r3.1) r173.2) r173.2 fun r174 =>
 gd (yv r173.1) true (pm (ld r174.2 r174.1) r174.2) r174.2 fun r175 =>
 gd (yv r173.1) true (pm (abin Tryd.prog .lss 3 r175.1 (.d (.int .i64 1))) r175.2) r175.2 fun r176 =>
 gd (yv r173.1) true (some (r176.1, r176.2)) r176.2 fun r177 =>
 gd (yv r177.1) false (pm (fa 4 r3.1) r177.2) r177.2 fun r178 =>
 gd (yv r177.1) false (pm (ld r178.2 r178.1) r178.2) r178.2 fun r179 =>
 gd (yv r177.1) false (pm (abin Tryd.prog .gtr 3 r179.1 (.d (.int .i64 16))) r179.2) r179.2 fun r180 =>
 gd (yv r173.1) true (pk r177.1 (.d (.bool true)) r180.1 r180.2) r180.2 fun r181 =>
 bi (pk r173.1 r181.1 (.d (.bool false)) r181.2) fun r182 =>
 gd (yv r182.1) false (pm (fa 0 r3.1) r182.2) r182.2 fun r183 =>
 gd (yv r182.1) false (pm (ld r183.2 r183.1) r183.2) r183.2 fun r184 =>
 gd (yv r182.1) false (pm (abin Tryd.prog .eql 3 r184.1 (.d (.int .i64 4))) r184.2) r184.2 fun r185 =>
 gd (yv r182.1) false (some (r185.1, r185.2)) r185.2 fun r186 =>
 gd (yv r186.1) true (pm (fa 4 r3.1) r186.2) r186.2 fun r187 =>
 gd (yv r186.1) true (pm (ld r187.2 r187.1) r187.2) r187.2 fun r188 =>
 gd (yv r186.1) true (pm (abin Tryd.prog .lss 3 r188.1 (.d (.int .i64 17))) r188.2) r188.2 fun r189 =>
 gd (yv r186.1) true (some (r189.1, r189.2)) r189.2 fun r190 =>
 gd (yv r190.1) false (pm (fa 4 r3.1) r190.2) r190.2 fun r191 =>
 gd (yv r190.1) false (pm (ld r191.2 r191.1) r191.2) r191.2 fun r192 =>
 gd (yv r190.1) false (pm (abin Tryd.prog .gtr 3 r192.1 (.d (.int .i64 19))) r192.2) r192.2 fun r193 =>
 gd (yv r186.1) true (pk r190.1 (.d (.bool true)) r193.1 r193.2) r193.2 fun r194 =>
 gd (yv r182.1) false (pk r186.1 r194.1 (.d (.bool false)) r194.2) r194.2 fun r195 =>
 bi (pk r182.1 (.d (.bool true)) r195.1 r195.2) fun r196 =>
 cn (asB r196.1)
 (rt (.d (.bool false)) r196.2)
 (pu (ixS 1 r6.1 (.d (.int .i64 6))) r196.2 fun r197 =>
 pu (ld r197.2 r197.1) r197.2 fun r198 =>
 gd (yv r198.1) true (pm (fa 7 r3.1) r198.2) r198.2 fun r199 =>
 gd (yv r198.1) true (pm (ld r199.2 r199.1) r199.2) r199.2 fun r200 =>
 gd (yv r198.1) true (pm (abin Tryd.prog .neq 3 r200.1 (.d (.int .i64 1))) r200.2) r200.2 fun r201 =>
 bi (pk r198.1 r201.1 (.d (.bool false)) r201.2) fun r202 =>
 gd (yv r202.1) true (pm (fa 7 r3.1) r202.2) r202.2 fun r203 =>
 gd (yv r202.1) true (pm (ld r203.2 r203.1) r203.2) r203.2 fun r204 =>
 gd (yv r202.1) true (pm (abin Tryd.prog .neq 3 r204.1 (.d (.int .i64 4))) r204.2) r204.2 fun r205 =>
 bi (pk r202.1 r205.1 (.d (.bool false)) r205.2) fun r206 =>
 gd (yv r206.1) false (pm (fa 6 r3.1) r206.2) r206.2 fun r207 =>
 gd (yv r206.1) false (pm (ld r207.2 r207.1) r207.2) r207.2 fun r208 =>
 gd (yv r206.1) false (pm (abin Tryd.prog .lss 3 r208.1 (.d (.int .i64 (-32768)))) r208.2) r208.2 fun r209 =>
 bi (pk r206.1 (.d (.bool true)) r209.1 r209.2) fun r210 =>
 gd (yv r210.1) false (pm (fa 6 r3.1) r210.2) r210.2 fun r211 =>
 gd (yv r210.1) false (pm (ld r211.2 r211.1) r211.2) r211.2 fun r212 =>
 gd (yv r210.1) false (pm (abin Tryd.prog .gtr 3 r212.1 (.d (.int .i64 32768))) r212.2) r212.2 fun r213 =>
 bi (pk r210.1 (.d (.bool true)) r213.1 r213.2) fun r214 =>
 cn (asB r214.1)
 (rt (.d (.bool false)) r214.2)
 (pu (fa 0 r3.1) r214.2 fun r215 =>
 pu (ld r215.2 r215.1) r215.2 fun r216 =>
 pu (abin Tryd.prog .eql 3 r216.1 (.d (.int .i64 7))) r216.2 fun r217 =>
 cn (asB r217.1)
 (pu (fa 5 r3.1) r217.2 fun r218 =>
 pu (ld r218.2 r218.1) r218.2 fun r219 =>
 pu (abin Tryd.prog .geq 3 r219.1 (.d (.int .i64 0))) r219.2 fun r220 =>
 gd (yv r220.1) true (pm (fa 5 r3.1) r220.2) r220.2 fun r221 =>
 gd (yv r220.1) true (pm (ld r221.2 r221.1) r221.2) r221.2 fun r222 =>
 gd (yv r220.1) true (pm (fa 4 r2.1) r222.2) r222.2 fun r223 =>
 gd (yv r220.1) true (pm (ld r223.2 r223.1) r223.2) r223.2 fun r224 =>
 gd (yv r220.1) true (pm (lnS r224.1) r224.2) r224.2 fun r225 =>
 gd (yv r220.1) true (pm (abin Tryd.prog .lss 3 r222.1 r225.1) r225.2) r225.2 fun r226 =>
 bi (pk r220.1 r226.1 (.d (.bool false)) r226.2) fun r227 =>
 rt r227.1 r227.2)
 (pu (fa 0 r3.1) r217.2 fun r228 =>
 pu (ld r228.2 r228.1) r228.2 fun r229 =>
 pu (abin Tryd.prog .eql 3 r229.1 (.d (.int .i64 8))) r229.2 fun r230 =>
 cn (asB r230.1)
 (pu (fa 5 r3.1) r230.2 fun r231 =>
 pu (ld r231.2 r231.1) r231.2 fun r232 =>
 pu (abin Tryd.prog .geq 3 r232.1 (.d (.int .i64 0))) r232.2 fun r233 =>
 gd (yv r233.1) true (pm (fa 5 r3.1) r233.2) r233.2 fun r234 =>
 gd (yv r233.1) true (pm (ld r234.2 r234.1) r234.2) r234.2 fun r235 =>
 gd (yv r233.1) true (pm (fa 0 r1.1) r235.2) r235.2 fun r236 =>
 gd (yv r233.1) true (pm (ld r236.2 r236.1) r236.2) r236.2 fun r237 =>
 gd (yv r233.1) true (pm (lnS r237.1) r237.2) r237.2 fun r238 =>
 gd (yv r233.1) true (pm (abin Tryd.prog .lss 3 r235.1 r238.1) r238.2) r238.2 fun r239 =>
 bi (pk r233.1 r239.1 (.d (.bool false)) r239.2) fun r240 =>
 rt r240.1 r240.2)
 (rt (.d (.bool true)) r230.2))))))))

/-! #### rushlight/rushlightref13.Proc -/
noncomputable def fi11 : FI := ⟨111, 0, [.tmp 4], (.seq (rgn Tryd.f11.body 0) (.seq (.seq (rgn Tryd.f11.body 1) (.cond (.tmp 17) (.seq (rgn Tryd.f11.body 2) .ret) .skip)) (.seq (rgn Tryd.f11.body 3) (.seq (.seq (rgn Tryd.f11.body 4) (.cond (.tmp 60) (.seq (rgn Tryd.f11.body 5) .ret) .skip)) (.seq (rgn Tryd.f11.body 6) (.seq (.seq (rgn Tryd.f11.body 7) (.block 0 (.loop ⟨[2, 5, 6, 7], some [4], [(0, [6])]⟩ (.seq (.seq (rgn Tryd.f11.body 8) (.cond (.tmp 65) .skip (.exit 0))) (.seq (.block 1 (.seq (rgn Tryd.f11.body 10) (.seq (.seq (rgn Tryd.f11.body 11) (.cond (.tmp 84) (.seq (rgn Tryd.f11.body 12) .ret) .skip)) (.seq (rgn Tryd.f11.body 13) (.block 2 (.loop ⟨[2, 5, 6, 7, 8], some [4], [(2, [2, 5, 6, 7])]⟩ (.seq (.seq (rgn Tryd.f11.body 14) (.cond (.tmp 93) .skip (.exit 2))) (.seq (.block 3 (.seq (rgn Tryd.f11.body 16) (.cond (.tmp 108) (.seq (rgn Tryd.f11.body 17) .ret) .skip))) (rgn Tryd.f11.body 15))))))))) (rgn Tryd.f11.body 9)))))) (.seq (.seq (rgn Tryd.f11.body 18) (.cond (.tmp 110) (.seq (rgn Tryd.f11.body 19) .ret) .skip)) (.seq (rgn Tryd.f11.body 20) .ret))))))))⟩
theorem fits11 : Fits Tryd.prog 11 fi11 Tryd.f11 := ⟨by kernel_rfl, by kernel_rfl, by kernel_rfl, by kernel_rfl, by kernel_rfl⟩
set_option maxRecDepth 100000 in
/-- A round: what is kept: [2, 5, 6, 7, 8]. -/
noncomputable def s11.l0 (call : ACall) (lim : Nat) (v67 : List AV) (h68 : Heap) : Option Res :=
 pu (fa 5 (v67.getD 1 .junk)) h68 fun r69 =>
 pu (ld r69.2 r69.1) r69.2 fun r70 =>
 pu (ixS 5 r70.1 (v67.getD 3 .junk)) r70.2 fun r71 =>
 pu (fa 0 r71.1) r71.2 fun r72 =>
 pu (ld r72.2 r72.1) r72.2 fun r73 =>
 pu (lnS r73.1) r73.2 fun r74 =>
 pu (abin Tryd.prog .lss 3 (v67.getD 4 .junk) r74.1) r74.2 fun r75 =>
 cn (asB r75.1)
 (pu (ldA 4 r75.2 (v67.getD 0 .junk)) r75.2 fun r76 =>
 pu (ldA 6 r76.2 (v67.getD 1 .junk)) r76.2 fun r77 =>
 pu (fa 5 (v67.getD 1 .junk)) r77.2 fun r78 =>
 pu (ld r78.2 r78.1) r78.2 fun r79 =>
 pu (ixS 5 r79.1 (v67.getD 3 .junk)) r79.2 fun r80 =>
 pu (fa 0 r80.1) r80.2 fun r81 =>
 pu (ld r81.2 r81.1) r81.2 fun r82 =>
 pu (ixS 11 r82.1 (v67.getD 4 .junk)) r82.2 fun r83 =>
 pu (ldA 11 r83.2 r83.1) r83.2 fun r84 =>
 bi (call 28 [r76.1, r77.1, r84.1] r84.2) fun r85 =>
 pu (aun .not r85.1) r85.2 fun r86 =>
 cn (asB r86.1)
 (some (.ret, [.d (.int .i64 3)], r86.2))
 (pu (abin Tryd.prog .add 3 (v67.getD 4 .junk) (.d (.int .i64 1))) r86.2 fun r87 =>
 some (.normal, [(v67.getD 0 .junk), (v67.getD 1 .junk), (v67.getD 2 .junk), (v67.getD 3 .junk), r87.1], r87.2)))
 (some (.exit 2, [(v67.getD 0 .junk), (v67.getD 1 .junk), (v67.getD 2 .junk), (v67.getD 3 .junk)], r75.2))
set_option maxRecDepth 100000 in
/-- A round: what is kept: [2, 5, 6, 7]. -/
noncomputable def s11.l1 (call : ACall) (lim : Nat) (v47 : List AV) (h48 : Heap) : Option Res :=
 pu (fa 5 (v47.getD 1 .junk)) h48 fun r49 =>
 pu (ld r49.2 r49.1) r49.2 fun r50 =>
 pu (lnS r50.1) r50.2 fun r51 =>
 pu (abin Tryd.prog .lss 3 (v47.getD 3 .junk) r51.1) r51.2 fun r52 =>
 cn (asB r52.1)
 (pu (fa 5 (v47.getD 1 .junk)) r52.2 fun r53 =>
 pu (ld r53.2 r53.1) r53.2 fun r54 =>
 pu (ixS 5 r54.1 (v47.getD 3 .junk)) r54.2 fun r55 =>
 pu (fa 0 r55.1) r55.2 fun r56 =>
 pu (ld r56.2 r56.1) r56.2 fun r57 =>
 pu (lnS r57.1) r57.2 fun r58 =>
 pu (abin Tryd.prog .add 3 (v47.getD 2 .junk) r58.1) r58.2 fun r59 =>
 pu (ldA 6 r59.2 (v47.getD 1 .junk)) r59.2 fun r60 =>
 pu (fa 5 (v47.getD 1 .junk)) r60.2 fun r61 =>
 pu (ld r61.2 r61.1) r61.2 fun r62 =>
 pu (ixS 5 r62.1 (v47.getD 3 .junk)) r62.2 fun r63 =>
 pu (ldA 5 r63.2 r63.1) r63.2 fun r64 =>
 bi (call 27 [r60.1, r64.1] r64.2) fun r65 =>
 pu (aun .not r65.1) r65.2 fun r66 =>
 cn (asB r66.1)
 (some (.ret, [.d (.int .i64 3)], r66.2))
 (lp (s11.l0 call lim) [(v47.getD 0 .junk), (v47.getD 1 .junk), r59.1, (v47.getD 3 .junk), .d (.int .i64 0)] r66.2 fun j88 =>
 dsp j88.1 none (some (.ret, [(gv j88 0)], j88.2.2)) [(2, pu (abin Tryd.prog .add 3 (gv j88 3) (.d (.int .i64 1))) j88.2.2 fun r89 =>
 some (.normal, [(gv j88 0), (gv j88 1), (gv j88 2), r89.1], r89.2))]))
 (some (.exit 0, [(v47.getD 2 .junk)], r52.2))
set_option maxRecDepth 100000 in
noncomputable def s11 (call : ACall) (lim : Nat) (a0 a1 : AV) (H : Heap) : Option Res :=
 bi (bx a0 H) fun r1 =>
 pu (abin Tryd.prog .lss 3 a1 (.d (.int .i64 0))) r1.2 fun r2 =>
 gd (yv r2.1) false (some (a1, r2.2)) r2.2 fun r3 =>
 gd (yv r2.1) false (pm (fa 2 r1.1) r3.2) r3.2 fun r4 =>
 gd (yv r2.1) false (pm (ld r4.2 r4.1) r4.2) r4.2 fun r5 =>
 gd (yv r2.1) false (pm (lnS r5.1) r5.2) r5.2 fun r6 =>
 gd (yv r2.1) false (pm (abin Tryd.prog .geq 3 r3.1 r6.1) r6.2) r6.2 fun r7 =>
 bi (pk r2.1 (.d (.bool true)) r7.1 r7.2) fun r8 =>
 cn (asB r8.1)
 (rt (.d (.int .i64 4)) r8.2)
 (pu (fa 2 r1.1) r8.2 fun r9 =>
 pu (ld r9.2 r9.1) r9.2 fun r10 =>
 pu (ixS 6 r10.1 a1) r10.2 fun r11 =>
 pu (ldA 6 r11.2 r11.1) r11.2 fun r12 =>
 bi (al [.d (.str ⟨#[]⟩), .d (.bool false), .d (.int .i64 0), .d (.int .i64 0), .d (.seq true 0 []), .d (.seq true 0 [])] r12.2) fun r13 =>
 bi (stA 6 lim r13.2 r13.1 r12.1) fun r14 =>
 pu (fa 2 r13.1) r14.2 fun r15 =>
 pu (ld r15.2 r15.1) r15.2 fun r16 =>
 pu (abin Tryd.prog .lss 3 r16.1 (.d (.int .i64 0))) r16.2 fun r17 =>
 gd (yv r17.1) false (pm (fa 2 r13.1) r17.2) r17.2 fun r18 =>
 gd (yv r17.1) false (pm (ld r18.2 r18.1) r18.2) r18.2 fun r19 =>
 gd (yv r17.1) false (pm (abin Tryd.prog .gtr 3 r19.1 (.d (.int .i64 6))) r19.2) r19.2 fun r20 =>
 bi (pk r17.1 (.d (.bool true)) r20.1 r20.2) fun r21 =>
 gd (yv r21.1) false (pm (fa 3 r13.1) r21.2) r21.2 fun r22 =>
 gd (yv r21.1) false (pm (ld r22.2 r22.1) r22.2) r22.2 fun r23 =>
 gd (yv r21.1) false (pm (fa 2 r13.1) r23.2) r23.2 fun r24 =>
 gd (yv r21.1) false (pm (ld r24.2 r24.1) r24.2) r24.2 fun r25 =>
 gd (yv r21.1) false (pm (abin Tryd.prog .lss 3 r23.1 r25.1) r25.2) r25.2 fun r26 =>
 bi (pk r21.1 (.d (.bool true)) r26.1 r26.2) fun r27 =>
 gd (yv r27.1) false (pm (fa 3 r13.1) r27.2) r27.2 fun r28 =>
 gd (yv r27.1) false (pm (ld r28.2 r28.1) r28.2) r28.2 fun r29 =>
 gd (yv r27.1) false (pm (abin Tryd.prog .gtr 3 r29.1 (.d (.int .i64 8000))) r29.2) r29.2 fun r30 =>
 bi (pk r27.1 (.d (.bool true)) r30.1 r30.2) fun r31 =>
 gd (yv r31.1) false (pm (fa 4 r13.1) r31.2) r31.2 fun r32 =>
 gd (yv r31.1) false (pm (ld r32.2 r32.1) r32.2) r32.2 fun r33 =>
 gd (yv r31.1) false (call 25 [r33.1, .d (.int .i64 400)] r33.2) r33.2 fun r34 =>
 gd (yv r31.1) false (pm (aun .not r34.1) r34.2) r34.2 fun r35 =>
 bi (pk r31.1 (.d (.bool true)) r35.1 r35.2) fun r36 =>
 gd (yv r36.1) false (pm (fa 5 r13.1) r36.2) r36.2 fun r37 =>
 gd (yv r36.1) false (pm (ld r37.2 r37.1) r37.2) r37.2 fun r38 =>
 gd (yv r36.1) false (pm (lnS r38.1) r38.2) r38.2 fun r39 =>
 gd (yv r36.1) false (pm (abin Tryd.prog .lss 3 r39.1 (.d (.int .i64 1))) r39.2) r39.2 fun r40 =>
 bi (pk r36.1 (.d (.bool true)) r40.1 r40.2) fun r41 =>
 gd (yv r41.1) false (pm (fa 5 r13.1) r41.2) r41.2 fun r42 =>
 gd (yv r41.1) false (pm (ld r42.2 r42.1) r42.2) r42.2 fun r43 =>
 gd (yv r41.1) false (pm (lnS r43.1) r43.2) r43.2 fun r44 =>
 gd (yv r41.1) false (pm (abin Tryd.prog .gtr 3 r44.1 (.d (.int .i64 4000))) r44.2) r44.2 fun r45 =>
 bi (pk r41.1 (.d (.bool true)) r45.1 r45.2) fun r46 =>
 cn (asB r46.1)
 (rt (.d (.int .i64 3)) r46.2)
 (lp (s11.l1 call lim) [r1.1, r13.1, .d (.int .i64 0), .d (.int .i64 0)] r46.2 fun j90 =>
 dsp j90.1 none (rt (gv j90 0) j90.2.2) [(0, pu (abin Tryd.prog .gtr 3 (gv j90 0) (.d (.int .i64 20000))) j90.2.2 fun r91 =>
 cn (asB r91.1)
 (rt (.d (.int .i64 3)) r91.2)
 (rt (.d (.int .i64 0)) r91.2))]))

/-! #### rushlight/rushlightref13.Check -/
noncomputable def fi9 : FI := ⟨91, 0, [.tmp 2], (.seq (rgn Tryd.f9.body 0) (.seq (.seq (rgn Tryd.f9.body 1) (.cond (.tmp 42) (.seq (rgn Tryd.f9.body 2) .ret) .skip)) (.seq (.seq (rgn Tryd.f9.body 3) (.block 0 (.loop ⟨[1, 3], some [2], [(0, [1])]⟩ (.seq (.seq (rgn Tryd.f9.body 4) (.cond (.tmp 47) .skip (.exit 0))) (.seq (.block 1 (.seq (rgn Tryd.f9.body 6) (.cond (.tmp 62) (.seq (rgn Tryd.f9.body 7) .ret) .skip))) (rgn Tryd.f9.body 5)))))) (.seq (.seq (rgn Tryd.f9.body 8) (.cond (.tmp 79) (.seq (rgn Tryd.f9.body 9) .ret) .skip)) (.seq (.seq (rgn Tryd.f9.body 10) (.block 2 (.loop ⟨[1, 4], some [2], [(2, [])]⟩ (.seq (.seq (rgn Tryd.f9.body 11) (.cond (.tmp 84) .skip (.exit 2))) (.seq (.block 3 (.seq (rgn Tryd.f9.body 13) (.cond (.tmp 90) (.seq (rgn Tryd.f9.body 14) .ret) .skip))) (rgn Tryd.f9.body 12)))))) (.seq (rgn Tryd.f9.body 15) .ret))))))⟩
theorem fits9 : Fits Tryd.prog 9 fi9 Tryd.f9 := ⟨by kernel_rfl, by kernel_rfl, by kernel_rfl, by kernel_rfl, by kernel_rfl⟩
set_option maxRecDepth 100000 in
/-- A round: what is kept: [1, 3]. -/
noncomputable def s9.l0 (call : ACall) (lim : Nat) (v35 : List AV) (h36 : Heap) : Option Res :=
 pu (fa 1 (v35.getD 0 .junk)) h36 fun r37 =>
 pu (ld r37.2 r37.1) r37.2 fun r38 =>
 pu (lnS r38.1) r38.2 fun r39 =>
 pu (abin Tryd.prog .lss 3 (v35.getD 1 .junk) r39.1) r39.2 fun r40 =>
 cn (asB r40.1)
 (pu (fa 1 (v35.getD 0 .junk)) r40.2 fun r41 =>
 pu (ld r41.2 r41.1) r41.2 fun r42 =>
 pu (ixS 1 r42.1 (v35.getD 1 .junk)) r42.2 fun r43 =>
 pu (ld r43.2 r43.1) r43.2 fun r44 =>
 pu (lnS r44.1) r44.2 fun r45 =>
 pu (fa 0 (v35.getD 0 .junk)) r45.2 fun r46 =>
 pu (ld r46.2 r46.1) r46.2 fun r47 =>
 pu (ixS 4 r47.1 (v35.getD 1 .junk)) r47.2 fun r48 =>
 pu (fa 1 r48.1) r48.2 fun r49 =>
 pu (ld r49.2 r49.1) r49.2 fun r50 =>
 pu (abin Tryd.prog .neq 3 r45.1 r50.1) r50.2 fun r51 =>
 cn (asB r51.1)
 (some (.ret, [.d (.int .i64 3)], r51.2))
 (pu (abin Tryd.prog .add 3 (v35.getD 1 .junk) (.d (.int .i64 1))) r51.2 fun r52 =>
 some (.normal, [(v35.getD 0 .junk), r52.1], r52.2)))
 (some (.exit 0, [(v35.getD 0 .junk)], r40.2))
set_option maxRecDepth 100000 in
/-- A round: what is kept: [1, 4]. -/
noncomputable def s9.l1 (call : ACall) (lim : Nat) (v70 : List AV) (h71 : Heap) : Option Res :=
 pu (fa 2 (v70.getD 0 .junk)) h71 fun r72 =>
 pu (ld r72.2 r72.1) r72.2 fun r73 =>
 pu (lnS r73.1) r73.2 fun r74 =>
 pu (abin Tryd.prog .lss 3 (v70.getD 1 .junk) r74.1) r74.2 fun r75 =>
 cn (asB r75.1)
 (pu (ldA 4 r75.2 (v70.getD 0 .junk)) r75.2 fun r76 =>
 bi (call 11 [r76.1, (v70.getD 1 .junk)] r76.2) fun r77 =>
 pu (abin Tryd.prog .neq 3 r77.1 (.d (.int .i64 0))) r77.2 fun r78 =>
 cn (asB r78.1)
 (some (.ret, [.d (.int .i64 3)], r78.2))
 (pu (abin Tryd.prog .add 3 (v70.getD 1 .junk) (.d (.int .i64 1))) r78.2 fun r79 =>
 some (.normal, [(v70.getD 0 .junk), r79.1], r79.2)))
 (some (.exit 2, [], r75.2))
set_option maxRecDepth 100000 in
noncomputable def s9 (call : ACall) (lim : Nat) (a0 : AV) (H : Heap) : Option Res :=
 bi (bx a0 H) fun r1 =>
 pu (fa 1 r1.1) r1.2 fun r2 =>
 pu (ld r2.2 r2.1) r2.2 fun r3 =>
 pu (lnS r3.1) r3.2 fun r4 =>
 pu (fa 0 r1.1) r4.2 fun r5 =>
 pu (ld r5.2 r5.1) r5.2 fun r6 =>
 pu (lnS r6.1) r6.2 fun r7 =>
 pu (abin Tryd.prog .neq 3 r4.1 r7.1) r7.2 fun r8 =>
 gd (yv r8.1) false (pm (fa 0 r1.1) r8.2) r8.2 fun r9 =>
 gd (yv r8.1) false (pm (ld r9.2 r9.1) r9.2) r9.2 fun r10 =>
 gd (yv r8.1) false (call 25 [r10.1, .d (.int .i64 200)] r10.2) r10.2 fun r11 =>
 gd (yv r8.1) false (pm (aun .not r11.1) r11.2) r11.2 fun r12 =>
 bi (pk r8.1 (.d (.bool true)) r12.1 r12.2) fun r13 =>
 gd (yv r13.1) false (pm (fa 2 r1.1) r13.2) r13.2 fun r14 =>
 gd (yv r13.1) false (pm (ld r14.2 r14.1) r14.2) r14.2 fun r15 =>
 gd (yv r13.1) false (pm (lnS r15.1) r15.2) r15.2 fun r16 =>
 gd (yv r13.1) false (pm (abin Tryd.prog .lss 3 r16.1 (.d (.int .i64 1))) r16.2) r16.2 fun r17 =>
 bi (pk r13.1 (.d (.bool true)) r17.1 r17.2) fun r18 =>
 gd (yv r18.1) false (pm (fa 2 r1.1) r18.2) r18.2 fun r19 =>
 gd (yv r18.1) false (pm (ld r19.2 r19.1) r19.2) r19.2 fun r20 =>
 gd (yv r18.1) false (pm (lnS r20.1) r20.2) r20.2 fun r21 =>
 gd (yv r18.1) false (pm (abin Tryd.prog .gtr 3 r21.1 (.d (.int .i64 200))) r21.2) r21.2 fun r22 =>
 bi (pk r18.1 (.d (.bool true)) r22.1 r22.2) fun r23 =>
 gd (yv r23.1) false (pm (fa 3 r1.1) r23.2) r23.2 fun r24 =>
 gd (yv r23.1) false (pm (ld r24.2 r24.1) r24.2) r24.2 fun r25 =>
 gd (yv r23.1) false (pm (abin Tryd.prog .lss 3 r25.1 (.d (.int .i64 0))) r25.2) r25.2 fun r26 =>
 bi (pk r23.1 (.d (.bool true)) r26.1 r26.2) fun r27 =>
 gd (yv r27.1) false (pm (fa 3 r1.1) r27.2) r27.2 fun r28 =>
 gd (yv r27.1) false (pm (ld r28.2 r28.1) r28.2) r28.2 fun r29 =>
 gd (yv r27.1) false (pm (fa 2 r1.1) r29.2) r29.2 fun r30 =>
 gd (yv r27.1) false (pm (ld r30.2 r30.1) r30.2) r30.2 fun r31 =>
 gd (yv r27.1) false (pm (lnS r31.1) r31.2) r31.2 fun r32 =>
 gd (yv r27.1) false (pm (abin Tryd.prog .geq 3 r29.1 r32.1) r32.2) r32.2 fun r33 =>
 bi (pk r27.1 (.d (.bool true)) r33.1 r33.2) fun r34 =>
 cn (asB r34.1)
 (rt (.d (.int .i64 3)) r34.2)
 (lp (s9.l0 call lim) [r1.1, .d (.int .i64 0)] r34.2 fun j53 =>
 dsp j53.1 none (rt (gv j53 0) j53.2.2) [(0, pu (fa 2 (gv j53 0)) j53.2.2 fun r54 =>
 pu (ld r54.2 r54.1) r54.2 fun r55 =>
 pu (fa 3 (gv j53 0)) r55.2 fun r56 =>
 pu (ld r56.2 r56.1) r56.2 fun r57 =>
 pu (ixS 6 r55.1 r57.1) r57.2 fun r58 =>
 pu (fa 2 r58.1) r58.2 fun r59 =>
 pu (ld r59.2 r59.1) r59.2 fun r60 =>
 pu (abin Tryd.prog .neq 3 r60.1 (.d (.int .i64 0))) r60.2 fun r61 =>
 gd (yv r61.1) false (pm (fa 2 (gv j53 0)) r61.2) r61.2 fun r62 =>
 gd (yv r61.1) false (pm (ld r62.2 r62.1) r62.2) r62.2 fun r63 =>
 gd (yv r61.1) false (pm (fa 3 (gv j53 0)) r63.2) r63.2 fun r64 =>
 gd (yv r61.1) false (pm (ld r64.2 r64.1) r64.2) r64.2 fun r65 =>
 gd (yv r61.1) false (pm (ixS 6 r63.1 r65.1) r65.2) r65.2 fun r66 =>
 gd (yv r61.1) false (pm (fa 1 r66.1) r66.2) r66.2 fun r67 =>
 gd (yv r61.1) false (pm (ld r67.2 r67.1) r67.2) r67.2 fun r68 =>
 bi (pk r61.1 (.d (.bool true)) r68.1 r68.2) fun r69 =>
 cn (asB r69.1)
 (rt (.d (.int .i64 3)) r69.2)
 (lp (s9.l1 call lim) [(gv j53 0), .d (.int .i64 0)] r69.2 fun j80 =>
 dsp j80.1 none (rt (gv j80 0) j80.2.2) [(2, rt (.d (.int .i64 0)) j80.2.2)]))])

/-! #### rushlight/rushlightlaw13.IrChecks -/
noncomputable def fi3 : FI := ⟨26, 0, [.tmp 4], (.seq (rgn Tryd.f3.body 0) (.seq (.seq (rgn Tryd.f3.body 1) (.cond (.tmp 7) (.seq (rgn Tryd.f3.body 2) .ret) .skip)) (.seq (rgn Tryd.f3.body 3) .ret)))⟩
theorem fits3 : Fits Tryd.prog 3 fi3 Tryd.f3 := ⟨by kernel_rfl, by kernel_rfl, by kernel_rfl, by kernel_rfl, by kernel_rfl⟩
set_option maxRecDepth 100000 in
noncomputable def s3 (call : ACall) (lim : Nat) (a0 a1 : AV) (H : Heap) : Option Res :=
 bi (bx a0 H) fun r1 =>
 pu (ldA 4 r1.2 r1.1) r1.2 fun r2 =>
 bi (call 6 [r2.1] r2.2) fun r3 =>
 pu (aun .not r3.1) r3.2 fun r4 =>
 cn (asB r4.1)
 (bi (call 7 [] r4.2) fun r5 =>
 rt r5.1 r5.2)
 (bi (call 7 [] r4.2) fun r6 =>
 gd (yv r6.1) true (pm (ldA 4 r6.2 r1.1) r6.2) r6.2 fun r7 =>
 gd (yv r6.1) true (call 8 [r7.1] r7.2) r7.2 fun r8 =>
 gd (yv r6.1) true (pm (ldA 4 r8.2 r1.1) r8.2) r8.2 fun r9 =>
 gd (yv r6.1) true (call 9 [r9.1] r9.2) r9.2 fun r10 =>
 gd (yv r6.1) true (pm (abin Tryd.prog .eql 3 r8.1 r10.1) r10.2) r10.2 fun r11 =>
 bi (pk r6.1 r11.1 (.d (.bool false)) r11.2) fun r12 =>
 gd (yv r12.1) true (pm (ldA 4 r12.2 r1.1) r12.2) r12.2 fun r13 =>
 gd (yv r12.1) true (some (a1, r13.2)) r13.2 fun r14 =>
 gd (yv r12.1) true (call 10 [r13.1, r14.1] r14.2) r14.2 fun r15 =>
 gd (yv r12.1) true (pm (ldA 4 r15.2 r1.1) r15.2) r15.2 fun r16 =>
 gd (yv r12.1) true (some (a1, r16.2)) r16.2 fun r17 =>
 gd (yv r12.1) true (call 11 [r16.1, r17.1] r17.2) r17.2 fun r18 =>
 gd (yv r12.1) true (pm (abin Tryd.prog .eql 3 r15.1 r18.1) r18.2) r18.2 fun r19 =>
 bi (pk r12.1 r19.1 (.d (.bool false)) r19.2) fun r20 =>
 rt r20.1 r20.2)

/-! #### rushlight/rushlightref06.Num -/
noncomputable def fi33 : FI := ⟨35, 0, [.tmp 2], (.seq (rgn Tryd.f33.body 0) (.seq (.seq (rgn Tryd.f33.body 1) (.cond (.tmp 7) (.seq (rgn Tryd.f33.body 2) .ret) .skip)) (.seq (rgn Tryd.f33.body 3) (.seq (rgn Tryd.f33.body 4) (.seq (.seq (rgn Tryd.f33.body 5) (.block 0 (.loop ⟨[3, 4, 5], none, [(0, [4])]⟩ (.seq (.seq (rgn Tryd.f33.body 6) (.cond (.tmp 22) .skip (.exit 0))) (.seq (.block 1 (rgn Tryd.f33.body 8)) (rgn Tryd.f33.body 7)))))) (.seq (rgn Tryd.f33.body 9) .ret))))))⟩
theorem fits33 : Fits Tryd.prog 33 fi33 Tryd.f33 := ⟨by kernel_rfl, by kernel_rfl, by kernel_rfl, by kernel_rfl, by kernel_rfl⟩
set_option maxRecDepth 100000 in
/-- A round: what is kept: [3, 4, 5]. -/
noncomputable def s33.l0 (call : ACall) (lim : Nat) (v10 : List AV) (h11 : Heap) : Option Res :=
 pu (abin Tryd.prog .gtr 3 (v10.getD 2 .junk) (.d (.int .i64 0))) h11 fun r12 =>
 cn (asB r12.1)
 (pu (abin Tryd.prog .rem 3 (v10.getD 2 .junk) (.d (.int .i64 10))) r12.2 fun r13 =>
 pu (abin Tryd.prog .rem 3 (v10.getD 2 .junk) (.d (.int .i64 10))) r13.2 fun r14 =>
 pu (abin Tryd.prog .add 3 r14.1 (.d (.int .i64 1))) r14.2 fun r15 =>
 pu (slStr (v10.getD 0 .junk) (some r13.1) (some r15.1)) r15.2 fun r16 =>
 pu (abin Tryd.prog .add 9 r16.1 (v10.getD 1 .junk)) r16.2 fun r17 =>
 pu (abin Tryd.prog .quo 3 (v10.getD 2 .junk) (.d (.int .i64 10))) r17.2 fun r18 =>
 some (.normal, [(v10.getD 0 .junk), r17.1, r18.1], r18.2))
 (some (.exit 0, [(v10.getD 1 .junk)], r12.2))
set_option maxRecDepth 100000 in
noncomputable def s33 (call : ACall) (lim : Nat) (a0 : AV) (H : Heap) : Option Res :=
 pu (abin Tryd.prog .lss 3 a0 (.d (.int .i64 0))) H fun r1 =>
 cn (asB r1.1)
 (pu (aun .neg a0) r1.2 fun r2 =>
 bi (call 33 [r2.1] r2.2) fun r3 =>
 pu (abin Tryd.prog .add 9 (.d (.str ⟨#[45]⟩)) r3.1) r3.2 fun r4 =>
 rt r4.1 r4.2)
 (pu (abin Tryd.prog .rem 3 a0 (.d (.int .i64 10))) r1.2 fun r5 =>
 pu (abin Tryd.prog .rem 3 a0 (.d (.int .i64 10))) r5.2 fun r6 =>
 pu (abin Tryd.prog .add 3 r6.1 (.d (.int .i64 1))) r6.2 fun r7 =>
 pu (slStr (.d (.str ⟨#[48, 49, 50, 51, 52, 53, 54, 55, 56, 57]⟩)) (some r5.1) (some r7.1)) r7.2 fun r8 =>
 pu (abin Tryd.prog .quo 3 a0 (.d (.int .i64 10))) r8.2 fun r9 =>
 lp (s33.l0 call lim) [.d (.str ⟨#[48, 49, 50, 51, 52, 53, 54, 55, 56, 57]⟩), r8.1, r9.1] r9.2 fun j19 =>
 dsp j19.1 none none [(0, rt (gv j19 0) j19.2.2)])

/-! #### rushlight/rushlightref13.num -/
noncomputable def fi34 : FI := ⟨6, 0, [.tmp 2], (.seq (rgn Tryd.f34.body 0) (.seq (rgn Tryd.f34.body 1) .ret))⟩
theorem fits34 : Fits Tryd.prog 34 fi34 Tryd.f34 := ⟨by kernel_rfl, by kernel_rfl, by kernel_rfl, by kernel_rfl, by kernel_rfl⟩
set_option maxRecDepth 100000 in
noncomputable def s34 (call : ACall) (lim : Nat) (a0 : AV) (H : Heap) : Option Res :=
 bi (call 33 [a0] H) fun r1 =>
 pu (abin Tryd.prog .add 9 (.d (.str ⟨#[32]⟩)) r1.1) r1.2 fun r2 =>
 rt r2.1 r2.2

/-! #### rushlight/rushlightref13.Text -/
noncomputable def fi14 : FI := ⟨118, 0, [.tmp 2], (.seq (rgn Tryd.f14.body 0) (.seq (rgn Tryd.f14.body 1) (.seq (.seq (rgn Tryd.f14.body 2) (.block 0 (.loop ⟨[1, 3, 4], none, [(0, [3])]⟩ (.seq (.seq (rgn Tryd.f14.body 3) (.cond (.tmp 13) .skip (.exit 0))) (.seq (.block 1 (.seq (rgn Tryd.f14.body 5) (.seq (rgn Tryd.f14.body 6) (.seq (.seq (rgn Tryd.f14.body 7) (.block 2 (.loop ⟨[1, 3, 4, 5, 6], none, [(2, [1, 3, 4, 5])]⟩ (.seq (.seq (rgn Tryd.f14.body 8) (.cond (.tmp 31) .skip (.exit 2))) (.seq (.block 3 (.seq (rgn Tryd.f14.body 10) (.seq (rgn Tryd.f14.body 11) (.seq (.seq (rgn Tryd.f14.body 12) (.block 4 (.loop ⟨[1, 3, 4, 5, 6, 7, 8], none, [(4, [1, 3, 4, 5, 6, 7])]⟩ (.seq (.seq (rgn Tryd.f14.body 13) (.cond (.tmp 81) .skip (.exit 4))) (.seq (.block 5 (rgn Tryd.f14.body 15)) (rgn Tryd.f14.body 14)))))) (.cut ⟨[1, 3, 4, 5, 6], none, []⟩ (.seq (rgn Tryd.f14.body 16) (.cond (.tmp 93) (rgn Tryd.f14.body 17) .skip)) (rgn Tryd.f14.body 18)))))) (rgn Tryd.f14.body 9)))))) (rgn Tryd.f14.body 19))))) (rgn Tryd.f14.body 4)))))) (.seq (rgn Tryd.f14.body 20) .ret))))⟩
theorem fits14 : Fits Tryd.prog 14 fi14 Tryd.f14 := ⟨by kernel_rfl, by kernel_rfl, by kernel_rfl, by kernel_rfl, by kernel_rfl⟩
set_option maxRecDepth 100000 in
/-- A round: what is kept: [1, 3, 4, 5, 6, 7, 8]. -/
noncomputable def s14.l0 (call : ACall) (lim : Nat) (v67 : List AV) (h68 : Heap) : Option Res :=
 pu (fa 9 (v67.getD 5 .junk)) h68 fun r69 =>
 pu (ld r69.2 r69.1) r69.2 fun r70 =>
 pu (lnS r70.1) r70.2 fun r71 =>
 pu (abin Tryd.prog .lss 3 (v67.getD 6 .junk) r71.1) r71.2 fun r72 =>
 cn (asB r72.1)
 (pu (fa 9 (v67.getD 5 .junk)) r72.2 fun r73 =>
 pu (ld r73.2 r73.1) r73.2 fun r74 =>
 pu (ixS 1 r74.1 (v67.getD 6 .junk)) r74.2 fun r75 =>
 pu (ld r75.2 r75.1) r75.2 fun r76 =>
 bi (call 34 [r76.1] r76.2) fun r77 =>
 pu (abin Tryd.prog .add 9 (v67.getD 1 .junk) r77.1) r77.2 fun r78 =>
 pu (abin Tryd.prog .add 3 (v67.getD 6 .junk) (.d (.int .i64 1))) r78.2 fun r79 =>
 some (.normal, [(v67.getD 0 .junk), r78.1, (v67.getD 2 .junk), (v67.getD 3 .junk), (v67.getD 4 .junk), (v67.getD 5 .junk), r79.1], r79.2))
 (some (.exit 4, [(v67.getD 0 .junk), (v67.getD 1 .junk), (v67.getD 2 .junk), (v67.getD 3 .junk), (v67.getD 4 .junk), (v67.getD 5 .junk)], r72.2))
set_option maxRecDepth 100000 in
/-- A round: what is kept: [1, 3, 4, 5, 6]. -/
noncomputable def s14.l1 (call : ACall) (lim : Nat) (v18 : List AV) (h19 : Heap) : Option Res :=
 pu (fa 0 (v18.getD 3 .junk)) h19 fun r20 =>
 pu (ld r20.2 r20.1) r20.2 fun r21 =>
 pu (lnS r21.1) r21.2 fun r22 =>
 pu (abin Tryd.prog .lss 3 (v18.getD 4 .junk) r22.1) r22.2 fun r23 =>
 cn (asB r23.1)
 (pu (fa 0 (v18.getD 3 .junk)) r23.2 fun r24 =>
 pu (ld r24.2 r24.1) r24.2 fun r25 =>
 pu (ixS 11 r25.1 (v18.getD 4 .junk)) r25.2 fun r26 =>
 pu (ldA 11 r26.2 r26.1) r26.2 fun r27 =>
 bi (al [.d (.int .i64 0), .d (.int .i64 0), .d (.int .i64 0), .d (.int .i64 0), .d (.int .i64 0), .d (.int .i64 0), .d (.int .i64 0), .d (.int .i64 0), .d (.int .u32 0), .d (.seq true 0 []), .d (.bool false)] r27.2) fun r28 =>
 bi (stA 11 lim r28.2 r28.1 r27.1) fun r29 =>
 pu (fa 0 r28.1) r29.2 fun r30 =>
 pu (ld r30.2 r30.1) r30.2 fun r31 =>
 bi (call 34 [r31.1] r31.2) fun r32 =>
 pu (abin Tryd.prog .add 9 (v18.getD 1 .junk) r32.1) r32.2 fun r33 =>
 pu (fa 1 r28.1) r33.2 fun r34 =>
 pu (ld r34.2 r34.1) r34.2 fun r35 =>
 bi (call 34 [r35.1] r35.2) fun r36 =>
 pu (abin Tryd.prog .add 9 r33.1 r36.1) r36.2 fun r37 =>
 pu (fa 2 r28.1) r37.2 fun r38 =>
 pu (ld r38.2 r38.1) r38.2 fun r39 =>
 bi (call 34 [r39.1] r39.2) fun r40 =>
 pu (abin Tryd.prog .add 9 r37.1 r40.1) r40.2 fun r41 =>
 pu (fa 3 r28.1) r41.2 fun r42 =>
 pu (ld r42.2 r42.1) r42.2 fun r43 =>
 bi (call 34 [r43.1] r43.2) fun r44 =>
 pu (abin Tryd.prog .add 9 r41.1 r44.1) r44.2 fun r45 =>
 pu (fa 4 r28.1) r45.2 fun r46 =>
 pu (ld r46.2 r46.1) r46.2 fun r47 =>
 bi (call 34 [r47.1] r47.2) fun r48 =>
 pu (abin Tryd.prog .add 9 r45.1 r48.1) r48.2 fun r49 =>
 pu (fa 5 r28.1) r49.2 fun r50 =>
 pu (ld r50.2 r50.1) r50.2 fun r51 =>
 bi (call 34 [r51.1] r51.2) fun r52 =>
 pu (abin Tryd.prog .add 9 r49.1 r52.1) r52.2 fun r53 =>
 pu (fa 6 r28.1) r53.2 fun r54 =>
 pu (ld r54.2 r54.1) r54.2 fun r55 =>
 bi (call 34 [r55.1] r55.2) fun r56 =>
 pu (abin Tryd.prog .add 9 r53.1 r56.1) r56.2 fun r57 =>
 pu (fa 7 r28.1) r57.2 fun r58 =>
 pu (ld r58.2 r58.1) r58.2 fun r59 =>
 bi (call 34 [r59.1] r59.2) fun r60 =>
 pu (abin Tryd.prog .add 9 r57.1 r60.1) r60.2 fun r61 =>
 pu (fa 8 r28.1) r61.2 fun r62 =>
 pu (ld r62.2 r62.1) r62.2 fun r63 =>
 pu (cvI .i64 r63.1) r63.2 fun r64 =>
 bi (call 34 [r64.1] r64.2) fun r65 =>
 pu (abin Tryd.prog .add 9 r61.1 r65.1) r65.2 fun r66 =>
 lp (s14.l0 call lim) [(v18.getD 0 .junk), r66.1, (v18.getD 2 .junk), (v18.getD 3 .junk), (v18.getD 4 .junk), r28.1, .d (.int .i64 0)] r66.2 fun j80 =>
 dsp j80.1 none none [(4, jn
 (pu (fa 10 (gv j80 5)) j80.2.2 fun r81 =>
 pu (ld r81.2 r81.1) r81.2 fun r82 =>
 cn (asB r82.1)
 (pu (abin Tryd.prog .add 9 (gv j80 1) (.d (.str ⟨#[32, 108, 111, 103]⟩))) r82.2 fun r83 =>
 some (.normal, [(gv j80 0), r83.1, (gv j80 2), (gv j80 3), (gv j80 4)], r83.2))
 (some (.normal, [(gv j80 0), (gv j80 1), (gv j80 2), (gv j80 3), (gv j80 4)], r82.2))) fun j84 =>
 dsp j84.1 (pu (abin Tryd.prog .add 9 (gv j84 1) (.d (.str ⟨#[10]⟩))) j84.2.2 fun r85 =>
 pu (abin Tryd.prog .add 3 (gv j84 4) (.d (.int .i64 1))) r85.2 fun r86 =>
 some (.normal, [(gv j84 0), r85.1, (gv j84 2), (gv j84 3), r86.1], r86.2)) none [])])
 (some (.exit 2, [(v18.getD 0 .junk), (v18.getD 1 .junk), (v18.getD 2 .junk), (v18.getD 3 .junk)], r23.2))
set_option maxRecDepth 100000 in
/-- A round: what is kept: [1, 3, 4]. -/
noncomputable def s14.l2 (call : ACall) (lim : Nat) (v2 : List AV) (h3 : Heap) : Option Res :=
 pu (fa 5 (v2.getD 0 .junk)) h3 fun r4 =>
 pu (ld r4.2 r4.1) r4.2 fun r5 =>
 pu (lnS r5.1) r5.2 fun r6 =>
 pu (abin Tryd.prog .lss 3 (v2.getD 2 .junk) r6.1) r6.2 fun r7 =>
 cn (asB r7.1)
 (pu (fa 5 (v2.getD 0 .junk)) r7.2 fun r8 =>
 pu (ld r8.2 r8.1) r8.2 fun r9 =>
 pu (ixS 5 r9.1 (v2.getD 2 .junk)) r9.2 fun r10 =>
 pu (ldA 5 r10.2 r10.1) r10.2 fun r11 =>
 bi (al [.d (.seq true 0 []), .d (.int .i64 0), .d (.int .i64 0), .d (.int .i64 0), .d (.int .i64 0)] r11.2) fun r12 =>
 bi (stA 5 lim r12.2 r12.1 r11.1) fun r13 =>
 pu (abin Tryd.prog .add 9 (v2.getD 1 .junk) (.d (.str ⟨#[98]⟩))) r13.2 fun r14 =>
 bi (call 33 [(v2.getD 2 .junk)] r14.2) fun r15 =>
 pu (abin Tryd.prog .add 9 r14.1 r15.1) r15.2 fun r16 =>
 pu (abin Tryd.prog .add 9 r16.1 (.d (.str ⟨#[58, 10]⟩))) r16.2 fun r17 =>
 lp (s14.l1 call lim) [(v2.getD 0 .junk), r17.1, (v2.getD 2 .junk), r12.1, .d (.int .i64 0)] r17.2 fun j87 =>
 dsp j87.1 none none [(2, pu (abin Tryd.prog .add 9 (gv j87 1) (.d (.str ⟨#[32, 101, 110, 100]⟩))) j87.2.2 fun r88 =>
 pu (fa 1 (gv j87 3)) r88.2 fun r89 =>
 pu (ld r89.2 r89.1) r89.2 fun r90 =>
 bi (call 34 [r90.1] r90.2) fun r91 =>
 pu (abin Tryd.prog .add 9 r88.1 r91.1) r91.2 fun r92 =>
 pu (fa 2 (gv j87 3)) r92.2 fun r93 =>
 pu (ld r93.2 r93.1) r93.2 fun r94 =>
 bi (call 34 [r94.1] r94.2) fun r95 =>
 pu (abin Tryd.prog .add 9 r92.1 r95.1) r95.2 fun r96 =>
 pu (fa 3 (gv j87 3)) r96.2 fun r97 =>
 pu (ld r97.2 r97.1) r97.2 fun r98 =>
 bi (call 34 [r98.1] r98.2) fun r99 =>
 pu (abin Tryd.prog .add 9 r96.1 r99.1) r99.2 fun r100 =>
 pu (fa 4 (gv j87 3)) r100.2 fun r101 =>
 pu (ld r101.2 r101.1) r101.2 fun r102 =>
 bi (call 34 [r102.1] r102.2) fun r103 =>
 pu (abin Tryd.prog .add 9 r100.1 r103.1) r103.2 fun r104 =>
 pu (abin Tryd.prog .add 9 r104.1 (.d (.str ⟨#[10]⟩))) r104.2 fun r105 =>
 pu (abin Tryd.prog .add 3 (gv j87 2) (.d (.int .i64 1))) r105.2 fun r106 =>
 some (.normal, [(gv j87 0), r105.1, r106.1], r106.2))])
 (some (.exit 0, [(v2.getD 1 .junk)], r7.2))
set_option maxRecDepth 100000 in
noncomputable def s14 (call : ACall) (lim : Nat) (a0 : AV) (H : Heap) : Option Res :=
 bi (bx a0 H) fun r1 =>
 lp (s14.l2 call lim) [r1.1, .d (.str ⟨#[]⟩), .d (.int .i64 0)] r1.2 fun j107 =>
 dsp j107.1 none none [(0, rt (gv j107 0) j107.2.2)]

/-! #### rushlight/rushlightlaw13.IrTexts -/
noncomputable def fi4 : FI := ⟨56, 0, [.tmp 2], (.seq (rgn Tryd.f4.body 0) (.seq (.seq (rgn Tryd.f4.body 1) (.cond (.tmp 10) (.seq (rgn Tryd.f4.body 2) .ret) .skip)) (.seq (rgn Tryd.f4.body 3) (.seq (.seq (rgn Tryd.f4.body 4) (.block 0 (.loop ⟨[1, 3, 4], some [2], [(0, [1, 3])]⟩ (.seq (.seq (rgn Tryd.f4.body 5) (.cond (.tmp 16) .skip (.exit 0))) (.seq (.block 1 (.seq (rgn Tryd.f4.body 7) (.seq (.seq (rgn Tryd.f4.body 8) (.cond (.tmp 34) (.seq (rgn Tryd.f4.body 9) .ret) .skip)) (rgn Tryd.f4.body 10)))) (rgn Tryd.f4.body 6)))))) (.seq (rgn Tryd.f4.body 11) .ret)))))⟩
theorem fits4 : Fits Tryd.prog 4 fi4 Tryd.f4 := ⟨by kernel_rfl, by kernel_rfl, by kernel_rfl, by kernel_rfl, by kernel_rfl⟩
set_option maxRecDepth 100000 in
/-- A round: what is kept: [1, 3, 4]. -/
noncomputable def s4.l0 (call : ACall) (lim : Nat) (v8 : List AV) (h9 : Heap) : Option Res :=
 pu (fa 5 (v8.getD 0 .junk)) h9 fun r10 =>
 pu (ld r10.2 r10.1) r10.2 fun r11 =>
 pu (lnS r11.1) r11.2 fun r12 =>
 pu (abin Tryd.prog .lss 3 (v8.getD 2 .junk) r12.1) r12.2 fun r13 =>
 cn (asB r13.1)
 (pu (fa 5 (v8.getD 0 .junk)) r13.2 fun r14 =>
 pu (ld r14.2 r14.1) r14.2 fun r15 =>
 pu (ixS 5 r15.1 (v8.getD 2 .junk)) r15.2 fun r16 =>
 pu (ldA 5 r16.2 r16.1) r16.2 fun r17 =>
 bi (al [.d (.seq true 0 []), .d (.int .i64 0), .d (.int .i64 0), .d (.int .i64 0), .d (.int .i64 0)] r17.2) fun r18 =>
 bi (stA 5 lim r18.2 r18.1 r17.1) fun r19 =>
 pu (fa 1 r18.1) r19.2 fun r20 =>
 pu (ld r20.2 r20.1) r20.2 fun r21 =>
 pu (fa 2 r18.1) r21.2 fun r22 =>
 pu (ld r22.2 r22.1) r22.2 fun r23 =>
 pu (fa 3 r18.1) r23.2 fun r24 =>
 pu (ld r24.2 r24.1) r24.2 fun r25 =>
 pu (fa 4 r18.1) r25.2 fun r26 =>
 pu (ld r26.2 r26.1) r26.2 fun r27 =>
 pu (bld [(0, 1), (1, 1), (2, 1), (3, 1), (4, 1), (5, 1), (6, 1), (7, 1), (8, 1), (9, 1), (10, 1)] [.d (.int .i64 0), .d (.int .i64 0), .d (.int .i64 0), .d (.int .i64 0), .d (.int .i64 0), .d (.int .i64 0), .d (.int .i64 0), .d (.int .i64 0), .d (.int .u32 0), .d (.seq true 0 []), .d (.bool false)] [(0, r21.1), (2, r23.1), (5, r25.1), (6, r27.1)]) r27.2 fun r28 =>
 bi (call 12 [r28.1] r28.2) fun r29 =>
 pu (aun .not r29.1) r29.2 fun r30 =>
 cn (asB r30.1)
 (bi (call 7 [] r30.2) fun r31 =>
 some (.ret, [r31.1], r31.2))
 (pu (abin Tryd.prog .add 3 (v8.getD 1 .junk) (.d (.int .i64 1))) r30.2 fun r32 =>
 pu (fa 0 r18.1) r32.2 fun r33 =>
 pu (ld r33.2 r33.1) r33.2 fun r34 =>
 pu (lnS r34.1) r34.2 fun r35 =>
 pu (abin Tryd.prog .add 3 r32.1 r35.1) r35.2 fun r36 =>
 pu (abin Tryd.prog .add 3 (v8.getD 2 .junk) (.d (.int .i64 1))) r36.2 fun r37 =>
 some (.normal, [(v8.getD 0 .junk), r36.1, r37.1], r37.2)))
 (some (.exit 0, [(v8.getD 0 .junk), (v8.getD 1 .junk)], r13.2))
set_option maxRecDepth 100000 in
noncomputable def s4 (call : ACall) (lim : Nat) (a0 : AV) (H : Heap) : Option Res :=
 bi (bx a0 H) fun r1 =>
 pu (ldA 6 r1.2 r1.1) r1.2 fun r2 =>
 bi (bldS 6 1 [.d (.str ⟨#[]⟩), .d (.bool false), .d (.int .i64 0), .d (.int .i64 0), .d (.seq true 0 []), .d (.seq true 0 [])] [(0, r2.1)] r2.2) fun r3 =>
 pu (bld [(0, 1), (1, 1), (2, 1), (3, 1)] [.d (.seq true 0 []), .d (.seq true 0 []), .d (.seq true 0 []), .d (.int .i64 0)] [(2, r3.1)]) r3.2 fun r4 =>
 bi (call 6 [r4.1] r4.2) fun r5 =>
 pu (aun .not r5.1) r5.2 fun r6 =>
 cn (asB r6.1)
 (bi (call 7 [] r6.2) fun r7 =>
 rt r7.1 r7.2)
 (lp (s4.l0 call lim) [r1.1, .d (.int .i64 0), .d (.int .i64 0)] r6.2 fun j38 =>
 dsp j38.1 none (rt (gv j38 0) j38.2.2) [(0, bi (call 7 [] j38.2.2) fun r39 =>
 gd (yv r39.1) true (pm (ldA 6 r39.2 (gv j38 0)) r39.2) r39.2 fun r40 =>
 gd (yv r39.1) true (call 13 [r40.1] r40.2) r40.2 fun r41 =>
 gd (yv r39.1) true (pm (ldA 6 r41.2 (gv j38 0)) r41.2) r41.2 fun r42 =>
 gd (yv r39.1) true (call 14 [r42.1] r42.2) r42.2 fun r43 =>
 gd (yv r39.1) true (pm (abin Tryd.prog .eql 9 r41.1 r43.1) r43.2) r43.2 fun r44 =>
 bi (pk r39.1 r44.1 (.d (.bool false)) r44.2) fun r45 =>
 gd (yv r45.1) true (pm (ldA 6 r45.2 (gv j38 0)) r45.2) r45.2 fun r46 =>
 gd (yv r45.1) true (call 15 [r46.1] r46.2) r46.2 fun r47 =>
 gd (yv r45.1) true (some ((gv j38 1), r47.2)) r47.2 fun r48 =>
 gd (yv r45.1) true (pm (abin Tryd.prog .eql 3 r47.1 r48.1) r48.2) r48.2 fun r49 =>
 bi (pk r45.1 r49.1 (.d (.bool false)) r49.2) fun r50 =>
 rt r50.1 r50.2)])

/-! #### rushlight/rushlightref13.Def -/
noncomputable def fi17 : FI := ⟨18, 0, [.tmp 2], (.seq (rgn Tryd.f17.body 0) (.seq (rgn Tryd.f17.body 1) (.seq (.seq (rgn Tryd.f17.body 2) (.cond (.tmp 15) (.seq (rgn Tryd.f17.body 3) .ret) .skip)) (.seq (rgn Tryd.f17.body 4) .ret))))⟩
theorem fits17 : Fits Tryd.prog 17 fi17 Tryd.f17 := ⟨by kernel_rfl, by kernel_rfl, by kernel_rfl, by kernel_rfl, by kernel_rfl⟩
set_option maxRecDepth 100000 in
noncomputable def s17 (call : ACall) (lim : Nat) (a0 : AV) (H : Heap) : Option Res :=
 bi (bx a0 H) fun r1 =>
 pu (fa 0 r1.1) r1.2 fun r2 =>
 pu (ld r2.2 r2.1) r2.2 fun r3 =>
 bi (call 35 [r3.1] r3.2) fun r4 =>
 pu (lnS r4.1) r4.2 fun r5 =>
 pu (abin Tryd.prog .eql 3 r5.1 (.d (.int .i64 0))) r5.2 fun r6 =>
 gd (yv r6.1) false (some (r4.1, r6.2)) r6.2 fun r7 =>
 gd (yv r6.1) false (pm (ixS 1 r7.1 (.d (.int .i64 0))) r7.2) r7.2 fun r8 =>
 gd (yv r6.1) false (pm (ld r8.2 r8.1) r8.2) r8.2 fun r9 =>
 gd (yv r6.1) false (pm (aun .not r9.1) r9.2) r9.2 fun r10 =>
 bi (pk r6.1 (.d (.bool true)) r10.1 r10.2) fun r11 =>
 cn (asB r11.1)
 (rt (.d (.int .i64 (-1))) r11.2)
 (pu (fa 1 r1.1) r11.2 fun r12 =>
 pu (ld r12.2 r12.1) r12.2 fun r13 =>
 rt r13.1 r13.2)

/-! #### rushlight/ir.Uses -/
noncomputable def fi19 : FI := ⟨54, 0, [.tmp 2], (.seq (rgn Tryd.f19.body 0) (.seq (rgn Tryd.f19.body 1) (.seq (rgn Tryd.f19.body 2) (.cut ⟨[1, 3, 5], none, []⟩ (.seq (rgn Tryd.f19.body 3) (.cond (.tmp 19) (rgn Tryd.f19.body 4) .skip)) (.cut ⟨[1, 3], none, []⟩ (.seq (rgn Tryd.f19.body 5) (.cond (.tmp 30) (rgn Tryd.f19.body 6) .skip)) (.cut ⟨[3], none, []⟩ (.seq (rgn Tryd.f19.body 7) (.cond (.tmp 38) (.seq (rgn Tryd.f19.body 8) (.block 0 (.loop ⟨[3, 40, 41, 42], none, [(0, [3])]⟩ (.seq (rgn Tryd.f19.body 9) (.seq (.cond (.tmp 43) .skip (.exit 0)) (.cut ⟨[3, 40, 41, 42], none, []⟩ (.block 1 (.seq (rgn Tryd.f19.body 10) (.seq (rgn Tryd.f19.body 11) (.cond (.tmp 47) (rgn Tryd.f19.body 12) .skip)))) (rgn Tryd.f19.body 13))))))) .skip)) (.seq (rgn Tryd.f19.body 14) .ret)))))))⟩
theorem fits19 : Fits Tryd.prog 19 fi19 Tryd.f19 := ⟨by kernel_rfl, by kernel_rfl, by kernel_rfl, by kernel_rfl, by kernel_rfl⟩
set_option maxRecDepth 100000 in
/-- A round: what is kept: [3, 40, 41, 42]. -/
noncomputable def s19.l0 (call : ACall) (lim : Nat) (v31 : List AV) (h32 : Heap) : Option Res :=
 pu (abin Tryd.prog .lss 3 (v31.getD 3 .junk) (v31.getD 2 .junk)) h32 fun r33 =>
 cn (asB r33.1)
 (jn
 (pu (ixS 1 (v31.getD 1 .junk) (v31.getD 3 .junk)) r33.2 fun r34 =>
 pu (ld r34.2 r34.1) r34.2 fun r35 =>
 pu (abin Tryd.prog .neq 3 r35.1 (.d (.int .i64 (-1)))) r35.2 fun r36 =>
 cn (asB r36.1)
 (bi (bldS 1 1 [.d (.int .i64 0)] [(0, r35.1)] r36.2) fun r37 =>
 bi (app 1 8 lim r37.2 (v31.getD 0 .junk) (elS 1 r37.2 r37.1)) fun r38 =>
 some (.normal, [r38.1, (v31.getD 1 .junk), (v31.getD 2 .junk), (v31.getD 3 .junk)], r38.2))
 (some (.normal, [(v31.getD 0 .junk), (v31.getD 1 .junk), (v31.getD 2 .junk), (v31.getD 3 .junk)], r36.2))) fun j39 =>
 dsp j39.1 (pu (abin Tryd.prog .add 3 (gv j39 3) (.d (.int .i64 1))) j39.2.2 fun r40 =>
 some (.normal, [(gv j39 0), (gv j39 1), (gv j39 2), r40.1], r40.2)) none [])
 (some (.exit 0, [(v31.getD 0 .junk)], r33.2))
set_option maxRecDepth 100000 in
noncomputable def s19 (call : ACall) (lim : Nat) (a0 : AV) (H : Heap) : Option Res :=
 bi (bx a0 H) fun r1 =>
 pu (fa 0 r1.1) r1.2 fun r2 =>
 pu (ld r2.2 r2.1) r2.2 fun r3 =>
 bi (call 36 [r3.1] r3.2) fun r4 =>
 pu (aextract r4.1 0) r4.2 fun r5 =>
 pu (aextract r4.1 1) r5.2 fun r6 =>
 jn
 (gd (yv r5.1) true (pm (fa 2 r1.1) r6.2) r6.2 fun r7 =>
 gd (yv r5.1) true (pm (ld r7.2 r7.1) r7.2) r7.2 fun r8 =>
 gd (yv r5.1) true (pm (abin Tryd.prog .neq 3 r8.1 (.d (.int .i64 (-1)))) r8.2) r8.2 fun r9 =>
 bi (pk r5.1 r9.1 (.d (.bool false)) r9.2) fun r10 =>
 cn (asB r10.1)
 (pu (fa 2 r1.1) r10.2 fun r11 =>
 pu (ld r11.2 r11.1) r11.2 fun r12 =>
 bi (bldS 1 1 [.d (.int .i64 0)] [(0, r12.1)] r12.2) fun r13 =>
 bi (app 1 8 lim r13.2 (.d (.seq true 0 [])) (elS 1 r13.2 r13.1)) fun r14 =>
 some (.normal, [r1.1, r14.1, r6.1], r14.2))
 (some (.normal, [r1.1, .d (.seq true 0 []), r6.1], r10.2))) fun j15 =>
 dsp j15.1 (jn
 (gd (yv (gv j15 2)) true (pm (fa 3 (gv j15 0)) j15.2.2) j15.2.2 fun r16 =>
 gd (yv (gv j15 2)) true (pm (ld r16.2 r16.1) r16.2) r16.2 fun r17 =>
 gd (yv (gv j15 2)) true (pm (abin Tryd.prog .neq 3 r17.1 (.d (.int .i64 (-1)))) r17.2) r17.2 fun r18 =>
 bi (pk (gv j15 2) r18.1 (.d (.bool false)) r18.2) fun r19 =>
 cn (asB r19.1)
 (pu (fa 3 (gv j15 0)) r19.2 fun r20 =>
 pu (ld r20.2 r20.1) r20.2 fun r21 =>
 bi (bldS 1 1 [.d (.int .i64 0)] [(0, r21.1)] r21.2) fun r22 =>
 bi (app 1 8 lim r22.2 (gv j15 1) (elS 1 r22.2 r22.1)) fun r23 =>
 some (.normal, [(gv j15 0), r23.1], r23.2))
 (some (.normal, [(gv j15 0), (gv j15 1)], r19.2))) fun j24 =>
 dsp j24.1 (jn
 (pu (fa 0 (gv j24 0)) j24.2.2 fun r25 =>
 pu (ld r25.2 r25.1) r25.2 fun r26 =>
 pu (abin Tryd.prog .eql 3 r26.1 (.d (.int .i64 9))) r26.2 fun r27 =>
 cn (asB r27.1)
 (pu (fa 9 (gv j24 0)) r27.2 fun r28 =>
 pu (ld r28.2 r28.1) r28.2 fun r29 =>
 pu (lnS r29.1) r29.2 fun r30 =>
 lp (s19.l0 call lim) [(gv j24 1), r29.1, r30.1, .d (.int .i64 0)] r30.2 fun j41 =>
 dsp j41.1 none none [(0, some (.normal, [(gv j41 0)], j41.2.2))])
 (some (.normal, [(gv j24 1)], r27.2))) fun j42 =>
 dsp j42.1 (rt (gv j42 0) j42.2.2) none []) none []) none []

/-! #### rushlight/rushlightref13.Uses -/
noncomputable def fi20 : FI := ⟨77, 0, [.tmp 2], (.seq (rgn Tryd.f20.body 0) (.seq (rgn Tryd.f20.body 1) (.seq (rgn Tryd.f20.body 2) (.cut ⟨[1, 3, 4], none, []⟩ (.seq (rgn Tryd.f20.body 3) (.cond (.tmp 21) (rgn Tryd.f20.body 4) .skip)) (.cut ⟨[1, 3, 4], none, []⟩ (.seq (rgn Tryd.f20.body 5) (.cond (.tmp 39) (rgn Tryd.f20.body 6) .skip)) (.seq (.seq (rgn Tryd.f20.body 7) (.block 0 (.loop ⟨[1, 3, 4, 5], none, [(0, [3])]⟩ (.seq (.seq (rgn Tryd.f20.body 8) (.cond (.tmp 59) .skip (.exit 0))) (.cut ⟨[1, 3, 4, 5], none, []⟩ (.block 1 (.seq (rgn Tryd.f20.body 10) (.cond (.tmp 67) (rgn Tryd.f20.body 11) .skip))) (rgn Tryd.f20.body 9)))))) (.seq (rgn Tryd.f20.body 12) .ret)))))))⟩
theorem fits20 : Fits Tryd.prog 20 fi20 Tryd.f20 := ⟨by kernel_rfl, by kernel_rfl, by kernel_rfl, by kernel_rfl, by kernel_rfl⟩
set_option maxRecDepth 100000 in
/-- A round: what is kept: [1, 3, 4, 5]. -/
noncomputable def s20.l0 (call : ACall) (lim : Nat) (v35 : List AV) (h36 : Heap) : Option Res :=
 pu (lnS (v35.getD 2 .junk)) h36 fun r37 =>
 pu (abin Tryd.prog .gtr 3 r37.1 (.d (.int .i64 0))) r37.2 fun r38 =>
 gd (yv r38.1) true (some ((v35.getD 2 .junk), r38.2)) r38.2 fun r39 =>
 gd (yv r38.1) true (pm (ixS 1 r39.1 (.d (.int .i64 8))) r39.2) r39.2 fun r40 =>
 gd (yv r38.1) true (pm (ld r40.2 r40.1) r40.2) r40.2 fun r41 =>
 bi (pk r38.1 r41.1 (.d (.bool false)) r41.2) fun r42 =>
 gd (yv r42.1) true (some ((v35.getD 3 .junk), r42.2)) r42.2 fun r43 =>
 gd (yv r42.1) true (pm (fa 9 (v35.getD 0 .junk)) r43.2) r43.2 fun r44 =>
 gd (yv r42.1) true (pm (ld r44.2 r44.1) r44.2) r44.2 fun r45 =>
 gd (yv r42.1) true (pm (lnS r45.1) r45.2) r45.2 fun r46 =>
 gd (yv r42.1) true (pm (abin Tryd.prog .lss 3 r43.1 r46.1) r46.2) r46.2 fun r47 =>
 bi (pk r42.1 r47.1 (.d (.bool false)) r47.2) fun r48 =>
 cn (asB r48.1)
 (jn
 (pu (fa 9 (v35.getD 0 .junk)) r48.2 fun r49 =>
 pu (ld r49.2 r49.1) r49.2 fun r50 =>
 pu (ixS 1 r50.1 (v35.getD 3 .junk)) r50.2 fun r51 =>
 pu (ld r51.2 r51.1) r51.2 fun r52 =>
 pu (abin Tryd.prog .neq 3 r52.1 (.d (.int .i64 (-1)))) r52.2 fun r53 =>
 cn (asB r53.1)
 (pu (fa 9 (v35.getD 0 .junk)) r53.2 fun r54 =>
 pu (ld r54.2 r54.1) r54.2 fun r55 =>
 pu (ixS 1 r55.1 (v35.getD 3 .junk)) r55.2 fun r56 =>
 pu (ld r56.2 r56.1) r56.2 fun r57 =>
 bi (bldS 1 1 [.d (.int .i64 0)] [(0, r57.1)] r57.2) fun r58 =>
 bi (app 1 8 lim r58.2 (v35.getD 1 .junk) (elS 1 r58.2 r58.1)) fun r59 =>
 some (.normal, [(v35.getD 0 .junk), r59.1, (v35.getD 2 .junk), (v35.getD 3 .junk)], r59.2))
 (some (.normal, [(v35.getD 0 .junk), (v35.getD 1 .junk), (v35.getD 2 .junk), (v35.getD 3 .junk)], r53.2))) fun j60 =>
 dsp j60.1 (pu (abin Tryd.prog .add 3 (gv j60 3) (.d (.int .i64 1))) j60.2.2 fun r61 =>
 some (.normal, [(gv j60 0), (gv j60 1), (gv j60 2), r61.1], r61.2)) none [])
 (some (.exit 0, [(v35.getD 1 .junk)], r48.2))
set_option maxRecDepth 100000 in
noncomputable def s20 (call : ACall) (lim : Nat) (a0 : AV) (H : Heap) : Option Res :=
 bi (bx a0 H) fun r1 =>
 pu (fa 0 r1.1) r1.2 fun r2 =>
 pu (ld r2.2 r2.1) r2.2 fun r3 =>
 bi (call 35 [r3.1] r3.2) fun r4 =>
 jn
 (pu (lnS r4.1) r4.2 fun r5 =>
 pu (abin Tryd.prog .gtr 3 r5.1 (.d (.int .i64 0))) r5.2 fun r6 =>
 gd (yv r6.1) true (some (r4.1, r6.2)) r6.2 fun r7 =>
 gd (yv r6.1) true (pm (ixS 1 r7.1 (.d (.int .i64 1))) r7.2) r7.2 fun r8 =>
 gd (yv r6.1) true (pm (ld r8.2 r8.1) r8.2) r8.2 fun r9 =>
 bi (pk r6.1 r9.1 (.d (.bool false)) r9.2) fun r10 =>
 gd (yv r10.1) true (pm (fa 2 r1.1) r10.2) r10.2 fun r11 =>
 gd (yv r10.1) true (pm (ld r11.2 r11.1) r11.2) r11.2 fun r12 =>
 gd (yv r10.1) true (pm (abin Tryd.prog .neq 3 r12.1 (.d (.int .i64 (-1)))) r12.2) r12.2 fun r13 =>
 bi (pk r10.1 r13.1 (.d (.bool false)) r13.2) fun r14 =>
 cn (asB r14.1)
 (pu (fa 2 r1.1) r14.2 fun r15 =>
 pu (ld r15.2 r15.1) r15.2 fun r16 =>
 bi (bldS 1 1 [.d (.int .i64 0)] [(0, r16.1)] r16.2) fun r17 =>
 bi (app 1 8 lim r17.2 (.d (.seq true 0 [])) (elS 1 r17.2 r17.1)) fun r18 =>
 some (.normal, [r1.1, r18.1, r4.1], r18.2))
 (some (.normal, [r1.1, .d (.seq true 0 []), r4.1], r14.2))) fun j19 =>
 dsp j19.1 (jn
 (pu (lnS (gv j19 2)) j19.2.2 fun r20 =>
 pu (abin Tryd.prog .gtr 3 r20.1 (.d (.int .i64 0))) r20.2 fun r21 =>
 gd (yv r21.1) true (some ((gv j19 2), r21.2)) r21.2 fun r22 =>
 gd (yv r21.1) true (pm (ixS 1 r22.1 (.d (.int .i64 2))) r22.2) r22.2 fun r23 =>
 gd (yv r21.1) true (pm (ld r23.2 r23.1) r23.2) r23.2 fun r24 =>
 bi (pk r21.1 r24.1 (.d (.bool false)) r24.2) fun r25 =>
 gd (yv r25.1) true (pm (fa 3 (gv j19 0)) r25.2) r25.2 fun r26 =>
 gd (yv r25.1) true (pm (ld r26.2 r26.1) r26.2) r26.2 fun r27 =>
 gd (yv r25.1) true (pm (abin Tryd.prog .neq 3 r27.1 (.d (.int .i64 (-1)))) r27.2) r27.2 fun r28 =>
 bi (pk r25.1 r28.1 (.d (.bool false)) r28.2) fun r29 =>
 cn (asB r29.1)
 (pu (fa 3 (gv j19 0)) r29.2 fun r30 =>
 pu (ld r30.2 r30.1) r30.2 fun r31 =>
 bi (bldS 1 1 [.d (.int .i64 0)] [(0, r31.1)] r31.2) fun r32 =>
 bi (app 1 8 lim r32.2 (gv j19 1) (elS 1 r32.2 r32.1)) fun r33 =>
 some (.normal, [(gv j19 0), r33.1, (gv j19 2)], r33.2))
 (some (.normal, [(gv j19 0), (gv j19 1), (gv j19 2)], r29.2))) fun j34 =>
 dsp j34.1 (lp (s20.l0 call lim) [(gv j34 0), (gv j34 1), (gv j34 2), .d (.int .i64 0)] j34.2.2 fun j62 =>
 dsp j62.1 none none [(0, rt (gv j62 0) j62.2.2)]) none []) none []

/-! #### rushlight/rushlightlaw13.same -/
noncomputable def fi18 : FI := ⟨26, 0, [.tmp 4], (.seq (rgn Tryd.f18.body 0) (.seq (.seq (rgn Tryd.f18.body 1) (.cond (.tmp 10) (.seq (rgn Tryd.f18.body 2) .ret) .skip)) (.seq (.seq (rgn Tryd.f18.body 3) (.block 0 (.loop ⟨[0, 1, 5], some [4], [(0, [])]⟩ (.seq (.seq (rgn Tryd.f18.body 4) (.cond (.tmp 14) .skip (.exit 0))) (.seq (.block 1 (.seq (rgn Tryd.f18.body 6) (.cond (.tmp 25) (.seq (rgn Tryd.f18.body 7) .ret) .skip))) (rgn Tryd.f18.body 5)))))) (.seq (rgn Tryd.f18.body 8) .ret))))⟩
theorem fits18 : Fits Tryd.prog 18 fi18 Tryd.f18 := ⟨by kernel_rfl, by kernel_rfl, by kernel_rfl, by kernel_rfl, by kernel_rfl⟩
set_option maxRecDepth 100000 in
/-- A round: what is kept: [0, 1, 5]. -/
noncomputable def s18.l0 (call : ACall) (lim : Nat) (v4 : List AV) (h5 : Heap) : Option Res :=
 pu (lnS (v4.getD 0 .junk)) h5 fun r6 =>
 pu (abin Tryd.prog .lss 3 (v4.getD 2 .junk) r6.1) r6.2 fun r7 =>
 cn (asB r7.1)
 (pu (ixS 1 (v4.getD 0 .junk) (v4.getD 2 .junk)) r7.2 fun r8 =>
 pu (ld r8.2 r8.1) r8.2 fun r9 =>
 pu (ixS 1 (v4.getD 1 .junk) (v4.getD 2 .junk)) r9.2 fun r10 =>
 pu (ld r10.2 r10.1) r10.2 fun r11 =>
 pu (abin Tryd.prog .neq 3 r9.1 r11.1) r11.2 fun r12 =>
 cn (asB r12.1)
 (some (.ret, [.d (.bool false)], r12.2))
 (pu (abin Tryd.prog .add 3 (v4.getD 2 .junk) (.d (.int .i64 1))) r12.2 fun r13 =>
 some (.normal, [(v4.getD 0 .junk), (v4.getD 1 .junk), r13.1], r13.2)))
 (some (.exit 0, [], r7.2))
set_option maxRecDepth 100000 in
noncomputable def s18 (call : ACall) (lim : Nat) (a0 a1 : AV) (H : Heap) : Option Res :=
 pu (lnS a0) H fun r1 =>
 pu (lnS a1) r1.2 fun r2 =>
 pu (abin Tryd.prog .neq 3 r1.1 r2.1) r2.2 fun r3 =>
 cn (asB r3.1)
 (rt (.d (.bool false)) r3.2)
 (lp (s18.l0 call lim) [a0, a1, .d (.int .i64 0)] r3.2 fun j14 =>
 dsp j14.1 none (rt (gv j14 0) j14.2.2) [(0, rt (.d (.bool true)) j14.2.2)])

/-! #### rushlight/ir.Pure -/
noncomputable def fi21 : FI := ⟨13, 0, [.tmp 2], (.seq (rgn Tryd.f21.body 0) (.seq (.seq (rgn Tryd.f21.body 1) (.block 0 (.cut ⟨[5], none, []⟩ (.seq (rgn Tryd.f21.body 2) (.cond (.tmp 5) .skip (.seq (rgn Tryd.f21.body 3) (.cond (.tmp 5) .skip (.seq (rgn Tryd.f21.body 4) (.cond (.tmp 5) .skip (.seq (rgn Tryd.f21.body 5) (.cond (.tmp 5) .skip (.seq (rgn Tryd.f21.body 6) (.cond (.tmp 5) .skip (.seq (rgn Tryd.f21.body 7) (.cond (.tmp 5) .skip (rgn Tryd.f21.body 8))))))))))))) (.cond (.tmp 5) (.seq (rgn Tryd.f21.body 9) .ret) .skip)))) (.seq (rgn Tryd.f21.body 10) .ret)))⟩
theorem fits21 : Fits Tryd.prog 21 fi21 Tryd.f21 := ⟨by kernel_rfl, by kernel_rfl, by kernel_rfl, by kernel_rfl, by kernel_rfl⟩
set_option maxRecDepth 100000 in
noncomputable def s21 (call : ACall) (lim : Nat) (a0 : AV) (H : Heap) : Option Res :=
 bi (bx a0 H) fun r1 =>
 pu (fa 0 r1.1) r1.2 fun r2 =>
 pu (ld r2.2 r2.1) r2.2 fun r3 =>
 jn
 (pu (abin Tryd.prog .eql 3 r3.1 (.d (.int .i64 1))) r3.2 fun r4 =>
 cn (asB r4.1)
 (some (.normal, [r4.1], r4.2))
 (pu (abin Tryd.prog .eql 3 r3.1 (.d (.int .i64 2))) r4.2 fun r5 =>
 cn (asB r5.1)
 (some (.normal, [r5.1], r5.2))
 (pu (abin Tryd.prog .eql 3 r3.1 (.d (.int .i64 3))) r5.2 fun r6 =>
 cn (asB r6.1)
 (some (.normal, [r6.1], r6.2))
 (pu (abin Tryd.prog .eql 3 r3.1 (.d (.int .i64 4))) r6.2 fun r7 =>
 cn (asB r7.1)
 (some (.normal, [r7.1], r7.2))
 (pu (abin Tryd.prog .eql 3 r3.1 (.d (.int .i64 7))) r7.2 fun r8 =>
 cn (asB r8.1)
 (some (.normal, [r8.1], r8.2))
 (pu (abin Tryd.prog .eql 3 r3.1 (.d (.int .i64 8))) r8.2 fun r9 =>
 cn (asB r9.1)
 (some (.normal, [r9.1], r9.2))
 (pu (abin Tryd.prog .eql 3 r3.1 (.d (.int .i64 5))) r9.2 fun r10 =>
 some (.normal, [r10.1], r10.2)))))))) fun j11 =>
 dsp j11.1 (cn (asB (gv j11 0))
 (rt (.d (.bool true)) j11.2.2)
 (rt (.d (.bool false)) j11.2.2)) none []

/-! #### rushlight/ir.Outs -/
noncomputable def fi22 : FI := ⟨31, 0, [.tmp 2], (.seq (rgn Tryd.f22.body 0) (.seq (.block 0 (.seq (rgn Tryd.f22.body 1) (.cond (.tmp 3) (.seq (rgn Tryd.f22.body 2) .ret) (.seq (rgn Tryd.f22.body 3) (.cond (.tmp 22) (.seq (rgn Tryd.f22.body 4) .ret) .skip))))) (.seq (rgn Tryd.f22.body 5) .ret)))⟩
theorem fits22 : Fits Tryd.prog 22 fi22 Tryd.f22 := ⟨by kernel_rfl, by kernel_rfl, by kernel_rfl, by kernel_rfl, by kernel_rfl⟩
set_option maxRecDepth 100000 in
noncomputable def s22 (call : ACall) (lim : Nat) (a0 : AV) (H : Heap) : Option Res :=
 bi (bx a0 H) fun r1 =>
 pu (fa 1 r1.1) r1.2 fun r2 =>
 pu (ld r2.2 r2.1) r2.2 fun r3 =>
 pu (abin Tryd.prog .eql 3 r3.1 (.d (.int .i64 1))) r3.2 fun r4 =>
 gd (yv r4.1) false (pm (fa 1 r1.1) r4.2) r4.2 fun r5 =>
 gd (yv r4.1) false (pm (ld r5.2 r5.1) r5.2) r5.2 fun r6 =>
 gd (yv r4.1) false (pm (abin Tryd.prog .eql 3 r6.1 (.d (.int .i64 2))) r6.2) r6.2 fun r7 =>
 gd (yv r4.1) false (some (r7.1, r7.2)) r7.2 fun r8 =>
 gd (yv r8.1) true (pm (fa 3 r1.1) r8.2) r8.2 fun r9 =>
 gd (yv r8.1) true (pm (ld r9.2 r9.1) r9.2) r9.2 fun r10 =>
 gd (yv r8.1) true (pm (fa 4 r1.1) r10.2) r10.2 fun r11 =>
 gd (yv r8.1) true (pm (ld r11.2 r11.1) r11.2) r11.2 fun r12 =>
 gd (yv r8.1) true (pm (abin Tryd.prog .eql 3 r10.1 r12.1) r12.2) r12.2 fun r13 =>
 gd (yv r4.1) false (pk r8.1 r13.1 (.d (.bool false)) r13.2) r13.2 fun r14 =>
 bi (pk r4.1 (.d (.bool true)) r14.1 r14.2) fun r15 =>
 cn (asB r15.1)
 (pu (fa 3 r1.1) r15.2 fun r16 =>
 pu (ld r16.2 r16.1) r16.2 fun r17 =>
 bi (bldS 1 1 [.d (.int .i64 0)] [(0, r17.1)] r17.2) fun r18 =>
 rt r18.1 r18.2)
 (pu (fa 1 r1.1) r15.2 fun r19 =>
 pu (ld r19.2 r19.1) r19.2 fun r20 =>
 pu (abin Tryd.prog .eql 3 r20.1 (.d (.int .i64 2))) r20.2 fun r21 =>
 cn (asB r21.1)
 (pu (fa 3 r1.1) r21.2 fun r22 =>
 pu (ld r22.2 r22.1) r22.2 fun r23 =>
 pu (fa 4 r1.1) r23.2 fun r24 =>
 pu (ld r24.2 r24.1) r24.2 fun r25 =>
 bi (bldS 1 2 [.d (.int .i64 0)] [(0, r23.1), (1, r25.1)] r25.2) fun r26 =>
 rt r26.1 r26.2)
 (rt (.d (.seq true 0 [])) r21.2))

/-! #### rushlight/rushlightref13.Outs -/
noncomputable def fi23 : FI := ⟨33, 0, [.tmp 2], (.seq (rgn Tryd.f23.body 0) (.seq (rgn Tryd.f23.body 1) (.cut ⟨[1, 3], none, []⟩ (.seq (rgn Tryd.f23.body 2) (.cond (.tmp 11) (rgn Tryd.f23.body 3) .skip)) (.cut ⟨[3], none, []⟩ (.seq (rgn Tryd.f23.body 4) (.cond (.tmp 26) (rgn Tryd.f23.body 5) .skip)) (.seq (rgn Tryd.f23.body 6) .ret)))))⟩
theorem fits23 : Fits Tryd.prog 23 fi23 Tryd.f23 := ⟨by kernel_rfl, by kernel_rfl, by kernel_rfl, by kernel_rfl, by kernel_rfl⟩
set_option maxRecDepth 100000 in
noncomputable def s23 (call : ACall) (lim : Nat) (a0 : AV) (H : Heap) : Option Res :=
 bi (bx a0 H) fun r1 =>
 jn
 (pu (fa 1 r1.1) r1.2 fun r2 =>
 pu (ld r2.2 r2.1) r2.2 fun r3 =>
 pu (abin Tryd.prog .eql 3 r3.1 (.d (.int .i64 1))) r3.2 fun r4 =>
 gd (yv r4.1) false (pm (fa 1 r1.1) r4.2) r4.2 fun r5 =>
 gd (yv r4.1) false (pm (ld r5.2 r5.1) r5.2) r5.2 fun r6 =>
 gd (yv r4.1) false (pm (abin Tryd.prog .eql 3 r6.1 (.d (.int .i64 2))) r6.2) r6.2 fun r7 =>
 bi (pk r4.1 (.d (.bool true)) r7.1 r7.2) fun r8 =>
 cn (asB r8.1)
 (pu (fa 3 r1.1) r8.2 fun r9 =>
 pu (ld r9.2 r9.1) r9.2 fun r10 =>
 bi (bldS 1 1 [.d (.int .i64 0)] [(0, r10.1)] r10.2) fun r11 =>
 bi (app 1 8 lim r11.2 (.d (.seq true 0 [])) (elS 1 r11.2 r11.1)) fun r12 =>
 some (.normal, [r1.1, r12.1], r12.2))
 (some (.normal, [r1.1, .d (.seq true 0 [])], r8.2))) fun j13 =>
 dsp j13.1 (jn
 (pu (fa 1 (gv j13 0)) j13.2.2 fun r14 =>
 pu (ld r14.2 r14.1) r14.2 fun r15 =>
 pu (abin Tryd.prog .eql 3 r15.1 (.d (.int .i64 2))) r15.2 fun r16 =>
 gd (yv r16.1) true (pm (fa 4 (gv j13 0)) r16.2) r16.2 fun r17 =>
 gd (yv r16.1) true (pm (ld r17.2 r17.1) r17.2) r17.2 fun r18 =>
 gd (yv r16.1) true (pm (fa 3 (gv j13 0)) r18.2) r18.2 fun r19 =>
 gd (yv r16.1) true (pm (ld r19.2 r19.1) r19.2) r19.2 fun r20 =>
 gd (yv r16.1) true (pm (abin Tryd.prog .neq 3 r18.1 r20.1) r20.2) r20.2 fun r21 =>
 bi (pk r16.1 r21.1 (.d (.bool false)) r21.2) fun r22 =>
 cn (asB r22.1)
 (pu (fa 4 (gv j13 0)) r22.2 fun r23 =>
 pu (ld r23.2 r23.1) r23.2 fun r24 =>
 bi (bldS 1 1 [.d (.int .i64 0)] [(0, r24.1)] r24.2) fun r25 =>
 bi (app 1 8 lim r25.2 (gv j13 1) (elS 1 r25.2 r25.1)) fun r26 =>
 some (.normal, [r26.1], r26.2))
 (some (.normal, [(gv j13 1)], r22.2))) fun j27 =>
 dsp j27.1 (rt (gv j27 0) j27.2.2) none []) none []

/-! #### rushlight/rushlightlaw13.IrTells -/
noncomputable def fi5 : FI := ⟨51, 0, [.tmp 4], (.seq (rgn Tryd.f5.body 0) (.seq (.seq (rgn Tryd.f5.body 1) (.cond (.tmp 8) (.seq (rgn Tryd.f5.body 2) .ret) .skip)) (.seq (rgn Tryd.f5.body 3) (.seq (rgn Tryd.f5.body 4) .ret))))⟩
theorem fits5 : Fits Tryd.prog 5 fi5 Tryd.f5 := ⟨by kernel_rfl, by kernel_rfl, by kernel_rfl, by kernel_rfl, by kernel_rfl⟩
set_option maxRecDepth 100000 in
noncomputable def s5 (call : ACall) (lim : Nat) (a0 a1 : AV) (H : Heap) : Option Res :=
 bi (bx a0 H) fun r1 =>
 bi (bx a1 r1.2) fun r2 =>
 pu (ldA 11 r2.2 r1.1) r2.2 fun r3 =>
 bi (call 12 [r3.1] r3.2) fun r4 =>
 pu (aun .not r4.1) r4.2 fun r5 =>
 cn (asB r5.1)
 (bi (call 7 [] r5.2) fun r6 =>
 rt r6.1 r6.2)
 (pu (fa 0 r1.1) r5.2 fun r7 =>
 pu (ld r7.2 r7.1) r7.2 fun r8 =>
 pu (abin Tryd.prog .geq 3 r8.1 (.d (.int .i64 1))) r8.2 fun r9 =>
 gd (yv r9.1) true (pm (fa 0 r1.1) r9.2) r9.2 fun r10 =>
 gd (yv r9.1) true (pm (ld r10.2 r10.1) r10.2) r10.2 fun r11 =>
 gd (yv r9.1) true (pm (abin Tryd.prog .leq 3 r11.1 (.d (.int .i64 8))) r11.2) r11.2 fun r12 =>
 bi (pk r9.1 r12.1 (.d (.bool false)) r12.2) fun r13 =>
 gd (yv r13.1) true (pm (fa 0 r1.1) r13.2) r13.2 fun r14 =>
 gd (yv r13.1) true (pm (ld r14.2 r14.1) r14.2) r14.2 fun r15 =>
 gd (yv r13.1) true (pm (abin Tryd.prog .neq 3 r15.1 (.d (.int .i64 6))) r15.2) r15.2 fun r16 =>
 bi (pk r13.1 r16.1 (.d (.bool false)) r16.2) fun r17 =>
 bi (call 7 [] r17.2) fun r18 =>
 gd (yv r18.1) true (pm (ldA 11 r18.2 r1.1) r18.2) r18.2 fun r19 =>
 gd (yv r18.1) true (call 16 [r19.1] r19.2) r19.2 fun r20 =>
 gd (yv r18.1) true (pm (ldA 11 r20.2 r1.1) r20.2) r20.2 fun r21 =>
 gd (yv r18.1) true (call 17 [r21.1] r21.2) r21.2 fun r22 =>
 gd (yv r18.1) true (pm (abin Tryd.prog .eql 3 r20.1 r22.1) r22.2) r22.2 fun r23 =>
 bi (pk r18.1 r23.1 (.d (.bool false)) r23.2) fun r24 =>
 gd (yv r24.1) true (pm (ldA 11 r24.2 r1.1) r24.2) r24.2 fun r25 =>
 gd (yv r24.1) true (call 19 [r25.1] r25.2) r25.2 fun r26 =>
 gd (yv r24.1) true (pm (ldA 11 r26.2 r1.1) r26.2) r26.2 fun r27 =>
 gd (yv r24.1) true (call 20 [r27.1] r27.2) r27.2 fun r28 =>
 gd (yv r24.1) true (call 18 [r26.1, r28.1] r28.2) r28.2 fun r29 =>
 bi (pk r24.1 r29.1 (.d (.bool false)) r29.2) fun r30 =>
 gd (yv r30.1) true (pm (ldA 11 r30.2 r1.1) r30.2) r30.2 fun r31 =>
 gd (yv r30.1) true (call 21 [r31.1] r31.2) r31.2 fun r32 =>
 gd (yv r30.1) true (some (r17.1, r32.2)) r32.2 fun r33 =>
 gd (yv r30.1) true (pm (abin Tryd.prog .eql 4 r32.1 r33.1) r33.2) r33.2 fun r34 =>
 bi (pk r30.1 r34.1 (.d (.bool false)) r34.2) fun r35 =>
 gd (yv r35.1) true (pm (ldA 5 r35.2 r2.1) r35.2) r35.2 fun r36 =>
 gd (yv r35.1) true (call 22 [r36.1] r36.2) r36.2 fun r37 =>
 gd (yv r35.1) true (pm (ldA 5 r37.2 r2.1) r37.2) r37.2 fun r38 =>
 gd (yv r35.1) true (call 23 [r38.1] r38.2) r38.2 fun r39 =>
 gd (yv r35.1) true (call 18 [r37.1, r39.1] r39.2) r39.2 fun r40 =>
 bi (pk r35.1 r40.1 (.d (.bool false)) r40.2) fun r41 =>
 rt r41.1 r41.2)

/-- The table of texts. -/
noncomputable def C : FuncId → Option FI := fun f =>
  bif f == 12 then some fi12 else
  bif f == 6 then some fi6 else
  bif f == 30 then some fi30 else
  bif f == 47 then some fi47 else
  bif f == 40 then some fi40 else
  bif f == 29 then some fi29 else
  bif f == 32 then some fi32 else
  bif f == 31 then some fi31 else
  bif f == 13 then some fi13 else
  bif f == 24 then some fi24 else
  bif f == 15 then some fi15 else
  bif f == 36 then some fi36 else
  bif f == 16 then some fi16 else
  bif f == 49 then some fi49 else
  bif f == 42 then some fi42 else
  bif f == 44 then some fi44 else
  bif f == 43 then some fi43 else
  bif f == 45 then some fi45 else
  bif f == 37 then some fi37 else
  bif f == 46 then some fi46 else
  bif f == 38 then some fi38 else
  bif f == 26 then some fi26 else
  bif f == 10 then some fi10 else
  bif f == 8 then some fi8 else
  bif f == 7 then some fi7 else
  bif f == 25 then some fi25 else
  bif f == 39 then some fi39 else
  bif f == 27 then some fi27 else
  bif f == 35 then some fi35 else
  bif f == 28 then some fi28 else
  bif f == 11 then some fi11 else
  bif f == 9 then some fi9 else
  bif f == 3 then some fi3 else
  bif f == 33 then some fi33 else
  bif f == 34 then some fi34 else
  bif f == 14 then some fi14 else
  bif f == 4 then some fi4 else
  bif f == 17 then some fi17 else
  bif f == 19 then some fi19 else
  bif f == 20 then some fi20 else
  bif f == 18 then some fi18 else
  bif f == 21 then some fi21 else
  bif f == 22 then some fi22 else
  bif f == 23 then some fi23 else
  bif f == 5 then some fi5 else
  none
theorem fitsC : ∀ f fi, C f = some fi → FitO Tryd.prog f fi := by
  intro f fi h
  unfold C at h
  by_cases h12 : f = 12
  · subst h12; cases h; exact .code _ fits12 (by unfold fi12; decide)
  rw [show (f == 12) = false from beq_false_of_ne h12, cond_false] at h
  by_cases h6 : f = 6
  · subst h6; cases h; exact .code _ fits6 (by unfold fi6; decide)
  rw [show (f == 6) = false from beq_false_of_ne h6, cond_false] at h
  by_cases h30 : f = 30
  · subst h30; cases h; exact fit30
  rw [show (f == 30) = false from beq_false_of_ne h30, cond_false] at h
  by_cases h47 : f = 47
  · subst h47; cases h; exact fit47
  rw [show (f == 47) = false from beq_false_of_ne h47, cond_false] at h
  by_cases h40 : f = 40
  · subst h40; cases h; exact .code _ fits40 (by unfold fi40; decide)
  rw [show (f == 40) = false from beq_false_of_ne h40, cond_false] at h
  by_cases h29 : f = 29
  · subst h29; cases h; exact .code _ fits29 (by unfold fi29; decide)
  rw [show (f == 29) = false from beq_false_of_ne h29, cond_false] at h
  by_cases h32 : f = 32
  · subst h32; cases h; exact .code _ fits32 (by unfold fi32; decide)
  rw [show (f == 32) = false from beq_false_of_ne h32, cond_false] at h
  by_cases h31 : f = 31
  · subst h31; cases h; exact .code _ fits31 (by unfold fi31; decide)
  rw [show (f == 31) = false from beq_false_of_ne h31, cond_false] at h
  by_cases h13 : f = 13
  · subst h13; cases h; exact .code _ fits13 (by unfold fi13; decide)
  rw [show (f == 13) = false from beq_false_of_ne h13, cond_false] at h
  by_cases h24 : f = 24
  · subst h24; cases h; exact .code _ fits24 (by unfold fi24; decide)
  rw [show (f == 24) = false from beq_false_of_ne h24, cond_false] at h
  by_cases h15 : f = 15
  · subst h15; cases h; exact .code _ fits15 (by unfold fi15; decide)
  rw [show (f == 15) = false from beq_false_of_ne h15, cond_false] at h
  by_cases h36 : f = 36
  · subst h36; cases h; exact .code _ fits36 (by unfold fi36; decide)
  rw [show (f == 36) = false from beq_false_of_ne h36, cond_false] at h
  by_cases h16 : f = 16
  · subst h16; cases h; exact .code _ fits16 (by unfold fi16; decide)
  rw [show (f == 16) = false from beq_false_of_ne h16, cond_false] at h
  by_cases h49 : f = 49
  · subst h49; cases h; exact .code _ fits49 (by unfold fi49; decide)
  rw [show (f == 49) = false from beq_false_of_ne h49, cond_false] at h
  by_cases h42 : f = 42
  · subst h42; cases h; exact .code _ fits42 (by unfold fi42; decide)
  rw [show (f == 42) = false from beq_false_of_ne h42, cond_false] at h
  by_cases h44 : f = 44
  · subst h44; cases h; exact .code _ fits44 (by unfold fi44; decide)
  rw [show (f == 44) = false from beq_false_of_ne h44, cond_false] at h
  by_cases h43 : f = 43
  · subst h43; cases h; exact .code _ fits43 (by unfold fi43; decide)
  rw [show (f == 43) = false from beq_false_of_ne h43, cond_false] at h
  by_cases h45 : f = 45
  · subst h45; cases h; exact .code _ fits45 (by unfold fi45; decide)
  rw [show (f == 45) = false from beq_false_of_ne h45, cond_false] at h
  by_cases h37 : f = 37
  · subst h37; cases h; exact .code _ fits37 (by unfold fi37; decide)
  rw [show (f == 37) = false from beq_false_of_ne h37, cond_false] at h
  by_cases h46 : f = 46
  · subst h46; cases h; exact .code _ fits46 (by unfold fi46; decide)
  rw [show (f == 46) = false from beq_false_of_ne h46, cond_false] at h
  by_cases h38 : f = 38
  · subst h38; cases h; exact .code _ fits38 (by unfold fi38; decide)
  rw [show (f == 38) = false from beq_false_of_ne h38, cond_false] at h
  by_cases h26 : f = 26
  · subst h26; cases h; exact .code _ fits26 (by unfold fi26; decide)
  rw [show (f == 26) = false from beq_false_of_ne h26, cond_false] at h
  by_cases h10 : f = 10
  · subst h10; cases h; exact .code _ fits10 (by unfold fi10; decide)
  rw [show (f == 10) = false from beq_false_of_ne h10, cond_false] at h
  by_cases h8 : f = 8
  · subst h8; cases h; exact .code _ fits8 (by unfold fi8; decide)
  rw [show (f == 8) = false from beq_false_of_ne h8, cond_false] at h
  by_cases h7 : f = 7
  · subst h7; cases h; exact .code _ fits7 (by unfold fi7; decide)
  rw [show (f == 7) = false from beq_false_of_ne h7, cond_false] at h
  by_cases h25 : f = 25
  · subst h25; cases h; exact .code _ fits25 (by unfold fi25; decide)
  rw [show (f == 25) = false from beq_false_of_ne h25, cond_false] at h
  by_cases h39 : f = 39
  · subst h39; cases h; exact .code _ fits39 (by unfold fi39; decide)
  rw [show (f == 39) = false from beq_false_of_ne h39, cond_false] at h
  by_cases h27 : f = 27
  · subst h27; cases h; exact .code _ fits27 (by unfold fi27; decide)
  rw [show (f == 27) = false from beq_false_of_ne h27, cond_false] at h
  by_cases h35 : f = 35
  · subst h35; cases h; exact .code _ fits35 (by unfold fi35; decide)
  rw [show (f == 35) = false from beq_false_of_ne h35, cond_false] at h
  by_cases h28 : f = 28
  · subst h28; cases h; exact .code _ fits28 (by unfold fi28; decide)
  rw [show (f == 28) = false from beq_false_of_ne h28, cond_false] at h
  by_cases h11 : f = 11
  · subst h11; cases h; exact .code _ fits11 (by unfold fi11; decide)
  rw [show (f == 11) = false from beq_false_of_ne h11, cond_false] at h
  by_cases h9 : f = 9
  · subst h9; cases h; exact .code _ fits9 (by unfold fi9; decide)
  rw [show (f == 9) = false from beq_false_of_ne h9, cond_false] at h
  by_cases h3 : f = 3
  · subst h3; cases h; exact .code _ fits3 (by unfold fi3; decide)
  rw [show (f == 3) = false from beq_false_of_ne h3, cond_false] at h
  by_cases h33 : f = 33
  · subst h33; cases h; exact .code _ fits33 (by unfold fi33; decide)
  rw [show (f == 33) = false from beq_false_of_ne h33, cond_false] at h
  by_cases h34 : f = 34
  · subst h34; cases h; exact .code _ fits34 (by unfold fi34; decide)
  rw [show (f == 34) = false from beq_false_of_ne h34, cond_false] at h
  by_cases h14 : f = 14
  · subst h14; cases h; exact .code _ fits14 (by unfold fi14; decide)
  rw [show (f == 14) = false from beq_false_of_ne h14, cond_false] at h
  by_cases h4 : f = 4
  · subst h4; cases h; exact .code _ fits4 (by unfold fi4; decide)
  rw [show (f == 4) = false from beq_false_of_ne h4, cond_false] at h
  by_cases h17 : f = 17
  · subst h17; cases h; exact .code _ fits17 (by unfold fi17; decide)
  rw [show (f == 17) = false from beq_false_of_ne h17, cond_false] at h
  by_cases h19 : f = 19
  · subst h19; cases h; exact .code _ fits19 (by unfold fi19; decide)
  rw [show (f == 19) = false from beq_false_of_ne h19, cond_false] at h
  by_cases h20 : f = 20
  · subst h20; cases h; exact .code _ fits20 (by unfold fi20; decide)
  rw [show (f == 20) = false from beq_false_of_ne h20, cond_false] at h
  by_cases h18 : f = 18
  · subst h18; cases h; exact .code _ fits18 (by unfold fi18; decide)
  rw [show (f == 18) = false from beq_false_of_ne h18, cond_false] at h
  by_cases h21 : f = 21
  · subst h21; cases h; exact .code _ fits21 (by unfold fi21; decide)
  rw [show (f == 21) = false from beq_false_of_ne h21, cond_false] at h
  by_cases h22 : f = 22
  · subst h22; cases h; exact .code _ fits22 (by unfold fi22; decide)
  rw [show (f == 22) = false from beq_false_of_ne h22, cond_false] at h
  by_cases h23 : f = 23
  · subst h23; cases h; exact .code _ fits23 (by unfold fi23; decide)
  rw [show (f == 23) = false from beq_false_of_ne h23, cond_false] at h
  by_cases h5 : f = 5
  · subst h5; cases h; exact .code _ fits5 (by unfold fi5; decide)
  rw [show (f == 5) = false from beq_false_of_ne h5, cond_false] at h
  cases h
end Go.Ev.Tryd
