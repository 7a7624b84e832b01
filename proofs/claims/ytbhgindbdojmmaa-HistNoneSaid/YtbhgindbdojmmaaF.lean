import Derived.Test.YtbhgindbdojmmaaFn
set_option linter.unusedVariables false
set_option maxRecDepth 100000
namespace Go.Proofs.Ytbhgindbdojmmaa
open Go Go.Fw Go.Proofs
/-- lanyard/lanyardlaw10.HistKeeps -/
def F3 (P : Program) (a0 a1 : Value) (K : Value → World → Prop) (w : World) : Prop :=
  S.v P (Instr.alloc 4 true (.tuple #[])) (fun t4 w => S.call P 9 [a0] (fun t16 w => S.v P (Instr.extract t16 0) (fun t17 w => S.v P (Instr.extract t16 1) (fun
    t18 w => S.v P (Instr.alloc 23 true (.tuple #[])) (fun t5 w => S.u P (Instr.storeAt 23 t5 t17) (fun w => S.call P 10 [] (fun t19 w => S.v P (Op.unary
    Go.UnOp.not t19) (fun t20 w => br t20 (S.u P (Instr.storeAt 4 t4 (Go.Value.bool false)) (fun w => S.p P (S.ldR 4 t4) (fun r4 w => K r4 w) w) w) (S.v P
    (S.bin Go.BinOp.eql 24 (Go.Operand.tmp 22) (Go.Operand.const (Go.Value.int Go.IntKind.i64 0)) t18 (Go.Value.int Go.IntKind.i64 0)) (fun t23 w => S.v P
    (S.bin Go.BinOp.geq 3 (Go.Operand.tmp 24) (Go.Operand.const (Go.Value.int Go.IntKind.i64 0)) a0 (Go.Value.int Go.IntKind.i64 0)) (fun t25 w => br t25 (S.v
    P (S.bin Go.BinOp.leq 3 (Go.Operand.tmp 27) (Go.Operand.const (Go.Value.int Go.IntKind.i64 4096)) a0 (Go.Value.int Go.IntKind.i64 4096)) (fun t28 w => S.v
    P (S.bin Go.BinOp.neq 4 (Go.Operand.tmp 23) (Go.Operand.tmp 29) t23 t28) (fun t30 w => br t30 (S.u P (Instr.storeAt 4 t4 (Go.Value.bool false)) (fun w =>
    S.p P (S.ldR 4 t4) (fun r4_1 w => K r4_1 w) w) w) (S.v P (S.bin Go.BinOp.neq 24 (Go.Operand.tmp 32) (Go.Operand.const (Go.Value.int Go.IntKind.i64 0)) t18
    (Go.Value.int Go.IntKind.i64 0)) (fun t33 w => br t33 (S.u P (Instr.storeAt 4 t4 (Go.Value.bool true)) (fun w => S.p P (S.ldR 4 t4) (fun r4_2 w => K r4_2
    w) w) w) (S.v P (Instr.alloc 28 true (.tuple #[])) (fun t7 w => S.v P (Builtin.len_ #[22] 3 #[a1]) (fun t35 w => S.loop (fun I => ∀ (x9 : Value) (x36 :
    Value) (x37 : Value) (x43 : Value) (x50 : Value) (w : World), (S.v P (S.bin Go.BinOp.lss 3 (Go.Operand.tmp 36) (Go.Operand.tmp 35) x36 t35) (fun t37 w =>
    br t37 (S.v P (Instr.indexAt 22 a1 x36) (fun t38 w => S.v P (Instr.loadAt 28 t38) (fun t39 w => S.seq (fun vs w => S.v P (Instr.loadAt 23 t5) (fun t47 w =>
    S.call P 12 [t47] (fun t48 w => S.v P (S.bin Go.BinOp.gtr 3 (Go.Operand.tmp 48) (Go.Operand.tmp 49) t48 a0) (fun t50 w => br t50 (S.u P (Instr.storeAt 4 t4
    (Go.Value.bool false)) (fun w => S.p P (S.ldR 4 t4) (fun r4_3 w => K r4_3 w) w) w) (S.v P (S.bin Go.BinOp.add 3 (Go.Operand.tmp 36) (Go.Operand.const
    (Go.Value.int Go.IntKind.i64 1)) x36 (Go.Value.int Go.IntKind.i64 1)) (fun t51 w => I [t39, t51, t37, (nth vs 0), t50] w) w)) w) w) w) (fun J => S.v P
    (Instr.loadAt 23 t5) (fun t40 w => S.call P 11 [t40, t39] (fun t42 w => S.v P (S.bin Go.BinOp.eql 24 (Go.Operand.tmp 42) (Go.Operand.const (Go.Value.int
    Go.IntKind.i64 0)) t42 (Go.Value.int Go.IntKind.i64 0)) (fun t43 w => br t43 (S.v P (Instr.loadAt 28 t7) (fun t44 w => S.v P (Builtin.append_ #[28, 28] 28
    #[t44, t39]) (fun t46 w => S.u P (Instr.storeAt 28 t7 t46) (fun w => J [t43] w) w) w) w) (J [t43] w)) w) w) w)) w) w) (S.drawn (fun w => ∃ H : World →
    Prop, H w ∧ (S.h P H (Instr.loadAt 23 t5) (fun t52 w => S.h P H (Instr.loadAt 28 t7) (fun t55 w => S.h P H (Builtin.len_ #[28] 3 #[t55]) (fun t56 w => S.h
    P H (Builtin.min_ #[3, 3] 3 #[a0, t56]) (fun t57 w => S.call P 12 [t52] (fun t53 w => H w ∧ (S.h P H (S.bin Go.BinOp.neq 3 (Go.Operand.tmp 53)
    (Go.Operand.tmp 57) t53 t57) (fun t58 w => br t58 (S.u P (Instr.storeAt 4 t4 (Go.Value.bool false)) (fun w => S.p P (S.ldR 4 t4) (fun r4_4 w => K r4_4 w)
    w) w) (S.h P H (Instr.loadAt 23 t5) (fun t60 w => S.h P H (Instr.loadAt 28 t7) (fun t62 w => S.h P H (Builtin.len_ #[28] 3 #[t62]) (fun t63 w => S.h P H
    (Instr.loadAt 23 t5) (fun t64 w => S.call P 13 [t60] (fun t61 w => H w ∧ (S.call P 12 [t64] (fun t65 w => H w ∧ (S.h P H (S.bin Go.BinOp.sub 3
    (Go.Operand.tmp 63) (Go.Operand.tmp 65) t63 t65) (fun t66 w => S.h P H (S.bin Go.BinOp.add 2 (Go.Operand.tmp 66) (Go.Operand.const (Go.Value.int
    Go.IntKind.i64 1)) t66 (Go.Value.int Go.IntKind.i64 1)) (fun t67 w => S.h P H (S.bin Go.BinOp.neq 2 (Go.Operand.tmp 61) (Go.Operand.tmp 67) t61 t67) (fun
    t68 w => br t68 (S.u P (Instr.storeAt 4 t4 (Go.Value.bool false)) (fun w => S.p P (S.ldR 4 t4) (fun r4_5 w => K r4_5 w) w) w) (S.v P (Instr.loadAt 23 t5)
    (fun t70 w => S.call P 14 [t70] (fun t71 w => S.rng P t71 2 (fun bg dn ax w => S.v P (Instr.alloc 36 true (.tuple #[])) (fun t11 w => S.u P (Instr.storeAt
    36 t11 (nth ax 1)) (fun w => bg (fun w => S.seq (fun vs_1 w => S.drawn (fun w => ∃ H_1 : World → Prop, H_1 w ∧ (S.h P H_1 (Instr.loadAt 36 t11) (fun t83 w
    => S.h P H_1 (Instr.loadAt 28 t7) (fun t84 w => S.h P H_1 (Instr.loadAt 28 t7) (fun t85 w => S.h P H_1 (Builtin.len_ #[28] 3 #[t85]) (fun t86 w => S.h P
    H_1 (Instr.loadAt 23 t5) (fun t87 w => S.call P 12 [t87] (fun t88 w => H_1 w ∧ (S.h P H_1 (S.bin Go.BinOp.sub 3 (Go.Operand.tmp 86) (Go.Operand.tmp 88) t86
    t88) (fun t89 w => S.h P H_1 (S.bin Go.BinOp.add 3 (Go.Operand.tmp 89) (Go.Operand.tmp 90) t89 (nth ax 0)) (fun t91 w => S.h P H_1 (Instr.indexAt 28 t84
    t91) (fun t92 w => S.h P H_1 (Instr.loadAt 36 t92) (fun t93 w => S.h P H_1 (S.bin Go.BinOp.neq 36 (Go.Operand.tmp 83) (Go.Operand.tmp 93) t83 t93) (fun t94
    w => br t94 (S.u P (Instr.storeAt 4 t4 (Go.Value.bool false)) (fun w => dn (some Go.Code.ret) w) w) (S.h P H_1 (Op.unary Go.UnOp.not (nth vs_1 1)) (fun t97
    w => br t97 (S.u P (Instr.storeAt 4 t4 (Go.Value.bool false)) (fun w => dn (some Go.Code.ret) w) w) (S.h P H_1 (Instr.loadAt 36 t11) (fun t100 w => S.h P
    H_1 (Instr.loadAt 36 (nth vs_1 0)) (fun t101 w => S.h P H_1 (S.bin Go.BinOp.neq 36 (Go.Operand.tmp 100) (Go.Operand.tmp 101) t100 t101) (fun t102 w => br
    t102 (S.u P (Instr.storeAt 4 t4 (Go.Value.bool false)) (fun w => dn (some Go.Code.ret) w) w) (dn none w)) w) w) w)) w)) w) w) w) w) w)) w) w) w) w) w) w))
    w) (fun J_1 => S.drawn (fun w => ∃ H_2 : World → Prop, H_2 w ∧ (S.h P H_2 (Instr.loadAt 23 t5) (fun t75 w => S.h P H_2 (Instr.loadAt 23 t5) (fun t76 w =>
    (S.call P 13 [t76] (fun t77 w => H_2 w ∧ (S.h P H_2 (S.bin Go.BinOp.add 2 (Go.Operand.tmp 77) (Go.Operand.tmp 78) t77 (nth ax 0)) (fun t79 w => (S.call P
    15 [t75, t79] (fun t80 w => H_2 w ∧ (S.h P H_2 (Instr.extract t80 0) (fun t81 w => S.h P H_2 (Instr.extract t80 1) (fun t82 w => S.v P (Instr.alloc 36 true
    (.tuple #[])) (fun t12 w => H_2 w ∧ (S.u P (Instr.storeAt 36 t12 t81) (fun w => H_2 w ∧ (J_1 [t12, t82] w)) w)) w) w) w)) w) ∧ (S.v P (Instr.alloc 36 true
    (.tuple #[])) (fun t12_1 w => H_2 w ∧ (S.call P 15 [t75, t79] (fun t80_1 w => H_2 w ∧ (S.h P H_2 (Instr.extract t80_1 0) (fun t81_1 w => S.h P H_2
    (Instr.extract t80_1 1) (fun t82_1 w => S.u P (Instr.storeAt 36 t12_1 t81_1) (fun w => H_2 w ∧ (J_1 [t12_1, t82_1] w)) w) w) w)) w)) w)) w)) w) ∧ (S.v P
    (Instr.alloc 36 true (.tuple #[])) (fun t12_2 w => H_2 w ∧ (S.call P 13 [t76] (fun t77_1 w => H_2 w ∧ (S.h P H_2 (S.bin Go.BinOp.add 2 (Go.Operand.tmp 77)
    (Go.Operand.tmp 78) t77_1 (nth ax 0)) (fun t79_1 w => S.call P 15 [t75, t79_1] (fun t80_2 w => H_2 w ∧ (S.h P H_2 (Instr.extract t80_2 0) (fun t81_2 w =>
    S.h P H_2 (Instr.extract t80_2 1) (fun t82_2 w => S.u P (Instr.storeAt 36 t12_2 t81_2) (fun w => H_2 w ∧ (J_1 [t12_2, t82_2] w)) w) w) w)) w) w)) w)) w))
    w) w)) w)) w) w) w) (fun b w => S.u P (Instr.storeAt 4 t4 (Go.Value.bool true)) (fun w => S.closes (marksOf (addMark b undef)) (fun w => S.p P (S.ldR 4 t4)
    (fun r4_6 w => K r4_6 w) w) w) w) (fun b_1 w => S.closes (marksOf (addMark b_1 undef)) (fun w => S.p P (S.ldR 4 t4) (fun r4_7 w => K r4_7 w) w) w) w) w)
    w)) w) w) w)) w)) w) w) w) w) w)) w)) w) w) w) w) w)) w)) w) → I [x9, x36, x37, x43, x50] w) [undef, (Go.Value.int Go.IntKind.i64 0), undef, undef, undef]
    w) w) w)) w)) w) w) (S.v P (S.bin Go.BinOp.neq 4 (Go.Operand.tmp 23) (Go.Operand.tmp 29) t23 (Go.Value.bool false)) (fun t30_1 w => br t30_1 (S.u P
    (Instr.storeAt 4 t4 (Go.Value.bool false)) (fun w => S.p P (S.ldR 4 t4) (fun r4_8 w => K r4_8 w) w) w) (S.v P (S.bin Go.BinOp.neq 24 (Go.Operand.tmp 32)
    (Go.Operand.const (Go.Value.int Go.IntKind.i64 0)) t18 (Go.Value.int Go.IntKind.i64 0)) (fun t33_1 w => br t33_1 (S.u P (Instr.storeAt 4 t4 (Go.Value.bool
    true)) (fun w => S.p P (S.ldR 4 t4) (fun r4_9 w => K r4_9 w) w) w) (S.v P (Instr.alloc 28 true (.tuple #[])) (fun t7_1 w => S.v P (Builtin.len_ #[22] 3
    #[a1]) (fun t35_1 w => S.loop (fun I_1 => ∀ (x9_1 : Value) (x36_1 : Value) (x37_1 : Value) (x43_1 : Value) (x50_1 : Value) (w : World), (S.v P (S.bin
    Go.BinOp.lss 3 (Go.Operand.tmp 36) (Go.Operand.tmp 35) x36_1 t35_1) (fun t37_1 w => br t37_1 (S.v P (Instr.indexAt 22 a1 x36_1) (fun t38_1 w => S.v P
    (Instr.loadAt 28 t38_1) (fun t39_1 w => S.seq (fun vs_2 w => S.v P (Instr.loadAt 23 t5) (fun t47_1 w => S.call P 12 [t47_1] (fun t48_1 w => S.v P (S.bin
    Go.BinOp.gtr 3 (Go.Operand.tmp 48) (Go.Operand.tmp 49) t48_1 a0) (fun t50_1 w => br t50_1 (S.u P (Instr.storeAt 4 t4 (Go.Value.bool false)) (fun w => S.p P
    (S.ldR 4 t4) (fun r4_10 w => K r4_10 w) w) w) (S.v P (S.bin Go.BinOp.add 3 (Go.Operand.tmp 36) (Go.Operand.const (Go.Value.int Go.IntKind.i64 1)) x36_1
    (Go.Value.int Go.IntKind.i64 1)) (fun t51_1 w => I_1 [t39_1, t51_1, t37_1, (nth vs_2 0), t50_1] w) w)) w) w) w) (fun J_2 => S.v P (Instr.loadAt 23 t5) (fun
    t40_1 w => S.call P 11 [t40_1, t39_1] (fun t42_1 w => S.v P (S.bin Go.BinOp.eql 24 (Go.Operand.tmp 42) (Go.Operand.const (Go.Value.int Go.IntKind.i64 0))
    t42_1 (Go.Value.int Go.IntKind.i64 0)) (fun t43_1 w => br t43_1 (S.v P (Instr.loadAt 28 t7_1) (fun t44_1 w => S.v P (Builtin.append_ #[28, 28] 28 #[t44_1,
    t39_1]) (fun t46_1 w => S.u P (Instr.storeAt 28 t7_1 t46_1) (fun w => J_2 [t43_1] w) w) w) w) (J_2 [t43_1] w)) w) w) w)) w) w) (S.drawn (fun w => ∃ H_3 :
    World → Prop, H_3 w ∧ (S.h P H_3 (Instr.loadAt 23 t5) (fun t52_1 w => S.h P H_3 (Instr.loadAt 28 t7_1) (fun t55_1 w => S.h P H_3 (Builtin.len_ #[28] 3
    #[t55_1]) (fun t56_1 w => S.h P H_3 (Builtin.min_ #[3, 3] 3 #[a0, t56_1]) (fun t57_1 w => S.call P 12 [t52_1] (fun t53_1 w => H_3 w ∧ (S.h P H_3 (S.bin
    Go.BinOp.neq 3 (Go.Operand.tmp 53) (Go.Operand.tmp 57) t53_1 t57_1) (fun t58_1 w => br t58_1 (S.u P (Instr.storeAt 4 t4 (Go.Value.bool false)) (fun w =>
    S.p P (S.ldR 4 t4) (fun r4_11 w => K r4_11 w) w) w) (S.h P H_3 (Instr.loadAt 23 t5) (fun t60_1 w => S.h P H_3 (Instr.loadAt 28 t7_1) (fun t62_1 w => S.h P
    H_3 (Builtin.len_ #[28] 3 #[t62_1]) (fun t63_1 w => S.h P H_3 (Instr.loadAt 23 t5) (fun t64_1 w => S.call P 13 [t60_1] (fun t61_1 w => H_3 w ∧ (S.call P 12
    [t64_1] (fun t65_1 w => H_3 w ∧ (S.h P H_3 (S.bin Go.BinOp.sub 3 (Go.Operand.tmp 63) (Go.Operand.tmp 65) t63_1 t65_1) (fun t66_1 w => S.h P H_3 (S.bin
    Go.BinOp.add 2 (Go.Operand.tmp 66) (Go.Operand.const (Go.Value.int Go.IntKind.i64 1)) t66_1 (Go.Value.int Go.IntKind.i64 1)) (fun t67_1 w => S.h P H_3
    (S.bin Go.BinOp.neq 2 (Go.Operand.tmp 61) (Go.Operand.tmp 67) t61_1 t67_1) (fun t68_1 w => br t68_1 (S.u P (Instr.storeAt 4 t4 (Go.Value.bool false)) (fun
    w => S.p P (S.ldR 4 t4) (fun r4_12 w => K r4_12 w) w) w) (S.v P (Instr.loadAt 23 t5) (fun t70_1 w => S.call P 14 [t70_1] (fun t71_1 w => S.rng P t71_1 2
    (fun bg_1 dn_1 ax_1 w => S.v P (Instr.alloc 36 true (.tuple #[])) (fun t11_1 w => S.u P (Instr.storeAt 36 t11_1 (nth ax_1 1)) (fun w => bg_1 (fun w =>
    S.seq (fun vs_3 w => S.drawn (fun w => ∃ H_4 : World → Prop, H_4 w ∧ (S.h P H_4 (Instr.loadAt 36 t11_1) (fun t83_1 w => S.h P H_4 (Instr.loadAt 28 t7_1)
    (fun t84_1 w => S.h P H_4 (Instr.loadAt 28 t7_1) (fun t85_1 w => S.h P H_4 (Builtin.len_ #[28] 3 #[t85_1]) (fun t86_1 w => S.h P H_4 (Instr.loadAt 23 t5)
    (fun t87_1 w => S.call P 12 [t87_1] (fun t88_1 w => H_4 w ∧ (S.h P H_4 (S.bin Go.BinOp.sub 3 (Go.Operand.tmp 86) (Go.Operand.tmp 88) t86_1 t88_1) (fun
    t89_1 w => S.h P H_4 (S.bin Go.BinOp.add 3 (Go.Operand.tmp 89) (Go.Operand.tmp 90) t89_1 (nth ax_1 0)) (fun t91_1 w => S.h P H_4 (Instr.indexAt 28 t84_1
    t91_1) (fun t92_1 w => S.h P H_4 (Instr.loadAt 36 t92_1) (fun t93_1 w => S.h P H_4 (S.bin Go.BinOp.neq 36 (Go.Operand.tmp 83) (Go.Operand.tmp 93) t83_1
    t93_1) (fun t94_1 w => br t94_1 (S.u P (Instr.storeAt 4 t4 (Go.Value.bool false)) (fun w => dn_1 (some Go.Code.ret) w) w) (S.h P H_4 (Op.unary Go.UnOp.not
    (nth vs_3 1)) (fun t97_1 w => br t97_1 (S.u P (Instr.storeAt 4 t4 (Go.Value.bool false)) (fun w => dn_1 (some Go.Code.ret) w) w) (S.h P H_4 (Instr.loadAt
    36 t11_1) (fun t100_1 w => S.h P H_4 (Instr.loadAt 36 (nth vs_3 0)) (fun t101_1 w => S.h P H_4 (S.bin Go.BinOp.neq 36 (Go.Operand.tmp 100) (Go.Operand.tmp
    101) t100_1 t101_1) (fun t102_1 w => br t102_1 (S.u P (Instr.storeAt 4 t4 (Go.Value.bool false)) (fun w => dn_1 (some Go.Code.ret) w) w) (dn_1 none w)) w)
    w) w)) w)) w) w) w) w) w)) w) w) w) w) w) w)) w) (fun J_3 => S.drawn (fun w => ∃ H_5 : World → Prop, H_5 w ∧ (S.h P H_5 (Instr.loadAt 23 t5) (fun t75_1 w
    => S.h P H_5 (Instr.loadAt 23 t5) (fun t76_1 w => (S.call P 13 [t76_1] (fun t77_2 w => H_5 w ∧ (S.h P H_5 (S.bin Go.BinOp.add 2 (Go.Operand.tmp 77)
    (Go.Operand.tmp 78) t77_2 (nth ax_1 0)) (fun t79_2 w => (S.call P 15 [t75_1, t79_2] (fun t80_3 w => H_5 w ∧ (S.h P H_5 (Instr.extract t80_3 0) (fun t81_3 w
    => S.h P H_5 (Instr.extract t80_3 1) (fun t82_3 w => S.v P (Instr.alloc 36 true (.tuple #[])) (fun t12_3 w => H_5 w ∧ (S.u P (Instr.storeAt 36 t12_3 t81_3)
    (fun w => H_5 w ∧ (J_3 [t12_3, t82_3] w)) w)) w) w) w)) w) ∧ (S.v P (Instr.alloc 36 true (.tuple #[])) (fun t12_4 w => H_5 w ∧ (S.call P 15 [t75_1, t79_2]
    (fun t80_4 w => H_5 w ∧ (S.h P H_5 (Instr.extract t80_4 0) (fun t81_4 w => S.h P H_5 (Instr.extract t80_4 1) (fun t82_4 w => S.u P (Instr.storeAt 36 t12_4
    t81_4) (fun w => H_5 w ∧ (J_3 [t12_4, t82_4] w)) w) w) w)) w)) w)) w)) w) ∧ (S.v P (Instr.alloc 36 true (.tuple #[])) (fun t12_5 w => H_5 w ∧ (S.call P 13
    [t76_1] (fun t77_3 w => H_5 w ∧ (S.h P H_5 (S.bin Go.BinOp.add 2 (Go.Operand.tmp 77) (Go.Operand.tmp 78) t77_3 (nth ax_1 0)) (fun t79_3 w => S.call P 15
    [t75_1, t79_3] (fun t80_5 w => H_5 w ∧ (S.h P H_5 (Instr.extract t80_5 0) (fun t81_5 w => S.h P H_5 (Instr.extract t80_5 1) (fun t82_5 w => S.u P
    (Instr.storeAt 36 t12_5 t81_5) (fun w => H_5 w ∧ (J_3 [t12_5, t82_5] w)) w) w) w)) w) w)) w)) w)) w) w)) w)) w) w) w) (fun b_2 w => S.u P (Instr.storeAt 4
    t4 (Go.Value.bool true)) (fun w => S.closes (marksOf (addMark b_2 undef)) (fun w => S.p P (S.ldR 4 t4) (fun r4_13 w => K r4_13 w) w) w) w) (fun b_3 w =>
    S.closes (marksOf (addMark b_3 undef)) (fun w => S.p P (S.ldR 4 t4) (fun r4_14 w => K r4_14 w) w) w) w) w) w)) w) w) w)) w)) w) w) w) w) w)) w)) w) w) w)
    w) w)) w)) w) → I_1 [x9_1, x36_1, x37_1, x43_1, x50_1] w) [undef, (Go.Value.int Go.IntKind.i64 0), undef, undef, undef] w) w) w)) w)) w)) w) w)) w) w) w)
    w) w) w) w) w
theorem F3_chk : chkFn Try.f3 (bodyOf Try.f3) [0, 1, 4, 5, 6, 7, 9, 10, 11, 12, 13, 31, 33, 34, 35, 36, 37, 43, 50, 69, 71, 72, 73, 103] [(15, { ord := (.step 0 true (.step 2 true (.step 3 true (.step 4 true (.step 5 true (.step 1 false (.step 6 true (.step 7 true (.step 8 true (.step 10 true (.step 11 true (.step 12 true (.step 9 false (.step 13 false (.step 14 true (.step 15 true (.step 16 true (.step 17 true .fin)))))))))))))))))), flags := [1, 9, 13], held := true, init := true }), (20, { ord := (.step 0 true (.step 1 true (.step 3 true (.fork (.step 2 false (.step 4 true (.fork (.step 5 false (.step 6 true (.step 7 true (.step 8 true (.step 9 false (.step 10 false (.step 11 true .fin))))))) (.step 9 false (.step 5 false (.step 6 true (.step 7 true (.step 8 true (.step 10 false (.step 11 true .fin)))))))))) (.step 9 false (.step 2 false (.step 4 true (.step 5 false (.step 6 true (.step 7 true (.step 8 true (.step 10 false (.step 11 true .fin))))))))))))), flags := [2, 5, 9, 10], held := true, init := true }), (21, { ord := (.step 0 true (.step 1 true (.step 2 true (.step 3 true (.step 4 true (.step 7 true (.step 5 false (.step 6 true (.step 8 true (.step 9 true (.step 10 true (.step 11 true (.step 12 true (.step 13 true (.step 14 true (.step 15 true (.step 16 true (.step 17 true (.step 18 true (.step 19 true (.step 20 true .fin))))))))))))))))))))), flags := [5], held := true, init := true })] 2 = true := by kernel_rfl
theorem F3_eq (a0 a1 : Value) (K : Value → World → Prop) (w : World) : F3 Try.prog a0 a1 K w = denFn Try.prog (has ents) [(15, { ord := (.step 0 true (.step 2 true (.step 3 true (.step 4 true (.step 5 true (.step 1 false (.step 6 true (.step 7 true (.step 8 true (.step 10 true (.step 11 true (.step 12 true (.step 9 false (.step 13 false (.step 14 true (.step 15 true (.step 16 true (.step 17 true .fin)))))))))))))))))), flags := [1, 9, 13], held := true, init := true }), (20, { ord := (.step 0 true (.step 1 true (.step 3 true (.fork (.step 2 false (.step 4 true (.fork (.step 5 false (.step 6 true (.step 7 true (.step 8 true (.step 9 false (.step 10 false (.step 11 true .fin))))))) (.step 9 false (.step 5 false (.step 6 true (.step 7 true (.step 8 true (.step 10 false (.step 11 true .fin)))))))))) (.step 9 false (.step 2 false (.step 4 true (.step 5 false (.step 6 true (.step 7 true (.step 8 true (.step 10 false (.step 11 true .fin))))))))))))), flags := [2, 5, 9, 10], held := true, init := true }), (21, { ord := (.step 0 true (.step 1 true (.step 2 true (.step 3 true (.step 4 true (.step 7 true (.step 5 false (.step 6 true (.step 8 true (.step 9 true (.step 10 true (.step 11 true (.step 12 true (.step 13 true (.step 14 true (.step 15 true (.step 16 true (.step 17 true (.step 18 true (.step 19 true (.step 20 true .fin))))))))))))))))))))), flags := [5], held := true, init := true })] [0, 1, 4, 5, 6, 7, 9, 10, 11, 12, 13, 31, 33, 34, 35, 36, 37, 43, 50, 69, 71, 72, 73, 103] (bodyOf Try.f3) Try.f3.results.toList [a0, a1] K w := by kernel_rfl
theorem F3_link {a0 a1 : Value} {K : Value → World → Prop} {w : World} (h : F3 Try.prog a0 a1 K w) : S.call Try.prog 3 [a0, a1] K w :=
  calls_of_den entOk mixOk Try.func3 rfl F3_chk (Eq.mp (F3_eq a0 a1 K w) h)
/-- lanyard/lanyardlaw10.HistComesBack -/
def F4 (P : Program) (a0 a1 : Value) (K : Value → World → Prop) (w : World) : Prop :=
  S.v P (Instr.alloc 4 true (.tuple #[])) (fun t4 w => S.call P 16 [(Go.Value.int Go.IntKind.i64 4096), a0] (fun t25 w => S.v P (Instr.extract t25 0) (fun t26 w
    => S.v P (Instr.extract t25 1) (fun t27 w => S.v P (Instr.alloc 23 true (.tuple #[])) (fun t5 w => S.u P (Instr.storeAt 23 t5 t26) (fun w => S.call P 10 []
    (fun t28 w => S.v P (Op.unary Go.UnOp.not t28) (fun t29 w => br t29 (S.u P (Instr.storeAt 4 t4 (Go.Value.bool false)) (fun w => S.p P (S.ldR 4 t4) (fun r4
    w => K r4 w) w) w) (S.v P (S.bin Go.BinOp.neq 24 (Go.Operand.tmp 30) (Go.Operand.const (Go.Value.int Go.IntKind.i64 0)) t27 (Go.Value.int Go.IntKind.i64
    0)) (fun t31 w => br t31 (S.v P (S.bin Go.BinOp.eql 24 (Go.Operand.tmp 32) (Go.Operand.const (Go.Value.int Go.IntKind.i64 3)) t27 (Go.Value.int
    Go.IntKind.i64 3)) (fun t33 w => br t33 (S.u P (Instr.storeAt 4 t4 (Go.Value.bool true)) (fun w => S.p P (S.ldR 4 t4) (fun r4_1 w => K r4_1 w) w) w) (S.v P
    (S.bin Go.BinOp.eql 24 (Go.Operand.tmp 35) (Go.Operand.const (Go.Value.int Go.IntKind.i64 1)) t27 (Go.Value.int Go.IntKind.i64 1)) (fun t36 w => S.u P
    (Instr.storeAt 4 t4 t36) (fun w => S.p P (S.ldR 4 t4) (fun r4_2 w => K r4_2 w) w) w) w)) w) (S.v P (Instr.loadAt 23 t5) (fun t39 w => S.call P 17 [t39]
    (fun t40 w => S.v P (Instr.extract t40 0) (fun t41 w => S.v P (Instr.extract t40 1) (fun t42 w => S.seq (fun vs w => br (nth vs 0) (S.u P (Instr.storeAt 4
    t4 (Go.Value.bool false)) (fun w => S.p P (S.ldR 4 t4) (fun r4_3 w => K r4_3 w) w) w) (S.v P (Instr.makeMap 45 none) (fun t56 w => S.v P (Instr.loadAt 23
    t5) (fun t57 w => S.call P 12 [t57] (fun t58 w => S.u P (Instr.mapUpdate 45 t56 t58 (Go.Value.string { data := #[] })) (fun w => S.v P (Instr.alloc 45 true
    (.tuple #[])) (fun t8 w => S.u P (Instr.storeAt 45 t8 t56) (fun w => S.v P (Instr.loadAt 23 t5) (fun t60 w => S.call P 14 [t60] (fun t61 w => S.rng P t61 2
    (fun bg dn ax w => S.v P (Instr.alloc 36 true (.tuple #[])) (fun t10 w => S.u P (Instr.storeAt 36 t10 (nth ax 1)) (fun w => bg (fun w => S.v P
    (Instr.loadAt 45 t8) (fun t64 w => S.v P (Instr.fieldAt 36 t10 0) (fun t66 w => S.v P (Instr.loadAt 9 t66) (fun t67 w => S.u P (Instr.mapUpdate 45 t64 (nth
    ax 0) t67) (fun w => dn none w) w) w) w) w) w) w) w) (fun b w => S.v P (Builtin.len_ #[40] 3 #[a1]) (fun t69 w => S.loop (fun I => ∀ (x12 : Value) (x13 :
    Value) (x14 : Value) (x15 : Value) (x70 : Value) (x71 : Value) (x86 : Value) (x98 : Value) (x115 : Value) (w : World), (S.v P (S.bin Go.BinOp.lss 3
    (Go.Operand.tmp 70) (Go.Operand.tmp 69) x70 t69) (fun t71 w => br t71 (S.seq (fun vs_1 w => S.v P (S.bin Go.BinOp.add 3 (Go.Operand.tmp 70)
    (Go.Operand.const (Go.Value.int Go.IntKind.i64 1)) x70 (Go.Value.int Go.IntKind.i64 1)) (fun t116 w => I [(nth vs_1 0), (nth vs_1 1), (nth vs_1 2), (nth
    vs_1 3), t116, t71, (nth vs_1 4), (nth vs_1 5), (nth vs_1 6)] w) w) (fun J_1 => S.v P (Instr.indexAt 40 a1 x70) (fun t72 w => S.v P (Instr.loadAt 47 t72)
    (fun t73 w => S.v P (Instr.alloc 47 true (.tuple #[])) (fun t12 w => S.u P (Instr.storeAt 47 t12 t73) (fun w => S.call P 18 [t41] (fun t75 w => S.v P
    (Instr.fieldAt 47 t12 0) (fun t78 w => S.v P (Instr.loadAt 3 t78) (fun t79 w => S.v P (Instr.fieldAt 47 t12 1) (fun t80 w => S.v P (Instr.loadAt 9 t80)
    (fun t81 w => S.call P 19 [t41, t79, t81] (fun t82 w => S.v P (Instr.extract t82 0) (fun t83 w => S.v P (Instr.extract t82 1) (fun t84 w => S.v P (S.bin
    Go.BinOp.neq 24 (Go.Operand.tmp 85) (Go.Operand.const (Go.Value.int Go.IntKind.i64 0)) t84 (Go.Value.int Go.IntKind.i64 0)) (fun t86 w => br t86 (S.v P
    (S.bin Go.BinOp.neq 24 (Go.Operand.tmp 87) (Go.Operand.const (Go.Value.int Go.IntKind.i64 6)) t84 (Go.Value.int Go.IntKind.i64 6)) (fun t88 w => br t88
    (S.v P (S.bin Go.BinOp.neq 24 (Go.Operand.tmp 90) (Go.Operand.const (Go.Value.int Go.IntKind.i64 3)) t84 (Go.Value.int Go.IntKind.i64 3)) (fun t91 w => br
    t91 (S.u P (Instr.storeAt 4 t4 (Go.Value.bool false)) (fun w => S.closes (marksOf (addMark b undef)) (fun w => S.p P (S.ldR 4 t4) (fun r4_4 w => K r4_4 w)
    w) w) w) (S.call P 18 [t41] (fun t95 w => S.v P (S.bin Go.BinOp.neq 3 (Go.Operand.tmp 95) (Go.Operand.tmp 96) t95 t75) (fun t97 w => br t97 (S.u P
    (Instr.storeAt 4 t4 (Go.Value.bool false)) (fun w => S.closes (marksOf (addMark b undef)) (fun w => S.p P (S.ldR 4 t4) (fun r4_5 w => K r4_5 w) w) w) w)
    (J_1 [t12, t75, t83, t84, t86, t97, x115] w)) w) w)) w) (S.call P 18 [t41] (fun t95_1 w => S.v P (S.bin Go.BinOp.neq 3 (Go.Operand.tmp 95) (Go.Operand.tmp
    96) t95_1 t75) (fun t97_1 w => br t97_1 (S.u P (Instr.storeAt 4 t4 (Go.Value.bool false)) (fun w => S.closes (marksOf (addMark b undef)) (fun w => S.p P
    (S.ldR 4 t4) (fun r4_6 w => K r4_6 w) w) w) w) (J_1 [t12, t75, t83, t84, t86, t97_1, x115] w)) w) w)) w) (S.v P (Instr.loadAt 45 t8) (fun t99 w => S.v P
    (Instr.fieldAt 47 t12 1) (fun t101 w => S.v P (Instr.loadAt 9 t101) (fun t102 w => S.u P (Instr.mapUpdate 45 t99 t75 t102) (fun w => S.drawn (fun w => ∃ H
    : World → Prop, H w ∧ (S.h P H (Instr.loadAt 45 t8) (fun t104 w => S.h P H (Instr.fieldAt 47 t12 0) (fun t105 w => S.h P H (Instr.loadAt 3 t105) (fun t106
    w => S.v P (Instr.lookup 45 t104 t106 false) (fun t107 w => H w ∧ (S.h P H (S.bin Go.BinOp.neq 9 (Go.Operand.tmp 103) (Go.Operand.tmp 107) t83 t107) (fun
    t108 w => br t108 (S.u P (Instr.storeAt 4 t4 (Go.Value.bool false)) (fun w => S.closes (marksOf (addMark b undef)) (fun w => S.p P (S.ldR 4 t4) (fun r4_7 w
    => K r4_7 w) w) w) w) (S.h P H (Instr.fieldAt 47 t12 0) (fun t112 w => S.h P H (Instr.loadAt 3 t112) (fun t113 w => S.call P 18 [t41] (fun t111 w => H w ∧
    (S.h P H (S.bin Go.BinOp.neq 3 (Go.Operand.tmp 111) (Go.Operand.tmp 113) t111 t113) (fun t114 w => br t114 (S.u P (Instr.storeAt 4 t4 (Go.Value.bool
    false)) (fun w => S.closes (marksOf (addMark b undef)) (fun w => S.p P (S.ldR 4 t4) (fun r4_8 w => K r4_8 w) w) w) w) (J_1 [t12, t75, t83, t84, t86, x98,
    t114] w)) w)) w) w) w)) w)) w) w) w) w)) w) w) w) w) w)) w) w) w) w) w) w) w) w) w) w) w) w) w)) (S.v P (Instr.alloc 3 true (.tuple #[])) (fun t16 w => S.u
    P (Instr.storeAt 3 t16 (Go.Value.int Go.IntKind.i64 0)) (fun w => S.v P (Instr.loadAt 23 t5) (fun t117 w => S.call P 14 [t117] (fun t118 w => S.rng P t118
    2 (fun bg_1 dn_1 ax_1 w => S.v P (Instr.alloc 36 true (.tuple #[])) (fun t18 w => S.u P (Instr.storeAt 36 t18 (nth ax_1 1)) (fun w => bg_1 (fun w => S.v P
    (Instr.fieldAt 36 t18 0) (fun t121 w => S.v P (Instr.loadAt 9 t121) (fun t122 w => S.v P (Instr.loadAt 45 t8) (fun t123 w => S.v P (Instr.lookup 45 t123
    (nth ax_1 0) false) (fun t125 w => S.v P (S.bin Go.BinOp.neq 9 (Go.Operand.tmp 122) (Go.Operand.tmp 125) t122 t125) (fun t126 w => br t126 (S.v P
    (Instr.loadAt 3 t16) (fun t127 w => S.v P (S.bin Go.BinOp.add 3 (Go.Operand.tmp 127) (Go.Operand.const (Go.Value.int Go.IntKind.i64 1)) t127 (Go.Value.int
    Go.IntKind.i64 1)) (fun t128 w => S.u P (Instr.storeAt 3 t16 t128) (fun w => dn_1 none w) w) w) w) (dn_1 none w)) w) w) w) w) w) w) w) w) (fun b_2 w =>
    S.call P 20 [t41] (fun t130 w => S.rng P t130 2 (fun bg_2 dn_2 ax_2 w => bg_2 (fun w => S.v P (Instr.loadAt 23 t5) (fun t134 w => S.call P 21 [t134, (nth
    ax_2 0)] (fun t136 w => S.v P (Instr.extract t136 0) (fun t137 w => S.v P (Instr.extract t136 1) (fun t138 w => S.v P (Instr.alloc 36 true (.tuple #[]))
    (fun t21 w => S.u P (Instr.storeAt 36 t21 t137) (fun w => S.v P (Op.unary Go.UnOp.not t138) (fun t140 w => br t140 (S.u P (Instr.storeAt 4 t4
    (Go.Value.bool false)) (fun w => dn_2 (some Go.Code.ret) w) w) (S.v P (Instr.fieldAt 36 t21 0) (fun t142 w => S.v P (Instr.loadAt 9 t142) (fun t143 w =>
    S.v P (S.bin Go.BinOp.eql 9 (Go.Operand.tmp 143) (Go.Operand.tmp 144) t143 (nth ax_2 1)) (fun t145 w => br t145 (S.u P (Instr.storeAt 4 t4 (Go.Value.bool
    false)) (fun w => dn_2 (some Go.Code.ret) w) w) (S.v P (Instr.loadAt 45 t8) (fun t148 w => S.v P (Instr.lookup 45 t148 (nth ax_2 0) false) (fun t150 w =>
    S.v P (S.bin Go.BinOp.neq 9 (Go.Operand.tmp 150) (Go.Operand.tmp 151) t150 (nth ax_2 1)) (fun t152 w => br t152 (S.u P (Instr.storeAt 4 t4 (Go.Value.bool
    false)) (fun w => dn_2 (some Go.Code.ret) w) w) (S.v P (Instr.loadAt 3 t16) (fun t154 w => S.v P (S.bin Go.BinOp.sub 3 (Go.Operand.tmp 154)
    (Go.Operand.const (Go.Value.int Go.IntKind.i64 1)) t154 (Go.Value.int Go.IntKind.i64 1)) (fun t155 w => S.u P (Instr.storeAt 3 t16 t155) (fun w => dn_2
    none w) w) w) w)) w) w) w)) w) w) w)) w) w) w) w) w) w) w) w) (fun b_4 w => S.seq (fun vs_2 w => S.closes (marksOf (addMark b_4 (addMark b_2 (addMark b
    undef)))) (fun w => S.p P (S.ldR 4 t4) (fun r4_9 w => K r4_9 w) w) w) (fun J_2 => S.drawn (fun w => S.v P (Instr.loadAt 3 t16) (fun t156 w => S.v P (S.bin
    Go.BinOp.eql 3 (Go.Operand.tmp 156) (Go.Operand.const (Go.Value.int Go.IntKind.i64 0)) t156 (Go.Value.int Go.IntKind.i64 0)) (fun t157 w => br t157 ((S.v P
    (Instr.loadAt 23 t5) (fun t159 w => (S.call P 12 [t159] (fun t160 w => S.v P (Instr.loadAt 45 t8) (fun t161 w => S.v P (Builtin.len_ #[45] 3 #[t161]) (fun
    t162 w => S.v P (S.bin Go.BinOp.sub 3 (Go.Operand.tmp 162) (Go.Operand.const (Go.Value.int Go.IntKind.i64 1)) t162 (Go.Value.int Go.IntKind.i64 1)) (fun
    t163 w => S.v P (S.bin Go.BinOp.eql 3 (Go.Operand.tmp 160) (Go.Operand.tmp 163) t160 t163) (fun t164 w => S.u P (Instr.storeAt 4 t4 t164) (fun w => J_2 []
    w) w) w) w) w) w) w) ∧ (S.v P (Instr.loadAt 45 t8) (fun t161_1 w => S.call P 12 [t159] (fun t160_1 w => S.v P (Builtin.len_ #[45] 3 #[t161_1]) (fun t162_1
    w => S.v P (S.bin Go.BinOp.sub 3 (Go.Operand.tmp 162) (Go.Operand.const (Go.Value.int Go.IntKind.i64 1)) t162_1 (Go.Value.int Go.IntKind.i64 1)) (fun
    t163_1 w => S.v P (S.bin Go.BinOp.eql 3 (Go.Operand.tmp 160) (Go.Operand.tmp 163) t160_1 t163_1) (fun t164_1 w => S.u P (Instr.storeAt 4 t4 t164_1) (fun w
    => J_2 [] w) w) w) w) w) w) w)) w) ∧ (S.v P (Instr.loadAt 45 t8) (fun t161_2 w => S.v P (Instr.loadAt 23 t5) (fun t159_1 w => S.call P 12 [t159_1] (fun
    t160_2 w => S.v P (Builtin.len_ #[45] 3 #[t161_2]) (fun t162_2 w => S.v P (S.bin Go.BinOp.sub 3 (Go.Operand.tmp 162) (Go.Operand.const (Go.Value.int
    Go.IntKind.i64 1)) t162_2 (Go.Value.int Go.IntKind.i64 1)) (fun t163_2 w => S.v P (S.bin Go.BinOp.eql 3 (Go.Operand.tmp 160) (Go.Operand.tmp 163) t160_2
    t163_2) (fun t164_2 w => S.u P (Instr.storeAt 4 t4 t164_2) (fun w => J_2 [] w) w) w) w) w) w) w) w)) (((S.u P (Instr.storeAt 4 t4 (Go.Value.bool false))
    (fun w => J_2 [] w) w) ∧ (S.u P (Instr.storeAt 4 t4 (Go.Value.bool false)) (fun w => J_2 [] w) w)) ∧ (S.u P (Instr.storeAt 4 t4 (Go.Value.bool false)) (fun
    w => J_2 [] w) w))) w) w) w)) (fun b_5 w => S.closes (marksOf (addMark b_5 (addMark b_2 (addMark b undef)))) (fun w => S.p P (S.ldR 4 t4) (fun r4_10 w => K
    r4_10 w) w) w) w) w) (fun b_3 w => S.closes (marksOf (addMark b_3 (addMark b undef))) (fun w => S.p P (S.ldR 4 t4) (fun r4_11 w => K r4_11 w) w) w) w) w)
    w) w) w)) w) → I [x12, x13, x14, x15, x70, x71, x86, x98, x115] w) [undef, undef, undef, undef, (Go.Value.int Go.IntKind.i64 0), undef, undef, undef,
    undef] w) w) (fun b_1 w => S.closes (marksOf (addMark b_1 undef)) (fun w => S.p P (S.ldR 4 t4) (fun r4_12 w => K r4_12 w) w) w) w) w) w) w) w) w) w) w) w))
    (fun J => S.drawn (fun w => S.v P (S.bin Go.BinOp.eql 42 (Go.Operand.tmp 43) (Go.Operand.const (Go.Value.pointer none)) t41 (Go.Value.pointer none)) (fun
    t44 w => br t44 ((J [(Go.Value.bool true)] w) ∧ (J [(Go.Value.bool true)] w)) (S.v P (S.bin Go.BinOp.neq 24 (Go.Operand.tmp 46) (Go.Operand.const
    (Go.Value.int Go.IntKind.i64 0)) t42 (Go.Value.int Go.IntKind.i64 0)) (fun t47 w => br t47 ((J [(Go.Value.bool true)] w) ∧ (J [(Go.Value.bool true)] w))
    ((S.call P 18 [t41] (fun t51 w => S.v P (Instr.loadAt 23 t5) (fun t52 w => S.call P 12 [t52] (fun t53 w => S.v P (S.bin Go.BinOp.neq 3 (Go.Operand.tmp 51)
    (Go.Operand.tmp 53) t51 t53) (fun t54 w => J [t54] w) w) w) w) w) ∧ (S.v P (Instr.loadAt 23 t5) (fun t52_1 w => S.call P 18 [t41] (fun t51_1 w => S.call P
    12 [t52_1] (fun t53_1 w => S.v P (S.bin Go.BinOp.neq 3 (Go.Operand.tmp 51) (Go.Operand.tmp 53) t51_1 t53_1) (fun t54_1 w => J [t54_1] w) w) w) w) w))) w))
    w) w)) w) w) w) w)) w)) w) w) w) w) w) w) w) w
theorem F4_chk : chkFn Try.f4 (bodyOf Try.f4) [0, 1, 4, 5, 6, 7, 8, 9, 10, 12, 13, 14, 15, 16, 17, 18, 19, 20, 21, 22, 29, 31, 55, 61, 62, 63, 68, 69, 70, 71, 86, 98, 115, 118, 119, 120, 126, 130, 131, 132, 153] [(7, { ord := (.step 0 true (.step 1 false (.step 2 true (.step 3 true (.step 4 false (.step 5 false (.step 6 true (.step 7 true (.fork (.step 8 false (.step 9 false (.step 10 false (.step 11 false (.step 12 false .fin))))) (.step 9 false (.step 8 false (.step 10 false (.step 11 false (.step 12 false .fin)))))))))))))), flags := [], held := false, init := true }), (23, { ord := (.step 0 true (.step 1 true (.step 2 true (.step 3 true (.step 4 false (.step 5 true (.step 6 true (.step 7 true (.step 9 true (.step 10 true (.step 8 false (.step 11 true (.step 12 true .fin))))))))))))), flags := [4, 8], held := true, init := true }), (39, { ord := (.step 0 false (.step 1 false (.step 2 true (.fork (.step 3 false (.fork (.step 4 false (.step 5 false (.step 6 false (.step 7 false (.step 8 false (.step 9 false (.step 10 false .fin))))))) (.step 5 false (.step 4 false (.step 6 false (.step 7 false (.step 8 false (.step 9 false (.step 10 false .fin))))))))) (.step 5 false (.step 3 false (.step 4 false (.step 6 false (.step 7 false (.step 8 false (.step 9 false (.step 10 false .fin)))))))))))), flags := [], held := false, init := true })] 2 = true := by kernel_rfl
theorem F4_eq (a0 a1 : Value) (K : Value → World → Prop) (w : World) : F4 Try.prog a0 a1 K w = denFn Try.prog (has ents) [(7, { ord := (.step 0 true (.step 1 false (.step 2 true (.step 3 true (.step 4 false (.step 5 false (.step 6 true (.step 7 true (.fork (.step 8 false (.step 9 false (.step 10 false (.step 11 false (.step 12 false .fin))))) (.step 9 false (.step 8 false (.step 10 false (.step 11 false (.step 12 false .fin)))))))))))))), flags := [], held := false, init := true }), (23, { ord := (.step 0 true (.step 1 true (.step 2 true (.step 3 true (.step 4 false (.step 5 true (.step 6 true (.step 7 true (.step 9 true (.step 10 true (.step 8 false (.step 11 true (.step 12 true .fin))))))))))))), flags := [4, 8], held := true, init := true }), (39, { ord := (.step 0 false (.step 1 false (.step 2 true (.fork (.step 3 false (.fork (.step 4 false (.step 5 false (.step 6 false (.step 7 false (.step 8 false (.step 9 false (.step 10 false .fin))))))) (.step 5 false (.step 4 false (.step 6 false (.step 7 false (.step 8 false (.step 9 false (.step 10 false .fin))))))))) (.step 5 false (.step 3 false (.step 4 false (.step 6 false (.step 7 false (.step 8 false (.step 9 false (.step 10 false .fin)))))))))))), flags := [], held := false, init := true })] [0, 1, 4, 5, 6, 7, 8, 9, 10, 12, 13, 14, 15, 16, 17, 18, 19, 20, 21, 22, 29, 31, 55, 61, 62, 63, 68, 69, 70, 71, 86, 98, 115, 118, 119, 120, 126, 130, 131, 132, 153] (bodyOf Try.f4) Try.f4.results.toList [a0, a1] K w := by kernel_rfl
theorem F4_link {a0 a1 : Value} {K : Value → World → Prop} {w : World} (h : F4 Try.prog a0 a1 K w) : S.call Try.prog 4 [a0, a1] K w :=
  calls_of_den entOk mixOk Try.func4 rfl F4_chk (Eq.mp (F4_eq a0 a1 K w) h)
/-- lanyard/lanyardlaw10.HistWalks -/
def F5 (P : Program) (a0 a1 a2 : Value) (K : Value → World → Prop) (w : World) : Prop :=
  S.call P 16 [(Go.Value.int Go.IntKind.i64 4096), a0] (fun t25 w => S.v P (Instr.extract t25 0) (fun t26 w => S.v P (Instr.extract t25 1) (fun t27 w => S.call P
    22 [(Go.Value.int Go.IntKind.i64 4096), a0] (fun t30 w => S.v P (Instr.extract t30 0) (fun t31 w => S.v P (Instr.extract t30 1) (fun t32 w => S.call P 10
    [] (fun t33 w => S.v P (Op.unary Go.UnOp.not t33) (fun t34 w => br t34 (K (Go.Value.bool false) w) (S.v P (S.bin Go.BinOp.neq 24 (Go.Operand.tmp 36)
    (Go.Operand.tmp 37) t27 t32) (fun t38 w => br t38 (K (Go.Value.bool false) w) (S.v P (S.bin Go.BinOp.neq 24 (Go.Operand.tmp 40) (Go.Operand.const
    (Go.Value.int Go.IntKind.i64 0)) t27 (Go.Value.int Go.IntKind.i64 0)) (fun t41 w => br t41 (K (Go.Value.bool true) w) (S.call P 17 [t26] (fun t44 w => S.v
    P (Instr.extract t44 0) (fun t45 w => S.v P (Instr.extract t44 1) (fun t46 w => S.call P 23 [t31] (fun t48 w => S.v P (S.bin Go.BinOp.eql 42
    (Go.Operand.tmp 49) (Go.Operand.const (Go.Value.pointer none)) t45 (Go.Value.pointer none)) (fun t50 w => br t50 (K (Go.Value.bool false) w) (S.v P (S.bin
    Go.BinOp.neq 24 (Go.Operand.tmp 52) (Go.Operand.const (Go.Value.int Go.IntKind.i64 0)) t46 (Go.Value.int Go.IntKind.i64 0)) (fun t53 w => br t53 (K
    (Go.Value.bool false) w) (S.call P 11 [t26, a2] (fun t57 w => S.v P (Builtin.len_ #[40] 3 #[a1]) (fun t59 w => S.loop (fun I => ∀ (x6 : Value) (x14 :
    Value) (x15 : Value) (x16 : Value) (x17 : Value) (x18 : Value) (x19 : Value) (x20 : Value) (x21 : Value) (x22 : Value) (x60 : Value) (x61 : Value) (x129 :
    Value) (w : World), (S.v P (S.bin Go.BinOp.lss 3 (Go.Operand.tmp 60) (Go.Operand.tmp 59) x60 t59) (fun t61 w => br t61 (S.v P (Instr.indexAt 40 a1 x60)
    (fun t62 w => S.v P (Instr.loadAt 47 t62) (fun t63 w => S.v P (Instr.alloc 47 true (.tuple #[])) (fun t14 w => S.u P (Instr.storeAt 47 t14 t63) (fun w =>
    S.v P (Instr.fieldAt 47 t14 0) (fun t66 w => S.v P (Instr.loadAt 3 t66) (fun t67 w => S.v P (Instr.fieldAt 47 t14 1) (fun t68 w => S.v P (Instr.loadAt 9
    t68) (fun t69 w => S.call P 19 [t45, t67, t69] (fun t70 w => S.v P (Instr.extract t70 0) (fun t71 w => S.v P (Instr.extract t70 1) (fun t72 w => S.v P
    (Instr.fieldAt 47 t14 0) (fun t75 w => S.v P (Instr.loadAt 3 t75) (fun t76 w => S.v P (Instr.fieldAt 47 t14 1) (fun t77 w => S.v P (Instr.loadAt 9 t77)
    (fun t78 w => S.call P 24 [t48, t76, t78] (fun t79 w => S.v P (Instr.extract t79 0) (fun t80 w => S.v P (Instr.extract t79 1) (fun t81 w => S.v P
    (Instr.fieldAt 47 t14 0) (fun t84 w => S.v P (Instr.loadAt 3 t84) (fun t85 w => S.call P 25 [t45, t85] (fun t86 w => S.v P (Instr.extract t86 0) (fun t87 w
    => S.v P (Instr.extract t86 1) (fun t88 w => S.v P (Instr.fieldAt 47 t14 0) (fun t91 w => S.v P (Instr.loadAt 3 t91) (fun t92 w => S.call P 26 [t48, t92]
    (fun t93 w => S.v P (Instr.extract t93 0) (fun t94 w => S.v P (Instr.extract t93 1) (fun t95 w => S.seq (fun vs w => br (nth vs 0) (K (Go.Value.bool false)
    w) (S.v P (S.bin Go.BinOp.add 3 (Go.Operand.tmp 60) (Go.Operand.const (Go.Value.int Go.IntKind.i64 1)) x60 (Go.Value.int Go.IntKind.i64 1)) (fun t130 w =>
    I [x6, t14, t71, t72, t80, t81, t87, t88, t94, t95, t130, t61, (nth vs 0)] w) w)) (fun J => S.drawn (fun w => S.v P (S.bin Go.BinOp.neq 9 (Go.Operand.tmp
    96) (Go.Operand.tmp 97) t71 t80) (fun t98 w => br t98 ((J [(Go.Value.bool true)] w) ∧ ((J [(Go.Value.bool true)] w) ∧ ((J [(Go.Value.bool true)] w) ∧ (J
    [(Go.Value.bool true)] w)))) (S.v P (S.bin Go.BinOp.neq 24 (Go.Operand.tmp 100) (Go.Operand.tmp 101) t72 t81) (fun t102 w => br t102 ((J [(Go.Value.bool
    true)] w) ∧ ((J [(Go.Value.bool true)] w) ∧ ((J [(Go.Value.bool true)] w) ∧ (J [(Go.Value.bool true)] w)))) (S.v P (S.bin Go.BinOp.neq 9 (Go.Operand.tmp
    105) (Go.Operand.tmp 106) t87 t94) (fun t107 w => br t107 ((J [(Go.Value.bool true)] w) ∧ ((J [(Go.Value.bool true)] w) ∧ ((J [(Go.Value.bool true)] w) ∧
    (J [(Go.Value.bool true)] w)))) (S.v P (S.bin Go.BinOp.neq 4 (Go.Operand.tmp 110) (Go.Operand.tmp 111) t88 t95) (fun t112 w => br t112 ((J [(Go.Value.bool
    true)] w) ∧ ((J [(Go.Value.bool true)] w) ∧ ((J [(Go.Value.bool true)] w) ∧ (J [(Go.Value.bool true)] w)))) ((S.call P 18 [t45] (fun t116 w => S.v P
    (S.nilC t48) (fun t118 w => S.v P (Instr.fieldAt 64 t118 2) (fun t119 w => S.v P (Instr.loadAt 3 t119) (fun t120 w => S.v P (S.bin Go.BinOp.neq 3
    (Go.Operand.tmp 116) (Go.Operand.tmp 120) t116 t120) (fun t121 w => br t121 (J [(Go.Value.bool true)] w) (S.call P 28 [t48] (fun t126 w => S.call P 27
    [t45, t126] (fun t127 w => S.v P (Op.unary Go.UnOp.not t127) (fun t128 w => J [t128] w) w) w) w)) w) w) w) w) w) ∧ (S.v P (S.nilC t48) (fun t118_1 w =>
    (S.call P 18 [t45] (fun t116_1 w => S.v P (Instr.fieldAt 64 t118_1 2) (fun t119_1 w => S.v P (Instr.loadAt 3 t119_1) (fun t120_1 w => S.v P (S.bin
    Go.BinOp.neq 3 (Go.Operand.tmp 116) (Go.Operand.tmp 120) t116_1 t120_1) (fun t121_1 w => br t121_1 (J [(Go.Value.bool true)] w) (S.call P 28 [t48] (fun
    t126_1 w => S.call P 27 [t45, t126_1] (fun t127_1 w => S.v P (Op.unary Go.UnOp.not t127_1) (fun t128_1 w => J [t128_1] w) w) w) w)) w) w) w) w) ∧ (S.v P
    (Instr.fieldAt 64 t118_1 2) (fun t119_2 w => (S.call P 18 [t45] (fun t116_2 w => S.v P (Instr.loadAt 3 t119_2) (fun t120_2 w => S.v P (S.bin Go.BinOp.neq 3
    (Go.Operand.tmp 116) (Go.Operand.tmp 120) t116_2 t120_2) (fun t121_2 w => br t121_2 (J [(Go.Value.bool true)] w) (S.call P 28 [t48] (fun t126_2 w => S.call
    P 27 [t45, t126_2] (fun t127_2 w => S.v P (Op.unary Go.UnOp.not t127_2) (fun t128_2 w => J [t128_2] w) w) w) w)) w) w) w) ∧ (S.v P (Instr.loadAt 3 t119_2)
    (fun t120_3 w => S.call P 18 [t45] (fun t116_3 w => S.v P (S.bin Go.BinOp.neq 3 (Go.Operand.tmp 116) (Go.Operand.tmp 120) t116_3 t120_3) (fun t121_3 w =>
    br t121_3 (J [(Go.Value.bool true)] w) (S.call P 28 [t48] (fun t126_3 w => S.call P 27 [t45, t126_3] (fun t127_3 w => S.v P (Op.unary Go.UnOp.not t127_3)
    (fun t128_3 w => J [t128_3] w) w) w) w)) w) w) w)) w)) w))) w)) w)) w)) w) w)) w) w) w) w) w) w) w) w) w) w) w) w) w) w) w) w) w) w) w) w) w) w) w) w) w)
    w) w) w) (S.drawn (fun w => ∃ H : World → Prop, H w ∧ (S.h P H (S.nilC t48) (fun t134 w => S.h P H (Instr.fieldAt 64 t134 2) (fun t135 w => S.h P H
    (Instr.loadAt 3 t135) (fun t136 w => S.call P 18 [t45] (fun t132 w => H w ∧ (S.h P H (S.bin Go.BinOp.eql 3 (Go.Operand.tmp 132) (Go.Operand.tmp 136) t132
    t136) (fun t137 w => K t137 w) w)) w) w) w) w)) w)) w) → I [x6, x14, x15, x16, x17, x18, x19, x20, x21, x22, x60, x61, x129] w) [(Go.Value.bool false),
    undef, undef, undef, undef, undef, undef, undef, undef, undef, (Go.Value.int Go.IntKind.i64 0), undef, undef] w) w) w)) w)) w) w) w) w) w)) w)) w)) w) w)
    w) w) w) w) w) w
theorem F5_chk : chkFn Try.f5 (bodyOf Try.f5) [0, 1, 2, 6, 7, 8, 9, 10, 11, 12, 14, 15, 16, 17, 18, 19, 20, 21, 22, 39, 41, 54, 58, 59, 60, 61, 129] [(19, { ord := (.step 0 true (.step 1 true (.step 2 false (.step 3 true (.step 4 true (.step 5 true (.step 6 false (.step 7 false (.step 8 true (.step 9 true (.step 10 true (.step 11 false (.step 12 false (.step 13 true (.step 14 true (.step 15 true (.step 16 false (.step 17 false (.step 18 true (.step 19 true (.step 21 true (.fork (.step 20 false (.step 22 false (.step 23 false (.step 24 false (.step 25 false (.step 26 false (.step 27 true (.step 28 true (.step 29 true (.step 30 false (.step 31 false (.step 32 false (.step 33 false .fin))))))))))))) (.step 22 false (.fork (.step 20 false (.step 23 false (.step 24 false (.step 25 false (.step 26 false (.step 27 true (.step 28 true (.step 29 true (.step 30 false (.step 31 false (.step 32 false (.step 33 false .fin)))))))))))) (.step 23 false (.fork (.step 20 false (.step 24 false (.step 25 false (.step 26 false (.step 27 true (.step 28 true (.step 29 true (.step 30 false (.step 31 false (.step 32 false (.step 33 false .fin))))))))))) (.step 24 false (.step 20 false (.step 25 false (.step 26 false (.step 27 true (.step 28 true (.step 29 true (.step 30 false (.step 31 false (.step 32 false (.step 33 false .fin))))))))))))))))))))))))))))))))))))), flags := [], held := false, init := true }), (22, { ord := (.step 0 true (.step 2 true (.step 3 true (.step 4 true (.step 5 true (.step 1 false (.step 6 true (.step 7 true .fin)))))))), flags := [1], held := true, init := true })] 3 = true := by kernel_rfl
theorem F5_eq (a0 a1 a2 : Value) (K : Value → World → Prop) (w : World) : F5 Try.prog a0 a1 a2 K w = denFn Try.prog (has ents) [(19, { ord := (.step 0 true (.step 1 true (.step 2 false (.step 3 true (.step 4 true (.step 5 true (.step 6 false (.step 7 false (.step 8 true (.step 9 true (.step 10 true (.step 11 false (.step 12 false (.step 13 true (.step 14 true (.step 15 true (.step 16 false (.step 17 false (.step 18 true (.step 19 true (.step 21 true (.fork (.step 20 false (.step 22 false (.step 23 false (.step 24 false (.step 25 false (.step 26 false (.step 27 true (.step 28 true (.step 29 true (.step 30 false (.step 31 false (.step 32 false (.step 33 false .fin))))))))))))) (.step 22 false (.fork (.step 20 false (.step 23 false (.step 24 false (.step 25 false (.step 26 false (.step 27 true (.step 28 true (.step 29 true (.step 30 false (.step 31 false (.step 32 false (.step 33 false .fin)))))))))))) (.step 23 false (.fork (.step 20 false (.step 24 false (.step 25 false (.step 26 false (.step 27 true (.step 28 true (.step 29 true (.step 30 false (.step 31 false (.step 32 false (.step 33 false .fin))))))))))) (.step 24 false (.step 20 false (.step 25 false (.step 26 false (.step 27 true (.step 28 true (.step 29 true (.step 30 false (.step 31 false (.step 32 false (.step 33 false .fin))))))))))))))))))))))))))))))))))))), flags := [], held := false, init := true }), (22, { ord := (.step 0 true (.step 2 true (.step 3 true (.step 4 true (.step 5 true (.step 1 false (.step 6 true (.step 7 true .fin)))))))), flags := [1], held := true, init := true })] [0, 1, 2, 6, 7, 8, 9, 10, 11, 12, 14, 15, 16, 17, 18, 19, 20, 21, 22, 39, 41, 54, 58, 59, 60, 61, 129] (bodyOf Try.f5) Try.f5.results.toList [a0, a1, a2] K w := by kernel_rfl
theorem F5_link {a0 a1 a2 : Value} {K : Value → World → Prop} {w : World} (h : F5 Try.prog a0 a1 a2 K w) : S.call Try.prog 5 [a0, a1, a2] K w :=
  calls_of_den entOk mixOk Try.func5 rfl F5_chk (Eq.mp (F5_eq a0 a1 a2 K w) h)
/-- lanyard/lanyardlaw10.HistFinds -/
def F6 (P : Program) (a0 a1 a2 a3 a4 : Value) (K : Value → World → Prop) (w : World) : Prop :=
  S.v P (Instr.box 9 a2) (fun t7 w => S.v P (Instr.box 4 a4) (fun t9 w => S.call P 16 [(Go.Value.int Go.IntKind.i64 4096), a0] (fun t23 w => S.v P (Instr.extract
    t23 0) (fun t24 w => S.v P (Instr.extract t23 1) (fun t25 w => S.v P (Instr.alloc 23 true (.tuple #[])) (fun t11 w => S.u P (Instr.storeAt 23 t11 t24) (fun
    w => S.call P 10 [] (fun t26 w => S.v P (Op.unary Go.UnOp.not t26) (fun t27 w => br t27 (K (Go.Value.bool false) w) (S.v P (S.bin Go.BinOp.neq 24
    (Go.Operand.tmp 28) (Go.Operand.const (Go.Value.int Go.IntKind.i64 0)) t25 (Go.Value.int Go.IntKind.i64 0)) (fun t29 w => br t29 (S.v P (S.bin Go.BinOp.eql
    24 (Go.Operand.tmp 30) (Go.Operand.const (Go.Value.int Go.IntKind.i64 3)) t25 (Go.Value.int Go.IntKind.i64 3)) (fun t31 w => br t31 (K (Go.Value.bool true)
    w) (S.v P (S.bin Go.BinOp.eql 24 (Go.Operand.tmp 33) (Go.Operand.const (Go.Value.int Go.IntKind.i64 1)) t25 (Go.Value.int Go.IntKind.i64 1)) (fun t34 w =>
    K t34 w) w)) w) (S.v P (Instr.makeFunc (Go.Fn.func 29) #[] #[t11, t9, t7]) (fun t36 w => S.v P (Instr.loadAt 23 t11) (fun t38 w => S.v P (Instr.loadAt 9
    t7) (fun t40 w => S.v P (Instr.loadAt 4 t9) (fun t42 w => S.call P 32 [t38, a1, t40, a3, t42] (fun t43 w => S.v P (Instr.extract t43 0) (fun t44 w => S.v P
    (Instr.extract t43 1) (fun t45 w => S.v P (Instr.extract t43 2) (fun t46 w => S.seq (fun vs w => S.v P (Instr.loadAt 23 t11) (fun t83 w => S.call P 12
    [t83] (fun t84 w => S.loop (fun I => ∀ (x10 : Value) (x19 : Value) (x20 : Value) (x85 : Value) (x86 : Value) (x126 : Value) (w : World), (S.v P (S.bin
    Go.BinOp.lss 3 (Go.Operand.tmp 85) (Go.Operand.tmp 84) x85 t84) (fun t86 w => br t86 (br a3 (S.v P (S.bin Go.BinOp.leq 3 (Go.Operand.tmp 90)
    (Go.Operand.tmp 91) x85 a1) (fun t92 w => br t92 (S.v P (Op.unary Go.UnOp.not t46) (fun t96 w => br t96 (S.nx P (S.callV t36 [x85]) (fun t125 w => br t125
    (K (Go.Value.bool false) w) (S.v P (S.bin Go.BinOp.add 3 (Go.Operand.tmp 85) (Go.Operand.const (Go.Value.int Go.IntKind.i64 1)) x85 (Go.Value.int
    Go.IntKind.i64 1)) (fun t127 w => I [x10, x85, (Go.Value.bool true), t127, t86, t125] w) w)) w) (S.v P (S.bin Go.BinOp.gtr 3 (Go.Operand.tmp 98)
    (Go.Operand.tmp 99) x85 t44) (fun t100 w => br t100 (S.nx P (S.callV t36 [x85]) (fun t125_1 w => br t125_1 (K (Go.Value.bool false) w) (S.v P (S.bin
    Go.BinOp.add 3 (Go.Operand.tmp 85) (Go.Operand.const (Go.Value.int Go.IntKind.i64 1)) x85 (Go.Value.int Go.IntKind.i64 1)) (fun t127_1 w => I [x10, x85,
    (Go.Value.bool true), t127_1, t86, t125_1] w) w)) w) (S.v P (Op.unary Go.UnOp.not a3) (fun t105 w => br t105 (S.v P (S.bin Go.BinOp.geq 3 (Go.Operand.tmp
    107) (Go.Operand.tmp 108) x85 a1) (fun t109 w => br t109 (S.v P (Op.unary Go.UnOp.not t46) (fun t113 w => br t113 (S.nx P (S.callV t36 [x85]) (fun t125_2 w
    => br t125_2 (K (Go.Value.bool false) w) (S.v P (S.bin Go.BinOp.add 3 (Go.Operand.tmp 85) (Go.Operand.const (Go.Value.int Go.IntKind.i64 1)) x85
    (Go.Value.int Go.IntKind.i64 1)) (fun t127_2 w => I [x10, x85, (Go.Value.bool true), t127_2, t86, t125_2] w) w)) w) (S.v P (S.bin Go.BinOp.lss 3
    (Go.Operand.tmp 115) (Go.Operand.tmp 116) x85 t44) (fun t117 w => br t117 (S.nx P (S.callV t36 [x85]) (fun t125_3 w => br t125_3 (K (Go.Value.bool false)
    w) (S.v P (S.bin Go.BinOp.add 3 (Go.Operand.tmp 85) (Go.Operand.const (Go.Value.int Go.IntKind.i64 1)) x85 (Go.Value.int Go.IntKind.i64 1)) (fun t127_3 w
    => I [x10, x85, t117, t127_3, t86, t125_3] w) w)) w) (S.v P (S.bin Go.BinOp.add 3 (Go.Operand.tmp 85) (Go.Operand.const (Go.Value.int Go.IntKind.i64 1))
    x85 (Go.Value.int Go.IntKind.i64 1)) (fun t127_4 w => I [x10, x85, t117, t127_4, t86, (Go.Value.bool false)] w) w)) w)) w) (S.v P (S.bin Go.BinOp.add 3
    (Go.Operand.tmp 85) (Go.Operand.const (Go.Value.int Go.IntKind.i64 1)) x85 (Go.Value.int Go.IntKind.i64 1)) (fun t127_5 w => I [x10, x85, (Go.Value.bool
    false), t127_5, t86, (Go.Value.bool false)] w) w)) w) (S.v P (S.bin Go.BinOp.add 3 (Go.Operand.tmp 85) (Go.Operand.const (Go.Value.int Go.IntKind.i64 1))
    x85 (Go.Value.int Go.IntKind.i64 1)) (fun t127_6 w => I [x10, x85, (Go.Value.bool false), t127_6, t86, (Go.Value.bool false)] w) w)) w)) w)) w) (S.v P
    (Op.unary Go.UnOp.not a3) (fun t105_1 w => br t105_1 (S.v P (S.bin Go.BinOp.geq 3 (Go.Operand.tmp 107) (Go.Operand.tmp 108) x85 a1) (fun t109_1 w => br
    t109_1 (S.v P (Op.unary Go.UnOp.not t46) (fun t113_1 w => br t113_1 (S.nx P (S.callV t36 [x85]) (fun t125_4 w => br t125_4 (K (Go.Value.bool false) w) (S.v
    P (S.bin Go.BinOp.add 3 (Go.Operand.tmp 85) (Go.Operand.const (Go.Value.int Go.IntKind.i64 1)) x85 (Go.Value.int Go.IntKind.i64 1)) (fun t127_7 w => I
    [x10, x85, (Go.Value.bool true), t127_7, t86, t125_4] w) w)) w) (S.v P (S.bin Go.BinOp.lss 3 (Go.Operand.tmp 115) (Go.Operand.tmp 116) x85 t44) (fun t117_1
    w => br t117_1 (S.nx P (S.callV t36 [x85]) (fun t125_5 w => br t125_5 (K (Go.Value.bool false) w) (S.v P (S.bin Go.BinOp.add 3 (Go.Operand.tmp 85)
    (Go.Operand.const (Go.Value.int Go.IntKind.i64 1)) x85 (Go.Value.int Go.IntKind.i64 1)) (fun t127_8 w => I [x10, x85, t117_1, t127_8, t86, t125_5] w) w))
    w) (S.v P (S.bin Go.BinOp.add 3 (Go.Operand.tmp 85) (Go.Operand.const (Go.Value.int Go.IntKind.i64 1)) x85 (Go.Value.int Go.IntKind.i64 1)) (fun t127_9 w
    => I [x10, x85, t117_1, t127_9, t86, (Go.Value.bool false)] w) w)) w)) w) (S.v P (S.bin Go.BinOp.add 3 (Go.Operand.tmp 85) (Go.Operand.const (Go.Value.int
    Go.IntKind.i64 1)) x85 (Go.Value.int Go.IntKind.i64 1)) (fun t127_10 w => I [x10, x85, (Go.Value.bool false), t127_10, t86, (Go.Value.bool false)] w) w))
    w) (S.v P (S.bin Go.BinOp.add 3 (Go.Operand.tmp 85) (Go.Operand.const (Go.Value.int Go.IntKind.i64 1)) x85 (Go.Value.int Go.IntKind.i64 1)) (fun t127_11 w
    => I [x10, x85, (Go.Value.bool false), t127_11, t86, (Go.Value.bool false)] w) w)) w)) w) (S.v P (Op.unary Go.UnOp.not a3) (fun t105_2 w => br t105_2 (S.v
    P (S.bin Go.BinOp.geq 3 (Go.Operand.tmp 107) (Go.Operand.tmp 108) x85 a1) (fun t109_2 w => br t109_2 (S.v P (Op.unary Go.UnOp.not t46) (fun t113_2 w => br
    t113_2 (S.nx P (S.callV t36 [x85]) (fun t125_6 w => br t125_6 (K (Go.Value.bool false) w) (S.v P (S.bin Go.BinOp.add 3 (Go.Operand.tmp 85)
    (Go.Operand.const (Go.Value.int Go.IntKind.i64 1)) x85 (Go.Value.int Go.IntKind.i64 1)) (fun t127_12 w => I [x10, x85, (Go.Value.bool true), t127_12, t86,
    t125_6] w) w)) w) (S.v P (S.bin Go.BinOp.lss 3 (Go.Operand.tmp 115) (Go.Operand.tmp 116) x85 t44) (fun t117_2 w => br t117_2 (S.nx P (S.callV t36 [x85])
    (fun t125_7 w => br t125_7 (K (Go.Value.bool false) w) (S.v P (S.bin Go.BinOp.add 3 (Go.Operand.tmp 85) (Go.Operand.const (Go.Value.int Go.IntKind.i64 1))
    x85 (Go.Value.int Go.IntKind.i64 1)) (fun t127_13 w => I [x10, x85, t117_2, t127_13, t86, t125_7] w) w)) w) (S.v P (S.bin Go.BinOp.add 3 (Go.Operand.tmp
    85) (Go.Operand.const (Go.Value.int Go.IntKind.i64 1)) x85 (Go.Value.int Go.IntKind.i64 1)) (fun t127_14 w => I [x10, x85, t117_2, t127_14, t86,
    (Go.Value.bool false)] w) w)) w)) w) (S.v P (S.bin Go.BinOp.add 3 (Go.Operand.tmp 85) (Go.Operand.const (Go.Value.int Go.IntKind.i64 1)) x85 (Go.Value.int
    Go.IntKind.i64 1)) (fun t127_15 w => I [x10, x85, (Go.Value.bool false), t127_15, t86, (Go.Value.bool false)] w) w)) w) (S.v P (S.bin Go.BinOp.add 3
    (Go.Operand.tmp 85) (Go.Operand.const (Go.Value.int Go.IntKind.i64 1)) x85 (Go.Value.int Go.IntKind.i64 1)) (fun t127_16 w => I [x10, x85, (Go.Value.bool
    false), t127_16, t86, (Go.Value.bool false)] w) w)) w)) (S.v P (Op.unary Go.UnOp.not t46) (fun t129 w => br t129 (K (Go.Value.bool true) w) (br a3 (S.v P
    (Builtin.max_ #[3, 3] 3 #[a1, (Go.Value.int Go.IntKind.i64 0)]) (fun t135 w => S.v P (S.bin Go.BinOp.leq 3 (Go.Operand.tmp 133) (Go.Operand.tmp 135) t44
    t135) (fun t136 w => br t136 (K (Go.Value.bool true) w) (S.v P (Op.unary Go.UnOp.not a3) (fun t141 w => br t141 (S.v P (S.bin Go.BinOp.geq 3
    (Go.Operand.tmp 143) (Go.Operand.tmp 144) t44 a1) (fun t145 w => K t145 w) w) (K (Go.Value.bool false) w)) w)) w) w) (S.v P (Op.unary Go.UnOp.not a3) (fun
    t141_1 w => br t141_1 (S.v P (S.bin Go.BinOp.geq 3 (Go.Operand.tmp 143) (Go.Operand.tmp 144) t44 a1) (fun t145_1 w => K t145_1 w) w) (K (Go.Value.bool
    false) w)) w))) w)) w) → I [x10, x19, x20, x85, x86, x126] w) [(nth vs 0), undef, undef, (Go.Value.int Go.IntKind.i64 0), undef, undef] w) w) w) (fun J =>
    br t46 (S.v P (Instr.loadAt 23 t11) (fun t49 w => S.call P 21 [t49, t44] (fun t51 w => S.v P (Instr.extract t51 0) (fun t52 w => S.v P (Instr.extract t51
    1) (fun t53 w => S.v P (Instr.alloc 36 true (.tuple #[])) (fun t17 w => S.u P (Instr.storeAt 36 t17 t52) (fun w => S.seq (fun vs_1 w => br (nth vs_1 0) (K
    (Go.Value.bool false) w) (J [(Go.Value.bool false), t17, t53, t46, (nth vs_1 0)] w)) (fun J_1 => S.drawn (fun w => S.v P (Op.unary Go.UnOp.not t53) (fun
    t55 w => br t55 ((((J_1 [(Go.Value.bool true)] w) ∧ (J_1 [(Go.Value.bool true)] w)) ∧ (J_1 [(Go.Value.bool true)] w)) ∧ (J_1 [(Go.Value.bool true)] w))
    (S.v P (S.bin Go.BinOp.lss 3 (Go.Operand.tmp 57) (Go.Operand.const (Go.Value.int Go.IntKind.i64 0)) t45 (Go.Value.int Go.IntKind.i64 0)) (fun t58 w => br
    t58 ((((J_1 [(Go.Value.bool true)] w) ∧ (J_1 [(Go.Value.bool true)] w)) ∧ (J_1 [(Go.Value.bool true)] w)) ∧ (J_1 [(Go.Value.bool true)] w)) (S.v P
    (Instr.fieldAt 36 t17 0) (fun t62 w => S.v P (Instr.loadAt 9 t62) (fun t63 w => S.v P (Builtin.len_ #[9] 3 #[t63]) (fun t64 w => S.v P (S.bin Go.BinOp.gtr
    3 (Go.Operand.tmp 61) (Go.Operand.tmp 64) t45 t64) (fun t65 w => br t65 ((((J_1 [(Go.Value.bool true)] w) ∧ (J_1 [(Go.Value.bool true)] w)) ∧ (J_1
    [(Go.Value.bool true)] w)) ∧ (J_1 [(Go.Value.bool true)] w)) ((S.v P (Instr.fieldAt 36 t17 0) (fun t68 w => (S.v P (Instr.loadAt 9 t68) (fun t69 w => (S.v
    P (Instr.sliceAt 9 t69 (some t45) none none) (fun t71 w => S.v P (Instr.loadAt 9 t7) (fun t72 w => S.call P 30 [t71, t72] (fun t73 w => S.v P (Op.unary
    Go.UnOp.not t73) (fun t74 w => br t74 (J_1 [(Go.Value.bool true)] w) (S.v P (Instr.loadAt 4 t9) (fun t77 w => br t77 (S.v P (S.bin Go.BinOp.neq 3
    (Go.Operand.tmp 79) (Go.Operand.const (Go.Value.int Go.IntKind.i64 0)) t45 (Go.Value.int Go.IntKind.i64 0)) (fun t80 w => J_1 [t80] w) w) (J_1
    [(Go.Value.bool false)] w)) w)) w) w) w) w) ∧ (S.v P (Instr.loadAt 9 t7) (fun t72_1 w => S.v P (Instr.sliceAt 9 t69 (some t45) none none) (fun t71_1 w =>
    S.call P 30 [t71_1, t72_1] (fun t73_1 w => S.v P (Op.unary Go.UnOp.not t73_1) (fun t74_1 w => br t74_1 (J_1 [(Go.Value.bool true)] w) (S.v P (Instr.loadAt
    4 t9) (fun t77_1 w => br t77_1 (S.v P (S.bin Go.BinOp.neq 3 (Go.Operand.tmp 79) (Go.Operand.const (Go.Value.int Go.IntKind.i64 0)) t45 (Go.Value.int
    Go.IntKind.i64 0)) (fun t80_1 w => J_1 [t80_1] w) w) (J_1 [(Go.Value.bool false)] w)) w)) w) w) w) w)) w) ∧ (S.v P (Instr.loadAt 9 t7) (fun t72_2 w => S.v
    P (Instr.loadAt 9 t68) (fun t69_1 w => S.v P (Instr.sliceAt 9 t69_1 (some t45) none none) (fun t71_2 w => S.call P 30 [t71_2, t72_2] (fun t73_2 w => S.v P
    (Op.unary Go.UnOp.not t73_2) (fun t74_2 w => br t74_2 (J_1 [(Go.Value.bool true)] w) (S.v P (Instr.loadAt 4 t9) (fun t77_2 w => br t77_2 (S.v P (S.bin
    Go.BinOp.neq 3 (Go.Operand.tmp 79) (Go.Operand.const (Go.Value.int Go.IntKind.i64 0)) t45 (Go.Value.int Go.IntKind.i64 0)) (fun t80_2 w => J_1 [t80_2] w)
    w) (J_1 [(Go.Value.bool false)] w)) w)) w) w) w) w) w)) w) ∧ (S.v P (Instr.loadAt 9 t7) (fun t72_3 w => S.v P (Instr.fieldAt 36 t17 0) (fun t68_1 w => S.v
    P (Instr.loadAt 9 t68_1) (fun t69_2 w => S.v P (Instr.sliceAt 9 t69_2 (some t45) none none) (fun t71_3 w => S.call P 30 [t71_3, t72_3] (fun t73_3 w => S.v
    P (Op.unary Go.UnOp.not t73_3) (fun t74_3 w => br t74_3 (J_1 [(Go.Value.bool true)] w) (S.v P (Instr.loadAt 4 t9) (fun t77_3 w => br t77_3 (S.v P (S.bin
    Go.BinOp.neq 3 (Go.Operand.tmp 79) (Go.Operand.const (Go.Value.int Go.IntKind.i64 0)) t45 (Go.Value.int Go.IntKind.i64 0)) (fun t80_3 w => J_1 [t80_3] w)
    w) (J_1 [(Go.Value.bool false)] w)) w)) w) w) w) w) w) w))) w) w) w) w)) w)) w) w)) w) w) w) w) w) w) (J [(Go.Value.bool false), undef, undef, t46, undef]
    w))) w) w) w) w) w) w) w) w)) w)) w) w) w) w) w) w) w) w) w
theorem F6_chk : chkFn Try.f6 (bodyOf Try.f6) [0, 1, 2, 3, 4, 7, 9, 10, 11, 12, 13, 14, 15, 16, 17, 18, 19, 20, 27, 29, 47, 82, 84, 85, 86, 126] [(10, { ord := (.step 0 true (.step 1 false (.step 2 true (.step 3 true (.step 4 false (.step 5 false (.step 6 true (.step 7 true (.step 8 false (.step 9 false (.step 10 false (.step 11 false (.step 12 false (.step 13 true (.step 16 true (.fork (.step 14 false (.fork (.step 15 false (.fork (.step 17 false (.step 18 false (.step 19 false (.step 20 false (.step 21 false (.step 22 true (.step 23 false (.step 24 true (.step 25 true (.step 26 false (.step 27 false (.step 28 false .fin)))))))))))) (.step 18 false (.step 17 false (.step 19 false (.step 20 false (.step 21 false (.step 22 true (.step 23 false (.step 24 true (.step 25 true (.step 26 false (.step 27 false (.step 28 false .fin)))))))))))))) (.step 18 false (.step 15 false (.step 17 false (.step 19 false (.step 20 false (.step 21 false (.step 22 true (.step 23 false (.step 24 true (.step 25 true (.step 26 false (.step 27 false (.step 28 false .fin))))))))))))))) (.step 18 false (.step 14 false (.step 15 false (.step 17 false (.step 19 false (.step 20 false (.step 21 false (.step 22 true (.step 23 false (.step 24 true (.step 25 true (.step 26 false (.step 27 false (.step 28 false .fin)))))))))))))))))))))))))))))), flags := [], held := false, init := true })] 5 = true := by kernel_rfl
theorem F6_eq (a0 a1 a2 a3 a4 : Value) (K : Value → World → Prop) (w : World) : F6 Try.prog a0 a1 a2 a3 a4 K w = denFn Try.prog (has ents) [(10, { ord := (.step 0 true (.step 1 false (.step 2 true (.step 3 true (.step 4 false (.step 5 false (.step 6 true (.step 7 true (.step 8 false (.step 9 false (.step 10 false (.step 11 false (.step 12 false (.step 13 true (.step 16 true (.fork (.step 14 false (.fork (.step 15 false (.fork (.step 17 false (.step 18 false (.step 19 false (.step 20 false (.step 21 false (.step 22 true (.step 23 false (.step 24 true (.step 25 true (.step 26 false (.step 27 false (.step 28 false .fin)))))))))))) (.step 18 false (.step 17 false (.step 19 false (.step 20 false (.step 21 false (.step 22 true (.step 23 false (.step 24 true (.step 25 true (.step 26 false (.step 27 false (.step 28 false .fin)))))))))))))) (.step 18 false (.step 15 false (.step 17 false (.step 19 false (.step 20 false (.step 21 false (.step 22 true (.step 23 false (.step 24 true (.step 25 true (.step 26 false (.step 27 false (.step 28 false .fin))))))))))))))) (.step 18 false (.step 14 false (.step 15 false (.step 17 false (.step 19 false (.step 20 false (.step 21 false (.step 22 true (.step 23 false (.step 24 true (.step 25 true (.step 26 false (.step 27 false (.step 28 false .fin)))))))))))))))))))))))))))))), flags := [], held := false, init := true })] [0, 1, 2, 3, 4, 7, 9, 10, 11, 12, 13, 14, 15, 16, 17, 18, 19, 20, 27, 29, 47, 82, 84, 85, 86, 126] (bodyOf Try.f6) Try.f6.results.toList [a0, a1, a2, a3, a4] K w := by kernel_rfl
theorem F6_link {a0 a1 a2 a3 a4 : Value} {K : Value → World → Prop} {w : World} (h : F6 Try.prog a0 a1 a2 a3 a4 K w) : S.call Try.prog 6 [a0, a1, a2, a3, a4] K w :=
  calls_of_den entOk mixOk Try.func6 rfl F6_chk (Eq.mp (F6_eq a0 a1 a2 a3 a4 K w) h)
/-- lanyard/lanyardlaw10.HistDoes -/
def F7 (P : Program) (a0 a1 a2 : Value) (K : Value → World → Prop) (w : World) : Prop :=
  S.call P 16 [a0, a1] (fun t21 w => S.v P (Instr.extract t21 0) (fun t22 w => S.v P (Instr.extract t21 1) (fun t23 w => S.call P 22 [a0, a1] (fun t27 w => S.v P
    (Instr.extract t27 0) (fun t28 w => S.v P (Instr.extract t27 1) (fun t29 w => S.call P 9 [a0] (fun t32 w => S.v P (Instr.extract t32 0) (fun t33 w => S.v P
    (Instr.extract t32 1) (fun t34 w => S.call P 33 [a0] (fun t37 w => S.v P (Instr.extract t37 0) (fun t38 w => S.v P (Instr.extract t37 1) (fun t39 w => S.v
    P (S.bin Go.BinOp.neq 24 (Go.Operand.tmp 40) (Go.Operand.tmp 41) t34 t39) (fun t42 w => br t42 (K (Go.Value.bool false) w) (S.v P (S.bin Go.BinOp.eql 23
    (Go.Operand.tmp 44) (Go.Operand.const (Go.Value.pointer none)) t33 (Go.Value.pointer none)) (fun t45 w => S.v P (S.bin Go.BinOp.neq 24 (Go.Operand.tmp 46)
    (Go.Operand.const (Go.Value.int Go.IntKind.i64 0)) t34 (Go.Value.int Go.IntKind.i64 0)) (fun t47 w => S.v P (S.bin Go.BinOp.neq 4 (Go.Operand.tmp 45)
    (Go.Operand.tmp 47) t45 t47) (fun t48 w => br t48 (K (Go.Value.bool false) w) (S.call P 10 [] (fun t50 w => S.v P (Op.unary Go.UnOp.not t50) (fun t51 w =>
    br t51 (K (Go.Value.bool false) w) (S.v P (S.bin Go.BinOp.neq 24 (Go.Operand.tmp 53) (Go.Operand.tmp 54) t23 t29) (fun t55 w => br t55 (K (Go.Value.bool
    false) w) (S.v P (S.bin Go.BinOp.eql 23 (Go.Operand.tmp 58) (Go.Operand.const (Go.Value.pointer none)) t22 (Go.Value.pointer none)) (fun t59 w => S.v P
    (S.bin Go.BinOp.eql 55 (Go.Operand.tmp 60) (Go.Operand.const (Go.Value.pointer none)) t28 (Go.Value.pointer none)) (fun t61 w => S.v P (S.bin Go.BinOp.neq
    4 (Go.Operand.tmp 59) (Go.Operand.tmp 61) t59 t61) (fun t62 w => br t62 (K (Go.Value.bool false) w) (S.v P (S.bin Go.BinOp.eql 55 (Go.Operand.tmp 64)
    (Go.Operand.const (Go.Value.pointer none)) t28 (Go.Value.pointer none)) (fun t65 w => br t65 (K (Go.Value.bool true) w) (S.v P (Builtin.len_ #[74] 3 #[a2])
    (fun t67 w => S.loop (fun I => ∀ (x6 : Value) (x7 : Value) (x16 : Value) (x17 : Value) (x68 : Value) (x69 : Value) (x99 : Value) (w : World), (S.v P (S.bin
    Go.BinOp.lss 3 (Go.Operand.tmp 68) (Go.Operand.tmp 67) x68 t67) (fun t69 w => br t69 (S.v P (Instr.indexAt 74 a2 x68) (fun t70 w => S.v P (Instr.loadAt 77
    t70) (fun t71 w => S.v P (Instr.alloc 77 true (.tuple #[])) (fun t16 w => S.u P (Instr.storeAt 77 t16 t71) (fun w => S.v P (Instr.loadAt 77 t16) (fun t75 w
    => S.call P 34 [x7, t28, t75] (fun t76 w => S.v P (Instr.extract t76 0) (fun t77 w => S.v P (Instr.extract t76 1) (fun t78 w => S.seq (fun vs w => br (nth
    vs 0) (K (Go.Value.bool false) w) (S.v P (S.bin Go.BinOp.add 3 (Go.Operand.tmp 68) (Go.Operand.const (Go.Value.int Go.IntKind.i64 1)) x68 (Go.Value.int
    Go.IntKind.i64 1)) (fun t100 w => I [x6, t77, t16, t78, t100, t69, (nth vs 0)] w) w)) (fun J => S.drawn (fun w => ∃ H : World → Prop, H w ∧ (S.v P
    (Op.unary Go.UnOp.not t78) (fun t80 w => br t80 (((J [(Go.Value.bool true)] w) ∧ ((J [(Go.Value.bool true)] w) ∧ ((J [(Go.Value.bool true)] w) ∧ (J
    [(Go.Value.bool true)] w)))) ∧ (((J [(Go.Value.bool true)] w) ∧ ((J [(Go.Value.bool true)] w) ∧ ((J [(Go.Value.bool true)] w) ∧ (J [(Go.Value.bool true)]
    w)))) ∧ (((J [(Go.Value.bool true)] w) ∧ ((J [(Go.Value.bool true)] w) ∧ ((J [(Go.Value.bool true)] w) ∧ (J [(Go.Value.bool true)] w)))) ∧ (((J
    [(Go.Value.bool true)] w) ∧ ((J [(Go.Value.bool true)] w) ∧ ((J [(Go.Value.bool true)] w) ∧ (J [(Go.Value.bool true)] w)))) ∧ ((J [(Go.Value.bool true)] w)
    ∧ ((J [(Go.Value.bool true)] w) ∧ ((J [(Go.Value.bool true)] w) ∧ (J [(Go.Value.bool true)] w)))))))) ((S.call P 12 [t77] (fun t83 w => H w ∧ (S.v P
    (S.nilC t28) (fun t85 w => S.v P (Instr.fieldAt 81 t85 0) (fun t86 w => S.v P (Instr.loadAt 28 t86) (fun t87 w => S.v P (Builtin.len_ #[28] 3 #[t87]) (fun
    t88 w => S.v P (S.bin Go.BinOp.neq 3 (Go.Operand.tmp 83) (Go.Operand.tmp 88) t83 t88) (fun t89 w => br t89 ((J [(Go.Value.bool true)] w) ∧ ((J
    [(Go.Value.bool true)] w) ∧ ((J [(Go.Value.bool true)] w) ∧ (J [(Go.Value.bool true)] w)))) ((S.call P 13 [t77] (fun t93 w => S.v P (S.nilC t28) (fun t95 w
    => S.v P (Instr.fieldAt 81 t95 1) (fun t96 w => S.v P (Instr.loadAt 2 t96) (fun t97 w => S.v P (S.bin Go.BinOp.neq 2 (Go.Operand.tmp 93) (Go.Operand.tmp
    97) t93 t97) (fun t98 w => J [t98] w) w) w) w) w) w) ∧ (S.v P (S.nilC t28) (fun t95_1 w => (S.call P 13 [t77] (fun t93_1 w => S.v P (Instr.fieldAt 81 t95_1
    1) (fun t96_1 w => S.v P (Instr.loadAt 2 t96_1) (fun t97_1 w => S.v P (S.bin Go.BinOp.neq 2 (Go.Operand.tmp 93) (Go.Operand.tmp 97) t93_1 t97_1) (fun t98_1
    w => J [t98_1] w) w) w) w) w) ∧ (S.v P (Instr.fieldAt 81 t95_1 1) (fun t96_2 w => (S.call P 13 [t77] (fun t93_2 w => S.v P (Instr.loadAt 2 t96_2) (fun
    t97_2 w => S.v P (S.bin Go.BinOp.neq 2 (Go.Operand.tmp 93) (Go.Operand.tmp 97) t93_2 t97_2) (fun t98_2 w => J [t98_2] w) w) w) w) ∧ (S.v P (Instr.loadAt 2
    t96_2) (fun t97_3 w => S.call P 13 [t77] (fun t93_3 w => S.v P (S.bin Go.BinOp.neq 2 (Go.Operand.tmp 93) (Go.Operand.tmp 97) t93_3 t97_3) (fun t98_3 w => J
    [t98_3] w) w) w) w)) w)) w))) w) w) w) w) w)) w) ∧ (S.v P (S.nilC t28) (fun t85_1 w => (S.call P 12 [t77] (fun t83_1 w => H w ∧ (S.v P (Instr.fieldAt 81
    t85_1 0) (fun t86_1 w => S.v P (Instr.loadAt 28 t86_1) (fun t87_1 w => S.v P (Builtin.len_ #[28] 3 #[t87_1]) (fun t88_1 w => S.v P (S.bin Go.BinOp.neq 3
    (Go.Operand.tmp 83) (Go.Operand.tmp 88) t83_1 t88_1) (fun t89_1 w => br t89_1 ((J [(Go.Value.bool true)] w) ∧ ((J [(Go.Value.bool true)] w) ∧ ((J
    [(Go.Value.bool true)] w) ∧ (J [(Go.Value.bool true)] w)))) ((S.call P 13 [t77] (fun t93_4 w => S.v P (S.nilC t28) (fun t95_2 w => S.v P (Instr.fieldAt 81
    t95_2 1) (fun t96_3 w => S.v P (Instr.loadAt 2 t96_3) (fun t97_4 w => S.v P (S.bin Go.BinOp.neq 2 (Go.Operand.tmp 93) (Go.Operand.tmp 97) t93_4 t97_4) (fun
    t98_4 w => J [t98_4] w) w) w) w) w) w) ∧ (S.v P (S.nilC t28) (fun t95_3 w => (S.call P 13 [t77] (fun t93_5 w => S.v P (Instr.fieldAt 81 t95_3 1) (fun t96_4
    w => S.v P (Instr.loadAt 2 t96_4) (fun t97_5 w => S.v P (S.bin Go.BinOp.neq 2 (Go.Operand.tmp 93) (Go.Operand.tmp 97) t93_5 t97_5) (fun t98_5 w => J
    [t98_5] w) w) w) w) w) ∧ (S.v P (Instr.fieldAt 81 t95_3 1) (fun t96_5 w => (S.call P 13 [t77] (fun t93_6 w => S.v P (Instr.loadAt 2 t96_5) (fun t97_6 w =>
    S.v P (S.bin Go.BinOp.neq 2 (Go.Operand.tmp 93) (Go.Operand.tmp 97) t93_6 t97_6) (fun t98_6 w => J [t98_6] w) w) w) w) ∧ (S.v P (Instr.loadAt 2 t96_5) (fun
    t97_7 w => S.call P 13 [t77] (fun t93_7 w => S.v P (S.bin Go.BinOp.neq 2 (Go.Operand.tmp 93) (Go.Operand.tmp 97) t93_7 t97_7) (fun t98_7 w => J [t98_7] w)
    w) w) w)) w)) w))) w) w) w) w)) w) ∧ (S.v P (Instr.fieldAt 81 t85_1 0) (fun t86_2 w => (S.call P 12 [t77] (fun t83_2 w => H w ∧ (S.v P (Instr.loadAt 28
    t86_2) (fun t87_2 w => S.v P (Builtin.len_ #[28] 3 #[t87_2]) (fun t88_2 w => S.v P (S.bin Go.BinOp.neq 3 (Go.Operand.tmp 83) (Go.Operand.tmp 88) t83_2
    t88_2) (fun t89_2 w => br t89_2 ((J [(Go.Value.bool true)] w) ∧ ((J [(Go.Value.bool true)] w) ∧ ((J [(Go.Value.bool true)] w) ∧ (J [(Go.Value.bool true)]
    w)))) ((S.call P 13 [t77] (fun t93_8 w => S.v P (S.nilC t28) (fun t95_4 w => S.v P (Instr.fieldAt 81 t95_4 1) (fun t96_6 w => S.v P (Instr.loadAt 2 t96_6)
    (fun t97_8 w => S.v P (S.bin Go.BinOp.neq 2 (Go.Operand.tmp 93) (Go.Operand.tmp 97) t93_8 t97_8) (fun t98_8 w => J [t98_8] w) w) w) w) w) w) ∧ (S.v P
    (S.nilC t28) (fun t95_5 w => (S.call P 13 [t77] (fun t93_9 w => S.v P (Instr.fieldAt 81 t95_5 1) (fun t96_7 w => S.v P (Instr.loadAt 2 t96_7) (fun t97_9 w
    => S.v P (S.bin Go.BinOp.neq 2 (Go.Operand.tmp 93) (Go.Operand.tmp 97) t93_9 t97_9) (fun t98_9 w => J [t98_9] w) w) w) w) w) ∧ (S.v P (Instr.fieldAt 81
    t95_5 1) (fun t96_8 w => (S.call P 13 [t77] (fun t93_10 w => S.v P (Instr.loadAt 2 t96_8) (fun t97_10 w => S.v P (S.bin Go.BinOp.neq 2 (Go.Operand.tmp 93)
    (Go.Operand.tmp 97) t93_10 t97_10) (fun t98_10 w => J [t98_10] w) w) w) w) ∧ (S.v P (Instr.loadAt 2 t96_8) (fun t97_11 w => S.call P 13 [t77] (fun t93_11 w
    => S.v P (S.bin Go.BinOp.neq 2 (Go.Operand.tmp 93) (Go.Operand.tmp 97) t93_11 t97_11) (fun t98_11 w => J [t98_11] w) w) w) w)) w)) w))) w) w) w)) w) ∧ (S.v
    P (Instr.loadAt 28 t86_2) (fun t87_3 w => (S.call P 12 [t77] (fun t83_3 w => H w ∧ (S.v P (Builtin.len_ #[28] 3 #[t87_3]) (fun t88_3 w => S.v P (S.bin
    Go.BinOp.neq 3 (Go.Operand.tmp 83) (Go.Operand.tmp 88) t83_3 t88_3) (fun t89_3 w => br t89_3 ((J [(Go.Value.bool true)] w) ∧ ((J [(Go.Value.bool true)] w)
    ∧ ((J [(Go.Value.bool true)] w) ∧ (J [(Go.Value.bool true)] w)))) ((S.call P 13 [t77] (fun t93_12 w => S.v P (S.nilC t28) (fun t95_6 w => S.v P
    (Instr.fieldAt 81 t95_6 1) (fun t96_9 w => S.v P (Instr.loadAt 2 t96_9) (fun t97_12 w => S.v P (S.bin Go.BinOp.neq 2 (Go.Operand.tmp 93) (Go.Operand.tmp
    97) t93_12 t97_12) (fun t98_12 w => J [t98_12] w) w) w) w) w) w) ∧ (S.v P (S.nilC t28) (fun t95_7 w => (S.call P 13 [t77] (fun t93_13 w => S.v P
    (Instr.fieldAt 81 t95_7 1) (fun t96_10 w => S.v P (Instr.loadAt 2 t96_10) (fun t97_13 w => S.v P (S.bin Go.BinOp.neq 2 (Go.Operand.tmp 93) (Go.Operand.tmp
    97) t93_13 t97_13) (fun t98_13 w => J [t98_13] w) w) w) w) w) ∧ (S.v P (Instr.fieldAt 81 t95_7 1) (fun t96_11 w => (S.call P 13 [t77] (fun t93_14 w => S.v
    P (Instr.loadAt 2 t96_11) (fun t97_14 w => S.v P (S.bin Go.BinOp.neq 2 (Go.Operand.tmp 93) (Go.Operand.tmp 97) t93_14 t97_14) (fun t98_14 w => J [t98_14]
    w) w) w) w) ∧ (S.v P (Instr.loadAt 2 t96_11) (fun t97_15 w => S.call P 13 [t77] (fun t93_15 w => S.v P (S.bin Go.BinOp.neq 2 (Go.Operand.tmp 93)
    (Go.Operand.tmp 97) t93_15 t97_15) (fun t98_15 w => J [t98_15] w) w) w) w)) w)) w))) w) w)) w) ∧ (S.v P (Builtin.len_ #[28] 3 #[t87_3]) (fun t88_4 w =>
    S.call P 12 [t77] (fun t83_4 w => H w ∧ (S.v P (S.bin Go.BinOp.neq 3 (Go.Operand.tmp 83) (Go.Operand.tmp 88) t83_4 t88_4) (fun t89_4 w => br t89_4 ((J
    [(Go.Value.bool true)] w) ∧ ((J [(Go.Value.bool true)] w) ∧ ((J [(Go.Value.bool true)] w) ∧ (J [(Go.Value.bool true)] w)))) ((S.call P 13 [t77] (fun t93_16
    w => S.v P (S.nilC t28) (fun t95_8 w => S.v P (Instr.fieldAt 81 t95_8 1) (fun t96_12 w => S.v P (Instr.loadAt 2 t96_12) (fun t97_16 w => S.v P (S.bin
    Go.BinOp.neq 2 (Go.Operand.tmp 93) (Go.Operand.tmp 97) t93_16 t97_16) (fun t98_16 w => J [t98_16] w) w) w) w) w) w) ∧ (S.v P (S.nilC t28) (fun t95_9 w =>
    (S.call P 13 [t77] (fun t93_17 w => S.v P (Instr.fieldAt 81 t95_9 1) (fun t96_13 w => S.v P (Instr.loadAt 2 t96_13) (fun t97_17 w => S.v P (S.bin
    Go.BinOp.neq 2 (Go.Operand.tmp 93) (Go.Operand.tmp 97) t93_17 t97_17) (fun t98_17 w => J [t98_17] w) w) w) w) w) ∧ (S.v P (Instr.fieldAt 81 t95_9 1) (fun
    t96_14 w => (S.call P 13 [t77] (fun t93_18 w => S.v P (Instr.loadAt 2 t96_14) (fun t97_18 w => S.v P (S.bin Go.BinOp.neq 2 (Go.Operand.tmp 93)
    (Go.Operand.tmp 97) t93_18 t97_18) (fun t98_18 w => J [t98_18] w) w) w) w) ∧ (S.v P (Instr.loadAt 2 t96_14) (fun t97_19 w => S.call P 13 [t77] (fun t93_19
    w => S.v P (S.bin Go.BinOp.neq 2 (Go.Operand.tmp 93) (Go.Operand.tmp 97) t93_19 t97_19) (fun t98_19 w => J [t98_19] w) w) w) w)) w)) w))) w)) w) w)) w))
    w)) w))) w)) w)) w) w) w) w) w) w) w) w) (S.call P 35 [x7, t28] (fun t103 w => K t103 w) w)) w) → I [x6, x7, x16, x17, x68, x69, x99] w) [(Go.Value.bool
    false), t22, undef, undef, (Go.Value.int Go.IntKind.i64 0), undef, undef] w) w)) w)) w) w) w)) w)) w) w)) w) w) w)) w) w) w) w) w) w) w) w) w) w) w) w) w
theorem F7_chk : chkFn Try.f7 (bodyOf Try.f7) [0, 1, 2, 6, 7, 8, 9, 10, 11, 12, 14, 16, 17, 49, 63, 65, 66, 67, 68, 69, 99] [(16, { ord := (.step 0 true (.step 1 false (.step 2 true (.step 3 true (.step 5 true (.fork (.step 4 false (.step 6 false (.step 7 false (.step 8 false (.step 9 false (.step 10 false (.step 11 false (.step 12 true (.step 13 true (.step 15 true (.fork (.step 14 false (.step 16 false (.step 17 false (.step 18 false (.step 19 false (.step 20 false .fin)))))) (.step 16 false (.fork (.step 14 false (.step 17 false (.step 18 false (.step 19 false (.step 20 false .fin))))) (.step 17 false (.fork (.step 14 false (.step 18 false (.step 19 false (.step 20 false .fin)))) (.step 18 false (.step 14 false (.step 19 false (.step 20 false .fin))))))))))))))))))) (.step 6 false (.fork (.step 4 false (.step 7 false (.step 8 false (.step 9 false (.step 10 false (.step 11 false (.step 12 true (.step 13 true (.step 15 true (.fork (.step 14 false (.step 16 false (.step 17 false (.step 18 false (.step 19 false (.step 20 false .fin)))))) (.step 16 false (.fork (.step 14 false (.step 17 false (.step 18 false (.step 19 false (.step 20 false .fin))))) (.step 17 false (.fork (.step 14 false (.step 18 false (.step 19 false (.step 20 false .fin)))) (.step 18 false (.step 14 false (.step 19 false (.step 20 false .fin)))))))))))))))))) (.step 7 false (.fork (.step 4 false (.step 8 false (.step 9 false (.step 10 false (.step 11 false (.step 12 true (.step 13 true (.step 15 true (.fork (.step 14 false (.step 16 false (.step 17 false (.step 18 false (.step 19 false (.step 20 false .fin)))))) (.step 16 false (.fork (.step 14 false (.step 17 false (.step 18 false (.step 19 false (.step 20 false .fin))))) (.step 17 false (.fork (.step 14 false (.step 18 false (.step 19 false (.step 20 false .fin)))) (.step 18 false (.step 14 false (.step 19 false (.step 20 false .fin))))))))))))))))) (.step 8 false (.fork (.step 4 false (.step 9 false (.step 10 false (.step 11 false (.step 12 true (.step 13 true (.step 15 true (.fork (.step 14 false (.step 16 false (.step 17 false (.step 18 false (.step 19 false (.step 20 false .fin)))))) (.step 16 false (.fork (.step 14 false (.step 17 false (.step 18 false (.step 19 false (.step 20 false .fin))))) (.step 17 false (.fork (.step 14 false (.step 18 false (.step 19 false (.step 20 false .fin)))) (.step 18 false (.step 14 false (.step 19 false (.step 20 false .fin)))))))))))))))) (.step 9 false (.step 4 false (.step 10 false (.step 11 false (.step 12 true (.step 13 true (.step 15 true (.fork (.step 14 false (.step 16 false (.step 17 false (.step 18 false (.step 19 false (.step 20 false .fin)))))) (.step 16 false (.fork (.step 14 false (.step 17 false (.step 18 false (.step 19 false (.step 20 false .fin))))) (.step 17 false (.fork (.step 14 false (.step 18 false (.step 19 false (.step 20 false .fin)))) (.step 18 false (.step 14 false (.step 19 false (.step 20 false .fin)))))))))))))))))))))))))))), flags := [4], held := true, init := true })] 3 = true := by kernel_rfl
theorem F7_eq (a0 a1 a2 : Value) (K : Value → World → Prop) (w : World) : F7 Try.prog a0 a1 a2 K w = denFn Try.prog (has ents) [(16, { ord := (.step 0 true (.step 1 false (.step 2 true (.step 3 true (.step 5 true (.fork (.step 4 false (.step 6 false (.step 7 false (.step 8 false (.step 9 false (.step 10 false (.step 11 false (.step 12 true (.step 13 true (.step 15 true (.fork (.step 14 false (.step 16 false (.step 17 false (.step 18 false (.step 19 false (.step 20 false .fin)))))) (.step 16 false (.fork (.step 14 false (.step 17 false (.step 18 false (.step 19 false (.step 20 false .fin))))) (.step 17 false (.fork (.step 14 false (.step 18 false (.step 19 false (.step 20 false .fin)))) (.step 18 false (.step 14 false (.step 19 false (.step 20 false .fin))))))))))))))))))) (.step 6 false (.fork (.step 4 false (.step 7 false (.step 8 false (.step 9 false (.step 10 false (.step 11 false (.step 12 true (.step 13 true (.step 15 true (.fork (.step 14 false (.step 16 false (.step 17 false (.step 18 false (.step 19 false (.step 20 false .fin)))))) (.step 16 false (.fork (.step 14 false (.step 17 false (.step 18 false (.step 19 false (.step 20 false .fin))))) (.step 17 false (.fork (.step 14 false (.step 18 false (.step 19 false (.step 20 false .fin)))) (.step 18 false (.step 14 false (.step 19 false (.step 20 false .fin)))))))))))))))))) (.step 7 false (.fork (.step 4 false (.step 8 false (.step 9 false (.step 10 false (.step 11 false (.step 12 true (.step 13 true (.step 15 true (.fork (.step 14 false (.step 16 false (.step 17 false (.step 18 false (.step 19 false (.step 20 false .fin)))))) (.step 16 false (.fork (.step 14 false (.step 17 false (.step 18 false (.step 19 false (.step 20 false .fin))))) (.step 17 false (.fork (.step 14 false (.step 18 false (.step 19 false (.step 20 false .fin)))) (.step 18 false (.step 14 false (.step 19 false (.step 20 false .fin))))))))))))))))) (.step 8 false (.fork (.step 4 false (.step 9 false (.step 10 false (.step 11 false (.step 12 true (.step 13 true (.step 15 true (.fork (.step 14 false (.step 16 false (.step 17 false (.step 18 false (.step 19 false (.step 20 false .fin)))))) (.step 16 false (.fork (.step 14 false (.step 17 false (.step 18 false (.step 19 false (.step 20 false .fin))))) (.step 17 false (.fork (.step 14 false (.step 18 false (.step 19 false (.step 20 false .fin)))) (.step 18 false (.step 14 false (.step 19 false (.step 20 false .fin)))))))))))))))) (.step 9 false (.step 4 false (.step 10 false (.step 11 false (.step 12 true (.step 13 true (.step 15 true (.fork (.step 14 false (.step 16 false (.step 17 false (.step 18 false (.step 19 false (.step 20 false .fin)))))) (.step 16 false (.fork (.step 14 false (.step 17 false (.step 18 false (.step 19 false (.step 20 false .fin))))) (.step 17 false (.fork (.step 14 false (.step 18 false (.step 19 false (.step 20 false .fin)))) (.step 18 false (.step 14 false (.step 19 false (.step 20 false .fin)))))))))))))))))))))))))))), flags := [4], held := true, init := true })] [0, 1, 2, 6, 7, 8, 9, 10, 11, 12, 14, 16, 17, 49, 63, 65, 66, 67, 68, 69, 99] (bodyOf Try.f7) Try.f7.results.toList [a0, a1, a2] K w := by kernel_rfl
theorem F7_link {a0 a1 a2 : Value} {K : Value → World → Prop} {w : World} (h : F7 Try.prog a0 a1 a2 K w) : S.call Try.prog 7 [a0, a1, a2] K w :=
  calls_of_den entOk mixOk Try.func7 rfl F7_chk (Eq.mp (F7_eq a0 a1 a2 K w) h)
/-- lanyard/lanyardlaw10.HistNone -/
def F8 (P : Program) (a0 : Value) (K : Value → World → Prop) (w : World) : Prop :=
  S.v P (Instr.box 77 a0) (fun t1 w => S.v P (Instr.alloc 4 true (.tuple #[])) (fun t2 w => S.call P 10 [] (fun t24 w => S.v P (Op.unary Go.UnOp.not t24) (fun
    t25 w => br t25 (S.u P (Instr.storeAt 4 t2 (Go.Value.bool false)) (fun w => S.p P (S.ldR 4 t2) (fun r2 w => K r2 w) w) w) (S.v P (Instr.build 87 #[]) (fun
    t26 w => S.v P (Instr.box 87 t26) (fun t27 w => S.v P (Instr.buildSlice 88 2 #[(0, (Go.Value.pointer none)), (1, t27)]) (fun t28 w => S.v P (Builtin.len_
    #[88] 3 #[t28]) (fun t29 w => S.loop (fun I => ∀ (x1000000 : Value) (x4 : Value) (x6 : Value) (x8 : Value) (x10 : Value) (x12 : Value) (x15 : Value) (x16 :
    Value) (x17 : Value) (x30 : Value) (x31 : Value) (x139 : Value) (x141 : Value) (w : World), (S.v P (S.bin Go.BinOp.lss 3 (Go.Operand.tmp 30)
    (Go.Operand.tmp 29) x30 t29) (fun t31 w => br t31 (S.v P (Instr.indexAt 88 t28 x30) (fun t32 w => S.v P (Instr.loadAt 23 t32) (fun t33 w => S.v P
    (Instr.fieldAt 77 t1 2) (fun t36 w => S.v P (Instr.loadAt 3 t36) (fun t37 w => S.call P 21 [t33, t37] (fun t38 w => S.v P (Instr.extract t38 0) (fun t39 w
    => S.v P (Instr.extract t38 1) (fun t40 w => S.v P (Instr.alloc 36 true (.tuple #[])) (fun t5 w => S.u P (Instr.storeAt 36 t5 t39) (fun w => S.v P
    (Instr.fieldAt 77 t1 3) (fun t43 w => S.v P (Instr.loadAt 2 t43) (fun t44 w => S.call P 15 [t33, t44] (fun t45 w => S.v P (Instr.extract t45 0) (fun t46 w
    => S.v P (Instr.extract t45 1) (fun t47 w => S.v P (Instr.alloc 36 true (.tuple #[])) (fun t7 w => S.u P (Instr.storeAt 36 t7 t46) (fun w => S.seq (fun vs
    w => S.v P (Instr.fieldAt 77 t1 2) (fun t59 w => S.v P (Instr.loadAt 3 t59) (fun t60 w => S.call P 38 [t33, t60] (fun t61 w => S.v P (Instr.extract t61 0)
    (fun t62 w => S.v P (Instr.extract t61 1) (fun t63 w => S.v P (Instr.alloc 36 true (.tuple #[])) (fun t11 w => S.u P (Instr.storeAt 36 t11 t62) (fun w =>
    S.v P (Instr.fieldAt 77 t1 2) (fun t66 w => S.v P (Instr.loadAt 3 t66) (fun t67 w => S.v P (Instr.fieldAt 77 t1 4) (fun t68 w => S.v P (Instr.loadAt 9 t68)
    (fun t69 w => S.v P (Instr.fieldAt 77 t1 5) (fun t70 w => S.v P (Instr.loadAt 4 t70) (fun t71 w => S.v P (Instr.fieldAt 77 t1 6) (fun t72 w => S.v P
    (Instr.loadAt 4 t72) (fun t73 w => S.call P 32 [t33, t67, t69, t71, t73] (fun t74 w => S.v P (Instr.extract t74 0) (fun t75 w => S.v P (Instr.extract t74
    1) (fun t76 w => S.v P (Instr.extract t74 2) (fun t77 w => S.call P 17 [t33] (fun t80 w => S.v P (Instr.extract t80 0) (fun t81 w => S.v P (Instr.extract
    t80 1) (fun t82 w => br t40 (S.u P (Instr.storeAt 4 t2 (Go.Value.bool false)) (fun w => S.closes (marksOf x1000000) (fun w => S.p P (S.ldR 4 t2) (fun r2_1
    w => K r2_1 w) w) w) w) (br t47 (S.u P (Instr.storeAt 4 t2 (Go.Value.bool false)) (fun w => S.closes (marksOf x1000000) (fun w => S.p P (S.ldR 4 t2) (fun
    r2_2 w => K r2_2 w) w) w) w) (br t77 (S.u P (Instr.storeAt 4 t2 (Go.Value.bool false)) (fun w => S.closes (marksOf x1000000) (fun w => S.p P (S.ldR 4 t2)
    (fun r2_3 w => K r2_3 w) w) w) w) (S.v P (S.bin Go.BinOp.neq 24 (Go.Operand.tmp 91) (Go.Operand.const (Go.Value.int Go.IntKind.i64 2)) (nth vs 0)
    (Go.Value.int Go.IntKind.i64 2)) (fun t92 w => br t92 (S.u P (Instr.storeAt 4 t2 (Go.Value.bool false)) (fun w => S.closes (marksOf x1000000) (fun w => S.p
    P (S.ldR 4 t2) (fun r2_4 w => K r2_4 w) w) w) w) (S.v P (S.bin Go.BinOp.neq 24 (Go.Operand.tmp 95) (Go.Operand.const (Go.Value.int Go.IntKind.i64 2)) t63
    (Go.Value.int Go.IntKind.i64 2)) (fun t96 w => br t96 (S.u P (Instr.storeAt 4 t2 (Go.Value.bool false)) (fun w => S.closes (marksOf x1000000) (fun w => S.p
    P (S.ldR 4 t2) (fun r2_5 w => K r2_5 w) w) w) w) (S.v P (S.bin Go.BinOp.neq 24 (Go.Operand.tmp 99) (Go.Operand.const (Go.Value.int Go.IntKind.i64 2)) t82
    (Go.Value.int Go.IntKind.i64 2)) (fun t100 w => br t100 (S.u P (Instr.storeAt 4 t2 (Go.Value.bool false)) (fun w => S.closes (marksOf x1000000) (fun w =>
    S.p P (S.ldR 4 t2) (fun r2_6 w => K r2_6 w) w) w) w) (S.v P (S.bin Go.BinOp.neq 42 (Go.Operand.tmp 103) (Go.Operand.const (Go.Value.pointer none)) t81
    (Go.Value.pointer none)) (fun t104 w => br t104 (S.u P (Instr.storeAt 4 t2 (Go.Value.bool false)) (fun w => S.closes (marksOf x1000000) (fun w => S.p P
    (S.ldR 4 t2) (fun r2_7 w => K r2_7 w) w) w) w) (S.v P (Instr.fieldAt 77 t1 1) (fun t108 w => S.v P (Instr.loadAt 28 t108) (fun t109 w => S.call P 11 [t33,
    t109] (fun t110 w => S.v P (S.bin Go.BinOp.neq 24 (Go.Operand.tmp 110) (Go.Operand.const (Go.Value.int Go.IntKind.i64 2)) t110 (Go.Value.int Go.IntKind.i64
    2)) (fun t111 w => br t111 (S.u P (Instr.storeAt 4 t2 (Go.Value.bool false)) (fun w => S.closes (marksOf x1000000) (fun w => S.p P (S.ldR 4 t2) (fun r2_8 w
    => K r2_8 w) w) w) w) (S.v P (Instr.fieldAt 77 t1 2) (fun t115 w => S.v P (Instr.loadAt 3 t115) (fun t116 w => S.call P 39 [t33, t116] (fun t117 w => S.v P
    (S.bin Go.BinOp.neq 24 (Go.Operand.tmp 117) (Go.Operand.const (Go.Value.int Go.IntKind.i64 2)) t117 (Go.Value.int Go.IntKind.i64 2)) (fun t118 w => br t118
    (S.u P (Instr.storeAt 4 t2 (Go.Value.bool false)) (fun w => S.closes (marksOf x1000000) (fun w => S.p P (S.ldR 4 t2) (fun r2_9 w => K r2_9 w) w) w) w)
    (S.call P 12 [t33] (fun t122 w => S.v P (S.bin Go.BinOp.neq 3 (Go.Operand.tmp 122) (Go.Operand.const (Go.Value.int Go.IntKind.i64 0)) t122 (Go.Value.int
    Go.IntKind.i64 0)) (fun t123 w => br t123 (S.u P (Instr.storeAt 4 t2 (Go.Value.bool false)) (fun w => S.closes (marksOf x1000000) (fun w => S.p P (S.ldR 4
    t2) (fun r2_10 w => K r2_10 w) w) w) w) (S.call P 13 [t33] (fun t127 w => S.v P (S.bin Go.BinOp.neq 2 (Go.Operand.tmp 127) (Go.Operand.const (Go.Value.int
    Go.IntKind.i64 0)) t127 (Go.Value.int Go.IntKind.i64 0)) (fun t128 w => br t128 (S.u P (Instr.storeAt 4 t2 (Go.Value.bool false)) (fun w => S.closes
    (marksOf x1000000) (fun w => S.p P (S.ldR 4 t2) (fun r2_11 w => K r2_11 w) w) w) w) (S.call P 40 [t33] (fun t132 w => S.v P (S.bin Go.BinOp.neq 3
    (Go.Operand.tmp 132) (Go.Operand.const (Go.Value.int Go.IntKind.i64 0)) t132 (Go.Value.int Go.IntKind.i64 0)) (fun t133 w => br t133 (S.u P (Instr.storeAt
    4 t2 (Go.Value.bool false)) (fun w => S.closes (marksOf x1000000) (fun w => S.p P (S.ldR 4 t2) (fun r2_12 w => K r2_12 w) w) w) w) (S.call P 41 [t33] (fun
    t137 w => S.v P (S.bin Go.BinOp.neq 23 (Go.Operand.tmp 137) (Go.Operand.const (Go.Value.pointer none)) t137 (Go.Value.pointer none)) (fun t138 w => br t138
    (S.u P (Instr.storeAt 4 t2 (Go.Value.bool false)) (fun w => S.closes (marksOf x1000000) (fun w => S.p P (S.ldR 4 t2) (fun r2_13 w => K r2_13 w) w) w) w)
    (S.call P 14 [t33] (fun t141 w => S.rng P t141 2 (fun bg dn ax w => bg (fun w => S.u P (Instr.storeAt 4 t2 (Go.Value.bool false)) (fun w => dn (some
    Go.Code.ret) w) w) w) (fun b w => S.v P (S.bin Go.BinOp.add 3 (Go.Operand.tmp 30) (Go.Operand.const (Go.Value.int Go.IntKind.i64 1)) x30 (Go.Value.int
    Go.IntKind.i64 1)) (fun t144 w => I [(addMark b x1000000), t33, t40, t47, (nth vs 0), t63, t77, t81, t82, t144, t31, t138, t141] w) w) (fun b_1 w =>
    S.closes (marksOf (addMark b_1 x1000000)) (fun w => S.p P (S.ldR 4 t2) (fun r2_14 w => K r2_14 w) w) w) w) w)) w) w)) w) w)) w) w)) w) w)) w) w) w) w)) w)
    w) w) w)) w)) w)) w)) w)))) w) w) w) w) w) w) w) w) w) w) w) w) w) w) w) w) w) w) w) w) w) w) (fun J => S.drawn (fun w => ∃ H : World → Prop, H w ∧ (S.h P
    H (Instr.fieldAt 77 t1 2) (fun t50 w => S.h P H (Instr.loadAt 3 t50) (fun t51 w => S.h P H (Instr.loadAt 77 t1) (fun t52 w => (S.call P 37 [t52] (fun t53 w
    => H w ∧ ((S.call P 36 [t33, t51, t53] (fun t54 w => H w ∧ (S.h P H (Instr.extract t54 0) (fun t55 w => S.h P H (Instr.extract t54 1) (fun t56 w => S.v P
    (Instr.alloc 36 true (.tuple #[])) (fun t9 w => H w ∧ (S.u P (Instr.storeAt 36 t9 t55) (fun w => H w ∧ (J [t56] w)) w)) w) w) w)) w) ∧ (S.v P (Instr.alloc
    36 true (.tuple #[])) (fun t9_1 w => H w ∧ (S.call P 36 [t33, t51, t53] (fun t54_1 w => H w ∧ (S.h P H (Instr.extract t54_1 0) (fun t55_1 w => S.h P H
    (Instr.extract t54_1 1) (fun t56_1 w => S.u P (Instr.storeAt 36 t9_1 t55_1) (fun w => H w ∧ (J [t56_1] w)) w) w) w)) w)) w))) w) ∧ (S.v P (Instr.alloc 36
    true (.tuple #[])) (fun t9_2 w => H w ∧ (S.call P 37 [t52] (fun t53_1 w => H w ∧ (S.call P 36 [t33, t51, t53_1] (fun t54_2 w => H w ∧ (S.h P H
    (Instr.extract t54_2 0) (fun t55_2 w => S.h P H (Instr.extract t54_2 1) (fun t56_2 w => S.u P (Instr.storeAt 36 t9_2 t55_2) (fun w => H w ∧ (J [t56_2] w))
    w) w) w)) w)) w)) w)) w) w) w)) w)) w) w) w) w) w) w) w) w) w) w) w) w) w) w) w) w) (S.v P (Instr.build 96 #[]) (fun t145 w => S.v P (Instr.box 96 t145)
    (fun t146 w => S.v P (Instr.buildSlice 97 2 #[(0, (Go.Value.pointer none)), (1, t146)]) (fun t147 w => S.v P (Builtin.len_ #[97] 3 #[t147]) (fun t148 w =>
    S.loop (fun I_1 => ∀ (x1000000_1 : Value) (x19 : Value) (x20 : Value) (x21 : Value) (x22 : Value) (x23 : Value) (x149 : Value) (x150 : Value) (x186 :
    Value) (x188 : Value) (w : World), (S.v P (S.bin Go.BinOp.lss 3 (Go.Operand.tmp 149) (Go.Operand.tmp 148) x149 t148) (fun t150 w => br t150 (S.v P
    (Instr.indexAt 97 t147 x149) (fun t151 w => S.v P (Instr.loadAt 42 t151) (fun t152 w => S.v P (Instr.fieldAt 77 t1 2) (fun t155 w => S.v P (Instr.loadAt 3
    t155) (fun t156 w => S.v P (Instr.fieldAt 77 t1 4) (fun t157 w => S.v P (Instr.loadAt 9 t157) (fun t158 w => S.call P 19 [t152, t156, t158] (fun t159 w =>
    S.v P (Instr.extract t159 0) (fun t160 w => S.v P (Instr.extract t159 1) (fun t161 w => S.v P (Instr.fieldAt 77 t1 2) (fun t164 w => S.v P (Instr.loadAt 3
    t164) (fun t165 w => S.call P 25 [t152, t165] (fun t166 w => S.v P (Instr.extract t166 0) (fun t167 w => S.v P (Instr.extract t166 1) (fun t168 w => S.v P
    (S.bin Go.BinOp.neq 9 (Go.Operand.tmp 169) (Go.Operand.const (Go.Value.string { data := #[] })) t160 (Go.Value.string { data := #[] })) (fun t170 w => br
    t170 (S.u P (Instr.storeAt 4 t2 (Go.Value.bool false)) (fun w => S.closes (marksOf x1000000_1) (fun w => S.p P (S.ldR 4 t2) (fun r2_15 w => K r2_15 w) w)
    w) w) (S.v P (S.bin Go.BinOp.neq 9 (Go.Operand.tmp 172) (Go.Operand.const (Go.Value.string { data := #[] })) t167 (Go.Value.string { data := #[] })) (fun
    t173 w => br t173 (S.u P (Instr.storeAt 4 t2 (Go.Value.bool false)) (fun w => S.closes (marksOf x1000000_1) (fun w => S.p P (S.ldR 4 t2) (fun r2_16 w => K
    r2_16 w) w) w) w) (br t168 (S.u P (Instr.storeAt 4 t2 (Go.Value.bool false)) (fun w => S.closes (marksOf x1000000_1) (fun w => S.p P (S.ldR 4 t2) (fun
    r2_17 w => K r2_17 w) w) w) w) (S.v P (S.bin Go.BinOp.neq 24 (Go.Operand.tmp 179) (Go.Operand.const (Go.Value.int Go.IntKind.i64 2)) t161 (Go.Value.int
    Go.IntKind.i64 2)) (fun t180 w => br t180 (S.u P (Instr.storeAt 4 t2 (Go.Value.bool false)) (fun w => S.closes (marksOf x1000000_1) (fun w => S.p P (S.ldR
    4 t2) (fun r2_18 w => K r2_18 w) w) w) w) (S.call P 18 [t152] (fun t184 w => S.v P (S.bin Go.BinOp.neq 3 (Go.Operand.tmp 184) (Go.Operand.const
    (Go.Value.int Go.IntKind.i64 0)) t184 (Go.Value.int Go.IntKind.i64 0)) (fun t185 w => br t185 (S.u P (Instr.storeAt 4 t2 (Go.Value.bool false)) (fun w =>
    S.closes (marksOf x1000000_1) (fun w => S.p P (S.ldR 4 t2) (fun r2_19 w => K r2_19 w) w) w) w) (S.call P 20 [t152] (fun t188 w => S.rng P t188 2 (fun bg_1
    dn_1 ax_1 w => bg_1 (fun w => S.u P (Instr.storeAt 4 t2 (Go.Value.bool false)) (fun w => dn_1 (some Go.Code.ret) w) w) w) (fun b_2 w => S.v P (S.bin
    Go.BinOp.add 3 (Go.Operand.tmp 149) (Go.Operand.const (Go.Value.int Go.IntKind.i64 1)) x149 (Go.Value.int Go.IntKind.i64 1)) (fun t191 w => I_1 [(addMark
    b_2 x1000000_1), t152, t160, t161, t167, t168, t191, t150, t185, t188] w) w) (fun b_3 w => S.closes (marksOf (addMark b_3 x1000000_1)) (fun w => S.p P
    (S.ldR 4 t2) (fun r2_20 w => K r2_20 w) w) w) w) w)) w) w)) w))) w)) w) w) w) w) w) w) w) w) w) w) w) w) w) w) w) (S.u P (Instr.storeAt 4 t2 (Go.Value.bool
    true)) (fun w => S.closes (marksOf x1000000_1) (fun w => S.p P (S.ldR 4 t2) (fun r2_21 w => K r2_21 w) w) w) w)) w) → I_1 [x1000000_1, x19, x20, x21, x22,
    x23, x149, x150, x186, x188] w) [x1000000, undef, undef, undef, undef, undef, (Go.Value.int Go.IntKind.i64 0), undef, undef, undef] w) w) w) w) w)) w) → I
    [x1000000, x4, x6, x8, x10, x12, x15, x16, x17, x30, x31, x139, x141] w) [undef, undef, undef, undef, undef, undef, undef, undef, undef, (Go.Value.int
    Go.IntKind.i64 0), undef, undef, undef] w) w) w) w) w)) w) w) w) w
theorem F8_chk : chkFn Try.f8 (bodyOf Try.f8) [0, 1, 2, 4, 6, 8, 10, 12, 15, 16, 17, 19, 20, 21, 22, 23, 25, 28, 29, 30, 31, 139, 141, 147, 148, 149, 150, 186, 188] [(8, { ord := (.step 0 true (.step 1 true (.step 2 true (.step 3 true (.fork (.step 4 false (.fork (.step 5 false (.step 6 true (.step 7 true (.step 8 true (.step 9 false (.step 10 false (.step 11 true .fin))))))) (.step 9 false (.step 5 false (.step 6 true (.step 7 true (.step 8 true (.step 10 false (.step 11 true .fin))))))))) (.step 9 false (.step 4 false (.step 5 false (.step 6 true (.step 7 true (.step 8 true (.step 10 false (.step 11 true .fin))))))))))))), flags := [4, 5, 9, 10], held := true, init := true })] 1 = true := by kernel_rfl
theorem F8_eq (a0 : Value) (K : Value → World → Prop) (w : World) : F8 Try.prog a0 K w = denFn Try.prog (has ents) [(8, { ord := (.step 0 true (.step 1 true (.step 2 true (.step 3 true (.fork (.step 4 false (.fork (.step 5 false (.step 6 true (.step 7 true (.step 8 true (.step 9 false (.step 10 false (.step 11 true .fin))))))) (.step 9 false (.step 5 false (.step 6 true (.step 7 true (.step 8 true (.step 10 false (.step 11 true .fin))))))))) (.step 9 false (.step 4 false (.step 5 false (.step 6 true (.step 7 true (.step 8 true (.step 10 false (.step 11 true .fin))))))))))))), flags := [4, 5, 9, 10], held := true, init := true })] [0, 1, 2, 4, 6, 8, 10, 12, 15, 16, 17, 19, 20, 21, 22, 23, 25, 28, 29, 30, 31, 139, 141, 147, 148, 149, 150, 186, 188] (bodyOf Try.f8) Try.f8.results.toList [a0] K w := by kernel_rfl
theorem F8_link {a0 : Value} {K : Value → World → Prop} {w : World} (h : F8 Try.prog a0 K w) : S.call Try.prog 8 [a0] K w :=
  calls_of_den entOk mixOk Try.func8 rfl F8_chk (Eq.mp (F8_eq a0 K w) h)
/-- lanyard/histlist.New -/
def F9 (P : Program) (a0 : Value) (K : Value → World → Prop) (w : World) : Prop :=
  S.v P (S.bin Go.BinOp.lss 3 (Go.Operand.tmp 4) (Go.Operand.const (Go.Value.int Go.IntKind.i64 0)) a0 (Go.Value.int Go.IntKind.i64 0)) (fun t5 w => br t5 (K
    (.tuple #[(Go.Value.pointer none), (Go.Value.int Go.IntKind.i64 1)]) w) (S.v P (S.bin Go.BinOp.gtr 3 (Go.Operand.tmp 7) (Go.Operand.const (Go.Value.int
    Go.IntKind.i64 4096)) a0 (Go.Value.int Go.IntKind.i64 4096)) (fun t8 w => br t8 (K (.tuple #[(Go.Value.pointer none), (Go.Value.int Go.IntKind.i64 1)]) w)
    (S.v P (Instr.build 85 #[(1, (Go.Value.int Go.IntKind.i64 1)), (2, a0)]) (fun t11 w => S.v P (Instr.build 87 #[(0, t11)]) (fun t12 w => S.v P (Instr.box 87
    t12) (fun t13 w => K (.tuple #[t13, (Go.Value.int Go.IntKind.i64 0)]) w) w) w) w)) w)) w
theorem F9_chk : chkFn Try.f9 (bodyOf Try.f9) [0, 2, 3, 9] [] 1 = true := by kernel_rfl
theorem F9_eq (a0 : Value) (K : Value → World → Prop) (w : World) : F9 Try.prog a0 K w = denFn Try.prog (has ents) [] [0, 2, 3, 9] (bodyOf Try.f9) Try.f9.results.toList [a0] K w := by kernel_rfl
theorem F9_link {a0 : Value} {K : Value → World → Prop} {w : World} (h : F9 Try.prog a0 K w) : S.call Try.prog 9 [a0] K w :=
  calls_of_den entOk mixOk Try.func9 rfl F9_chk (Eq.mp (F9_eq a0 K w) h)
/-- lanyard/lanyardlaw10.begun -/
def F10 (P : Program) (K : Value → World → Prop) (w : World) : Prop :=
  S.v P (Instr.build 36 #[(0, (Go.Value.string { data := #[97] }))]) (fun t6 w => S.v P (Instr.build 36 #[(0, (Go.Value.string { data := #[98] }))]) (fun t7 w =>
    S.v P (Instr.build 36 #[(0, (Go.Value.string { data := #[99] }))]) (fun t8 w => S.v P (Instr.buildSlice 28 3 #[(0, t6), (1, t7), (2, t8)]) (fun t9 w =>
    S.call P 16 [(Go.Value.int Go.IntKind.i64 2), t9] (fun t10 w => S.v P (Instr.extract t10 0) (fun t11 w => S.v P (Instr.extract t10 1) (fun t12 w => S.v P
    (S.bin Go.BinOp.eql 23 (Go.Operand.tmp 13) (Go.Operand.const (Go.Value.pointer none)) t11 (Go.Value.pointer none)) (fun t14 w => br t14 (K (Go.Value.bool
    false) w) (S.v P (S.bin Go.BinOp.neq 24 (Go.Operand.tmp 16) (Go.Operand.const (Go.Value.int Go.IntKind.i64 0)) t12 (Go.Value.int Go.IntKind.i64 0)) (fun
    t17 w => br t17 (K (Go.Value.bool false) w) (S.call P 12 [t11] (fun t21 w => S.v P (S.bin Go.BinOp.neq 3 (Go.Operand.tmp 21) (Go.Operand.const
    (Go.Value.int Go.IntKind.i64 2)) t21 (Go.Value.int Go.IntKind.i64 2)) (fun t22 w => br t22 (K (Go.Value.bool false) w) (S.call P 13 [t11] (fun t26 w => S.v
    P (S.bin Go.BinOp.neq 2 (Go.Operand.tmp 26) (Go.Operand.const (Go.Value.int Go.IntKind.i64 2)) t26 (Go.Value.int Go.IntKind.i64 2)) (fun t27 w => br t27 (K
    (Go.Value.bool false) w) (S.call P 21 [t11, (Go.Value.int Go.IntKind.i64 0)] (fun t31 w => S.v P (Instr.extract t31 0) (fun t32 w => S.v P (Instr.extract
    t31 1) (fun t33 w => S.v P (Instr.alloc 36 true (.tuple #[])) (fun t3 w => S.u P (Instr.storeAt 36 t3 t32) (fun w => br t33 (S.v P (Instr.fieldAt 36 t3 0)
    (fun t36 w => S.v P (Instr.loadAt 9 t36) (fun t37 w => S.v P (S.bin Go.BinOp.eql 9 (Go.Operand.tmp 37) (Go.Operand.const (Go.Value.string { data := #[98]
    })) t37 (Go.Value.string { data := #[98] })) (fun t38 w => K t38 w) w) w) w) (K (Go.Value.bool false) w)) w) w) w) w) w)) w) w)) w) w)) w)) w) w) w) w) w)
    w) w) w
theorem F10_chk : chkFn Try.f10 (bodyOf Try.f10) [0, 1, 2, 3, 4, 28] [] 0 = true := by kernel_rfl
theorem F10_eq (K : Value → World → Prop) (w : World) : F10 Try.prog K w = denFn Try.prog (has ents) [] [0, 1, 2, 3, 4, 28] (bodyOf Try.f10) Try.f10.results.toList [] K w := by kernel_rfl
theorem F10_link {K : Value → World → Prop} {w : World} (h : F10 Try.prog K w) : S.call Try.prog 10 [] K w :=
  calls_of_den entOk mixOk Try.func10 rfl F10_chk (Eq.mp (F10_eq K w) h)
/-- (*lanyard/histlist.List).Add -/
def F11 (P : Program) (a0 a1 : Value) (K : Value → World → Prop) (w : World) : Prop :=
  S.call P 42 [a0] (fun t7 w => br t7 (K (Go.Value.int Go.IntKind.i64 2) w) (S.call P 43 [a1] (fun t9 w => S.v P (S.bin Go.BinOp.neq 24 (Go.Operand.tmp 10)
    (Go.Operand.const (Go.Value.int Go.IntKind.i64 0)) t9 (Go.Value.int Go.IntKind.i64 0)) (fun t11 w => br t11 (K t9 w) (S.v P (S.nilC a0) (fun t15 w => S.v P
    (Instr.fieldAt 87 t15 0) (fun t16 w => S.v P (Instr.fieldAt 85 t16 0) (fun t17 w => S.v P (Instr.loadAt 28 t17) (fun t18 w => S.v P (Builtin.append_ #[28,
    28] 28 #[t18, a1]) (fun t20 w => S.v P (S.nilC a0) (fun t21 w => S.v P (Instr.fieldAt 87 t21 0) (fun t22 w => S.v P (Instr.fieldAt 85 t22 0) (fun t23 w =>
    S.u P (Instr.storeAt 28 t23 t20) (fun w => S.call P 44 [a0] (fun t25 w => K (Go.Value.int Go.IntKind.i64 0) w) w) w) w) w) w) w) w) w) w) w)) w) w)) w
theorem F11_chk : chkFn Try.f11 (bodyOf Try.f11) [0, 1, 4, 5, 7, 11] [] 2 = true := by kernel_rfl
theorem F11_eq (a0 a1 : Value) (K : Value → World → Prop) (w : World) : F11 Try.prog a0 a1 K w = denFn Try.prog (has ents) [] [0, 1, 4, 5, 7, 11] (bodyOf Try.f11) Try.f11.results.toList [a0, a1] K w := by kernel_rfl
theorem F11_link {a0 a1 : Value} {K : Value → World → Prop} {w : World} (h : F11 Try.prog a0 a1 K w) : S.call Try.prog 11 [a0, a1] K w :=
  calls_of_den entOk mixOk Try.func11 rfl F11_chk (Eq.mp (F11_eq a0 a1 K w) h)
/-- (*lanyard/histlist.List).Len -/
def F12 (P : Program) (a0 : Value) (K : Value → World → Prop) (w : World) : Prop :=
  S.call P 42 [a0] (fun t4 w => br t4 (K (Go.Value.int Go.IntKind.i64 0) w) (S.v P (S.nilC a0) (fun t6 w => S.v P (Instr.fieldAt 87 t6 0) (fun t7 w => S.v P
    (Instr.fieldAt 85 t7 0) (fun t8 w => S.v P (Instr.loadAt 28 t8) (fun t9 w => S.v P (Builtin.len_ #[28] 3 #[t9]) (fun t10 w => K t10 w) w) w) w) w) w)) w
theorem F12_chk : chkFn Try.f12 (bodyOf Try.f12) [0, 2, 4] [] 1 = true := by kernel_rfl
theorem F12_eq (a0 : Value) (K : Value → World → Prop) (w : World) : F12 Try.prog a0 K w = denFn Try.prog (has ents) [] [0, 2, 4] (bodyOf Try.f12) Try.f12.results.toList [a0] K w := by kernel_rfl
theorem F12_link {a0 : Value} {K : Value → World → Prop} {w : World} (h : F12 Try.prog a0 K w) : S.call Try.prog 12 [a0] K w :=
  calls_of_den entOk mixOk Try.func12 rfl F12_chk (Eq.mp (F12_eq a0 K w) h)
/-- (*lanyard/histlist.List).Base -/
def F13 (P : Program) (a0 : Value) (K : Value → World → Prop) (w : World) : Prop :=
  S.call P 42 [a0] (fun t4 w => br t4 (K (Go.Value.int Go.IntKind.i64 0) w) (S.v P (S.nilC a0) (fun t6 w => S.v P (Instr.fieldAt 87 t6 0) (fun t7 w => S.v P
    (Instr.fieldAt 85 t7 1) (fun t8 w => S.v P (Instr.loadAt 2 t8) (fun t9 w => K t9 w) w) w) w) w)) w
theorem F13_chk : chkFn Try.f13 (bodyOf Try.f13) [0, 2, 4] [] 1 = true := by kernel_rfl
theorem F13_eq (a0 : Value) (K : Value → World → Prop) (w : World) : F13 Try.prog a0 K w = denFn Try.prog (has ents) [] [0, 2, 4] (bodyOf Try.f13) Try.f13.results.toList [a0] K w := by kernel_rfl
theorem F13_link {a0 : Value} {K : Value → World → Prop} {w : World} (h : F13 Try.prog a0 K w) : S.call Try.prog 13 [a0] K w :=
  calls_of_den entOk mixOk Try.func13 rfl F13_chk (Eq.mp (F13_eq a0 K w) h)
/-- (*lanyard/histlist.List).All -/
def F14 (P : Program) (a0 : Value) (K : Value → World → Prop) (w : World) : Prop :=
  S.seq (fun vs w => S.call P 46 [(nth vs 0)] (fun t14 w => K t14 w) w) (fun J => S.call P 42 [a0] (fun t5 w => S.v P (Op.unary Go.UnOp.not t5) (fun t6 w => br
    t6 (S.v P (S.nilC a0) (fun t8 w => S.v P (Instr.fieldAt 87 t8 0) (fun t9 w => S.v P (Instr.fieldAt 85 t9 0) (fun t10 w => S.v P (Instr.loadAt 28 t10) (fun
    t11 w => S.call P 45 [t11] (fun t12 w => J [t12, t6] w) w) w) w) w) w) (J [(Go.Value.slice none 0 0), t6] w)) w) w)
theorem F14_chk : chkFn Try.f14 (bodyOf Try.f14) [0, 2, 3, 6] [] 1 = true := by kernel_rfl
theorem F14_eq (a0 : Value) (K : Value → World → Prop) (w : World) : F14 Try.prog a0 K w = denFn Try.prog (has ents) [] [0, 2, 3, 6] (bodyOf Try.f14) Try.f14.results.toList [a0] K w := by kernel_rfl
theorem F14_link {a0 : Value} {K : Value → World → Prop} {w : World} (h : F14 Try.prog a0 K w) : S.call Try.prog 14 [a0] K w :=
  calls_of_den entOk mixOk Try.func14 rfl F14_chk (Eq.mp (F14_eq a0 K w) h)
/-- (*lanyard/histlist.List).Number -/
def F15 (P : Program) (a0 a1 : Value) (K : Value → World → Prop) (w : World) : Prop :=
  S.v P (Instr.alloc 36 true (.tuple #[])) (fun t4 w => S.drawn (fun w => ∃ H : World → Prop, H w ∧ (S.call P 42 [a0] (fun t7 w => H w ∧ (br t7 (S.v P
    (Instr.build 36 #[]) (fun t33 w => S.u P (Instr.storeAt 36 t4 t33) (fun w => S.p P (S.ldR 36 t4) (fun r4 w => K (.tuple #[r4, (Go.Value.bool false)]) w) w)
    w) w) (S.h P H (S.nilC a0) (fun t11 w => S.h P H (Instr.fieldAt 87 t11 0) (fun t12 w => S.h P H (Instr.fieldAt 85 t12 1) (fun t13 w => S.h P H
    (Instr.loadAt 2 t13) (fun t14 w => S.h P H (S.bin Go.BinOp.lss 2 (Go.Operand.tmp 9) (Go.Operand.tmp 14) a1 t14) (fun t15 w => br t15 (S.v P (Instr.build 36
    #[]) (fun t33_1 w => S.u P (Instr.storeAt 36 t4 t33_1) (fun w => S.p P (S.ldR 36 t4) (fun r4_1 w => K (.tuple #[r4_1, (Go.Value.bool false)]) w) w) w) w)
    (S.h P H (S.nilC a0) (fun t20 w => S.h P H (Instr.fieldAt 87 t20 0) (fun t21 w => S.h P H (Instr.fieldAt 85 t21 1) (fun t22 w => S.h P H (Instr.loadAt 2
    t22) (fun t23 w => S.h P H (S.bin Go.BinOp.sub 2 (Go.Operand.tmp 18) (Go.Operand.tmp 23) a1 t23) (fun t24 w => S.h P H (S.nilC a0) (fun t26 w => S.h P H
    (Instr.fieldAt 87 t26 0) (fun t27 w => S.h P H (Instr.fieldAt 85 t27 0) (fun t28 w => S.h P H (Instr.loadAt 28 t28) (fun t29 w => S.h P H (Builtin.len_
    #[28] 3 #[t29]) (fun t30 w => S.h P H (S.bin Go.BinOp.geq 2 (Go.Operand.tmp 24) (Go.Operand.tmp 30) t24 t30) (fun t31 w => br t31 (S.v P (Instr.build 36
    #[]) (fun t33_2 w => S.u P (Instr.storeAt 36 t4 t33_2) (fun w => S.p P (S.ldR 36 t4) (fun r4_2 w => K (.tuple #[r4_2, (Go.Value.bool false)]) w) w) w) w)
    (S.drawn (fun w => S.p P (S.nilC a0) (fun t35 w => S.p P (Instr.fieldAt 87 t35 0) (fun t36 w => S.p P (Instr.fieldAt 85 t36 0) (fun t37 w => S.p P
    (Instr.loadAt 28 t37) (fun t38 w => S.p P (S.nilC a0) (fun t41 w => S.p P (Instr.fieldAt 87 t41 0) (fun t42 w => S.p P (Instr.fieldAt 85 t42 1) (fun t43 w
    => S.p P (Instr.loadAt 2 t43) (fun t44 w => S.p P (S.bin Go.BinOp.sub 2 (Go.Operand.tmp 39) (Go.Operand.tmp 44) a1 t44) (fun t45 w => S.p P (Instr.indexAt
    28 t38 t45) (fun t46 w => S.p P (Instr.loadAt 36 t46) (fun t47 w => S.u P (Instr.storeAt 36 t4 t47) (fun w => S.p P (S.ldR 36 t4) (fun r4_3 w => K (.tuple
    #[r4_3, (Go.Value.bool true)]) w) w) w) w) w) w) w) w) w) w) w) w) w) w) w)) w) w) w) w) w) w) w) w) w) w) w)) w) w) w) w) w))) w)) w) w
theorem F15_chk : chkFn Try.f15 (bodyOf Try.f15) [0, 1, 4, 5, 32] [(1, { ord := (.step 0 true (.step 1 false (.step 2 true (.step 3 true (.step 4 true (.step 5 true (.step 6 true (.step 7 true (.step 8 true (.step 9 true (.step 10 true (.step 11 true (.step 12 true (.step 13 true (.step 14 true (.step 15 true (.step 16 true (.step 17 true (.step 18 true (.step 19 true (.step 20 true (.step 21 true (.step 22 true (.step 23 true (.step 24 true (.step 25 true (.step 26 true .fin))))))))))))))))))))))))))), flags := [1], held := true, init := true }), (3, { ord := (.step 0 true (.step 1 true (.step 2 true (.step 3 true (.step 4 true (.step 5 true (.step 6 true (.step 7 true (.step 8 true (.step 9 true (.step 10 true (.step 11 true (.step 12 true (.step 13 true (.step 14 false (.step 15 true .fin)))))))))))))))), flags := [], held := false, init := true })] 2 = true := by kernel_rfl
theorem F15_eq (a0 a1 : Value) (K : Value → World → Prop) (w : World) : F15 Try.prog a0 a1 K w = denFn Try.prog (has ents) [(1, { ord := (.step 0 true (.step 1 false (.step 2 true (.step 3 true (.step 4 true (.step 5 true (.step 6 true (.step 7 true (.step 8 true (.step 9 true (.step 10 true (.step 11 true (.step 12 true (.step 13 true (.step 14 true (.step 15 true (.step 16 true (.step 17 true (.step 18 true (.step 19 true (.step 20 true (.step 21 true (.step 22 true (.step 23 true (.step 24 true (.step 25 true (.step 26 true .fin))))))))))))))))))))))))))), flags := [1], held := true, init := true }), (3, { ord := (.step 0 true (.step 1 true (.step 2 true (.step 3 true (.step 4 true (.step 5 true (.step 6 true (.step 7 true (.step 8 true (.step 9 true (.step 10 true (.step 11 true (.step 12 true (.step 13 true (.step 14 false (.step 15 true .fin)))))))))))))))), flags := [], held := false, init := true })] [0, 1, 4, 5, 32] (bodyOf Try.f15) Try.f15.results.toList [a0, a1] K w := by kernel_rfl
theorem F15_link {a0 a1 : Value} {K : Value → World → Prop} {w : World} (h : F15 Try.prog a0 a1 K w) : S.call Try.prog 15 [a0, a1] K w :=
  calls_of_den entOk mixOk Try.func15 rfl F15_chk (Eq.mp (F15_eq a0 a1 K w) h)
/-- lanyard/histlist.From -/
def F16 (P : Program) (a0 a1 : Value) (K : Value → World → Prop) (w : World) : Prop :=
  S.call P 9 [a0] (fun t11 w => S.v P (Instr.extract t11 0) (fun t12 w => S.v P (Instr.extract t11 1) (fun t13 w => S.v P (S.bin Go.BinOp.neq 24 (Go.Operand.tmp
    14) (Go.Operand.const (Go.Value.int Go.IntKind.i64 0)) t13 (Go.Value.int Go.IntKind.i64 0)) (fun t15 w => br t15 (K (.tuple #[(Go.Value.pointer none),
    t13]) w) (S.call P 11 [t12, a1] (fun t19 w => S.v P (S.bin Go.BinOp.neq 24 (Go.Operand.tmp 20) (Go.Operand.const (Go.Value.int Go.IntKind.i64 0)) t19
    (Go.Value.int Go.IntKind.i64 0)) (fun t21 w => br t21 (K (.tuple #[(Go.Value.pointer none), t19]) w) (K (.tuple #[t12, (Go.Value.int Go.IntKind.i64 0)])
    w)) w) w)) w) w) w) w
theorem F16_chk : chkFn Try.f16 (bodyOf Try.f16) [0, 1, 4, 5, 6, 7, 8, 15, 21] [] 2 = true := by kernel_rfl
theorem F16_eq (a0 a1 : Value) (K : Value → World → Prop) (w : World) : F16 Try.prog a0 a1 K w = denFn Try.prog (has ents) [] [0, 1, 4, 5, 6, 7, 8, 15, 21] (bodyOf Try.f16) Try.f16.results.toList [a0, a1] K w := by kernel_rfl
theorem F16_link {a0 a1 : Value} {K : Value → World → Prop} {w : World} (h : F16 Try.prog a0 a1 K w) : S.call Try.prog 16 [a0, a1] K w :=
  calls_of_den entOk mixOk Try.func16 rfl F16_chk (Eq.mp (F16_eq a0 a1 K w) h)
/-- lanyard/histlist.NewWalk -/
def F17 (P : Program) (a0 : Value) (K : Value → World → Prop) (w : World) : Prop :=
  S.call P 42 [a0] (fun t8 w => br t8 (K (.tuple #[(Go.Value.pointer none), (Go.Value.int Go.IntKind.i64 2)]) w) (S.call P 12 [a0] (fun t10 w => S.v P
    (Instr.build 96 #[(2, t10)]) (fun t11 w => S.v P (Instr.box 96 t11) (fun t12 w => S.v P (Instr.alloc 42 true (.tuple #[])) (fun t4 w => S.u P
    (Instr.storeAt 42 t4 t12) (fun w => S.call P 14 [a0] (fun t14 w => S.rng P t14 2 (fun bg dn ax w => S.v P (Instr.alloc 36 true (.tuple #[])) (fun t6 w =>
    S.u P (Instr.storeAt 36 t6 (nth ax 1)) (fun w => bg (fun w => S.drawn (fun w => ∃ H : World → Prop, H w ∧ (S.h P H (Instr.loadAt 42 t4) (fun t17 w => S.h P
    H (Instr.loadAt 42 t4) (fun t18 w => S.h P H (S.nilC t18) (fun t19 w => S.h P H (Instr.fieldAt 96 t19 0) (fun t20 w => S.h P H (Instr.loadAt 62 t20) (fun
    t21 w => S.h P H (Instr.fieldAt 36 t6 0) (fun t22 w => S.h P H (Instr.loadAt 9 t22) (fun t23 w => S.v P (Instr.buildSlice 62 1 #[(0, t23)]) (fun t24 w => H
    w ∧ (S.v P (Builtin.append_ #[62, 62] 62 #[t21, t24]) (fun t25 w => H w ∧ (S.v P (S.nilC t17) (fun t26 w => S.v P (Instr.fieldAt 96 t26 0) (fun t27 w =>
    S.u P (Instr.storeAt 62 t27 t25) (fun w => dn none w) w) w) w)) w)) w) w) w) w) w) w) w) w)) w) w) w) w) (fun b w => S.seq (fun vs w => S.v P (Instr.loadAt
    42 t4) (fun t38 w => S.closes (marksOf (addMark b undef)) (fun w => K (.tuple #[t38, (Go.Value.int Go.IntKind.i64 0)]) w) w) w) (fun J => S.drawn (fun w =>
    ∃ H_1 : World → Prop, H_1 w ∧ (S.h P H_1 (Instr.loadAt 42 t4) (fun t28 w => S.h P H_1 (Instr.loadAt 42 t4) (fun t29 w => S.h P H_1 (S.nilC t29) (fun t30 w
    => S.h P H_1 (Instr.fieldAt 96 t30 0) (fun t31 w => S.h P H_1 (Instr.loadAt 62 t31) (fun t32 w => (S.call P 47 [t32] (fun t33 w => H_1 w ∧ (S.v P
    (Instr.buildSlice 62 1 #[(0, (Go.Value.string { data := #[] }))]) (fun t34 w => H_1 w ∧ (S.v P (Builtin.append_ #[62, 62] 62 #[t33, t34]) (fun t35 w => H_1
    w ∧ (S.v P (S.nilC t28) (fun t36 w => S.v P (Instr.fieldAt 96 t36 1) (fun t37 w => S.u P (Instr.storeAt 62 t37 t35) (fun w => J [] w) w) w) w)) w)) w)) w)
    ∧ (S.v P (Instr.buildSlice 62 1 #[(0, (Go.Value.string { data := #[] }))]) (fun t34_1 w => H_1 w ∧ (S.call P 47 [t32] (fun t33_1 w => H_1 w ∧ (S.v P
    (Builtin.append_ #[62, 62] 62 #[t33_1, t34_1]) (fun t35_1 w => H_1 w ∧ (S.v P (S.nilC t28) (fun t36_1 w => S.v P (Instr.fieldAt 96 t36_1 1) (fun t37_1 w =>
    S.u P (Instr.storeAt 62 t37_1 t35_1) (fun w => J [] w) w) w) w)) w)) w)) w)) w) w) w) w) w)) w)) (fun b_1 w => S.closes (marksOf (addMark b_1 undef)) (fun
    w => K (.tuple #[(Go.Value.pointer none), (Go.Value.int Go.IntKind.i64 0)]) w) w) w) w) w) w) w) w) w)) w
theorem F17_chk : chkFn Try.f17 (bodyOf Try.f17) [0, 2, 3, 4, 6, 8, 14, 16] [(6, { ord := (.step 0 true (.step 1 true (.step 2 true (.step 3 true (.step 4 true (.step 5 true (.step 6 true (.step 7 false (.step 8 false (.step 9 false (.step 10 false (.step 11 false .fin)))))))))))), flags := [7, 8], held := true, init := true }), (7, { ord := (.step 0 true (.step 1 true (.step 2 true (.step 3 true (.step 4 true (.fork (.step 5 false (.step 6 false (.step 7 false (.step 8 false (.step 9 false (.step 10 false .fin)))))) (.step 6 false (.step 5 false (.step 7 false (.step 8 false (.step 9 false (.step 10 false .fin)))))))))))), flags := [5, 6, 7], held := true, init := true })] 1 = true := by kernel_rfl
theorem F17_eq (a0 : Value) (K : Value → World → Prop) (w : World) : F17 Try.prog a0 K w = denFn Try.prog (has ents) [(6, { ord := (.step 0 true (.step 1 true (.step 2 true (.step 3 true (.step 4 true (.step 5 true (.step 6 true (.step 7 false (.step 8 false (.step 9 false (.step 10 false (.step 11 false .fin)))))))))))), flags := [7, 8], held := true, init := true }), (7, { ord := (.step 0 true (.step 1 true (.step 2 true (.step 3 true (.step 4 true (.fork (.step 5 false (.step 6 false (.step 7 false (.step 8 false (.step 9 false (.step 10 false .fin)))))) (.step 6 false (.step 5 false (.step 7 false (.step 8 false (.step 9 false (.step 10 false .fin)))))))))))), flags := [5, 6, 7], held := true, init := true })] [0, 2, 3, 4, 6, 8, 14, 16] (bodyOf Try.f17) Try.f17.results.toList [a0] K w := by kernel_rfl
theorem F17_link {a0 : Value} {K : Value → World → Prop} {w : World} (h : F17 Try.prog a0 K w) : S.call Try.prog 17 [a0] K w :=
  calls_of_den entOk mixOk Try.func17 rfl F17_chk (Eq.mp (F17_eq a0 K w) h)
/-- (*lanyard/histlist.Walk).Place -/
def F18 (P : Program) (a0 : Value) (K : Value → World → Prop) (w : World) : Prop :=
  S.call P 48 [a0] (fun t4 w => br t4 (K (Go.Value.int Go.IntKind.i64 0) w) (S.v P (S.nilC a0) (fun t6 w => S.v P (Instr.fieldAt 96 t6 2) (fun t7 w => S.v P
    (Instr.loadAt 3 t7) (fun t8 w => K t8 w) w) w) w)) w
theorem F18_chk : chkFn Try.f18 (bodyOf Try.f18) [0, 2, 4] [] 1 = true := by kernel_rfl
theorem F18_eq (a0 : Value) (K : Value → World → Prop) (w : World) : F18 Try.prog a0 K w = denFn Try.prog (has ents) [] [0, 2, 4] (bodyOf Try.f18) Try.f18.results.toList [a0] K w := by kernel_rfl
theorem F18_link {a0 : Value} {K : Value → World → Prop} {w : World} (h : F18 Try.prog a0 K w) : S.call Try.prog 18 [a0] K w :=
  calls_of_den entOk mixOk Try.func18 rfl F18_chk (Eq.mp (F18_eq a0 K w) h)
/-- (*lanyard/histlist.Walk).To -/
def F19 (P : Program) (a0 a1 a2 : Value) (K : Value → World → Prop) (w : World) : Prop :=
  S.call P 48 [a0] (fun t9 w => br t9 (K (.tuple #[(Go.Value.string { data := #[] }), (Go.Value.int Go.IntKind.i64 2)]) w) (S.v P (S.bin Go.BinOp.lss 3
    (Go.Operand.tmp 10) (Go.Operand.const (Go.Value.int Go.IntKind.i64 0)) a1 (Go.Value.int Go.IntKind.i64 0)) (fun t11 w => br t11 (K (.tuple
    #[(Go.Value.string { data := #[] }), (Go.Value.int Go.IntKind.i64 6)]) w) (S.v P (S.nilC a0) (fun t15 w => S.v P (Instr.fieldAt 96 t15 1) (fun t16 w => S.v
    P (Instr.loadAt 62 t16) (fun t17 w => S.v P (Builtin.len_ #[62] 3 #[t17]) (fun t18 w => S.v P (S.bin Go.BinOp.geq 3 (Go.Operand.tmp 13) (Go.Operand.tmp 18)
    a1 t18) (fun t19 w => br t19 (K (.tuple #[(Go.Value.string { data := #[] }), (Go.Value.int Go.IntKind.i64 6)]) w) (S.v P (Builtin.len_ #[9] 3 #[a2]) (fun
    t22 w => S.v P (S.bin Go.BinOp.gtr 3 (Go.Operand.tmp 22) (Go.Operand.const (Go.Value.int Go.IntKind.i64 16384)) t22 (Go.Value.int Go.IntKind.i64 16384))
    (fun t23 w => br t23 (K (.tuple #[(Go.Value.string { data := #[] }), (Go.Value.int Go.IntKind.i64 3)]) w) (S.drawn (fun w => S.p P (S.nilC a0) (fun t25 w
    => S.p P (Instr.fieldAt 96 t25 1) (fun t26 w => S.p P (Instr.loadAt 62 t26) (fun t27 w => S.p P (S.nilC a0) (fun t29 w => S.p P (Instr.fieldAt 96 t29 2)
    (fun t30 w => S.p P (Instr.loadAt 3 t30) (fun t31 w => S.p P (Instr.indexAt 62 t27 t31) (fun t33 w => S.u P (Instr.storeAt 9 t33 a2) (fun w => S.v P
    (S.nilC a0) (fun t36 w => S.v P (Instr.fieldAt 96 t36 2) (fun t37 w => S.u P (Instr.storeAt 3 t37 a1) (fun w => S.v P (S.nilC a0) (fun t39 w => S.v P
    (Instr.fieldAt 96 t39 1) (fun t40 w => S.v P (Instr.loadAt 62 t40) (fun t41 w => S.v P (Instr.indexAt 62 t41 a1) (fun t43 w => S.v P (Instr.loadAt 9 t43)
    (fun t44 w => K (.tuple #[t44, (Go.Value.int Go.IntKind.i64 0)]) w) w) w) w) w) w) w) w) w) w) w) w) w) w) w) w) w) w)) w) w)) w) w) w) w) w)) w)) w
theorem F19_chk : chkFn Try.f19 (bodyOf Try.f19) [0, 1, 2, 6, 7, 9, 20, 23] [(7, { ord := (.step 0 true (.step 1 true (.step 2 true (.step 3 true (.step 4 true (.step 5 true (.step 6 true (.step 7 true (.step 8 true (.step 9 true (.step 10 false .fin))))))))))), flags := [], held := false, init := true })] 3 = true := by kernel_rfl
theorem F19_eq (a0 a1 a2 : Value) (K : Value → World → Prop) (w : World) : F19 Try.prog a0 a1 a2 K w = denFn Try.prog (has ents) [(7, { ord := (.step 0 true (.step 1 true (.step 2 true (.step 3 true (.step 4 true (.step 5 true (.step 6 true (.step 7 true (.step 8 true (.step 9 true (.step 10 false .fin))))))))))), flags := [], held := false, init := true })] [0, 1, 2, 6, 7, 9, 20, 23] (bodyOf Try.f19) Try.f19.results.toList [a0, a1, a2] K w := by kernel_rfl
theorem F19_link {a0 a1 a2 : Value} {K : Value → World → Prop} {w : World} (h : F19 Try.prog a0 a1 a2 K w) : S.call Try.prog 19 [a0, a1, a2] K w :=
  calls_of_den entOk mixOk Try.func19 rfl F19_chk (Eq.mp (F19_eq a0 a1 a2 K w) h)
/-- (*lanyard/histlist.Walk).Changed -/
def F20 (P : Program) (a0 : Value) (K : Value → World → Prop) (w : World) : Prop :=
  S.v P (Instr.alloc 102 true (.tuple #[])) (fun t3 w => S.v P (Instr.alloc 62 true (.tuple #[])) (fun t4 w => S.seq (fun vs w => S.v P (Instr.makeFunc
    (Go.Fn.func 49) #[] #[t3, t4]) (fun t44 w => K t44 w) w) (fun J => S.call P 48 [a0] (fun t8 w => S.v P (Op.unary Go.UnOp.not t8) (fun t9 w => br t9 (S.v P
    (S.nilC a0) (fun t11 w => S.v P (Instr.fieldAt 96 t11 0) (fun t12 w => S.v P (Instr.loadAt 62 t12) (fun t13 w => S.v P (Builtin.len_ #[62] 3 #[t13]) (fun
    t14 w => S.loop (fun I => ∀ (x5 : Value) (x6 : Value) (x15 : Value) (x16 : Value) (x28 : Value) (w : World), (S.v P (S.bin Go.BinOp.lss 3 (Go.Operand.tmp
    15) (Go.Operand.tmp 14) x15 t14) (fun t16 w => br t16 (S.seq (fun vs_1 w => S.v P (S.bin Go.BinOp.add 3 (Go.Operand.tmp 15) (Go.Operand.const (Go.Value.int
    Go.IntKind.i64 1)) x15 (Go.Value.int Go.IntKind.i64 1)) (fun t43 w => I [(nth vs_1 0), (nth vs_1 1), t43, t16, (nth vs_1 2)] w) w) (fun J_1 => S.v P
    (Instr.indexAt 62 t13 x15) (fun t18 w => S.v P (Instr.loadAt 9 t18) (fun t19 w => S.v P (S.nilC a0) (fun t21 w => S.v P (Instr.fieldAt 96 t21 1) (fun t22 w
    => S.v P (Instr.loadAt 62 t22) (fun t23 w => S.v P (Instr.indexAt 62 t23 x15) (fun t25 w => S.v P (Instr.loadAt 9 t25) (fun t26 w => S.v P (S.bin
    Go.BinOp.neq 9 (Go.Operand.tmp 26) (Go.Operand.tmp 27) t26 t19) (fun t28 w => br t28 (S.v P (Instr.loadAt 102 t3) (fun t29 w => S.v P (Instr.buildSlice 102
    1 #[(0, x15)]) (fun t31 w => S.v P (Builtin.append_ #[102, 102] 102 #[t29, t31]) (fun t32 w => S.u P (Instr.storeAt 102 t3 t32) (fun w => S.drawn (fun w =>
    ∃ H : World → Prop, H w ∧ (S.h P H (Instr.loadAt 62 t4) (fun t33 w => S.h P H (S.nilC a0) (fun t35 w => S.h P H (Instr.fieldAt 96 t35 1) (fun t36 w => S.h
    P H (Instr.loadAt 62 t36) (fun t37 w => S.h P H (Instr.indexAt 62 t37 x15) (fun t39 w => S.h P H (Instr.loadAt 9 t39) (fun t40 w => S.v P (Instr.buildSlice
    62 1 #[(0, t40)]) (fun t41 w => H w ∧ (S.v P (Builtin.append_ #[62, 62] 62 #[t33, t41]) (fun t42 w => H w ∧ (S.u P (Instr.storeAt 62 t4 t42) (fun w => J_1
    [x15, t19, t28] w) w)) w)) w) w) w) w) w) w) w)) w) w) w) w) w) (J_1 [x15, t19, t28] w)) w) w) w) w) w) w) w) w)) (J [x5, x6, t9, t13, t14, x15, t16, x28]
    w)) w) → I [x5, x6, x15, x16, x28] w) [undef, undef, (Go.Value.int Go.IntKind.i64 0), undef, undef] w) w) w) w) w) (J [undef, undef, t9, undef, undef,
    undef, undef, undef] w)) w) w)) w) w
theorem F20_chk : chkFn Try.f20 (bodyOf Try.f20) [0, 2, 3, 4, 5, 6, 9, 13, 14, 15, 16, 28] [(9, { ord := (.step 0 true (.step 1 true (.step 2 true (.step 3 true (.step 4 true (.step 5 true (.step 6 true (.step 7 true (.step 8 false (.step 9 false (.step 10 false .fin))))))))))), flags := [8, 9], held := true, init := true })] 1 = true := by kernel_rfl
theorem F20_eq (a0 : Value) (K : Value → World → Prop) (w : World) : F20 Try.prog a0 K w = denFn Try.prog (has ents) [(9, { ord := (.step 0 true (.step 1 true (.step 2 true (.step 3 true (.step 4 true (.step 5 true (.step 6 true (.step 7 true (.step 8 false (.step 9 false (.step 10 false .fin))))))))))), flags := [8, 9], held := true, init := true })] [0, 2, 3, 4, 5, 6, 9, 13, 14, 15, 16, 28] (bodyOf Try.f20) Try.f20.results.toList [a0] K w := by kernel_rfl
theorem F20_link {a0 : Value} {K : Value → World → Prop} {w : World} (h : F20 Try.prog a0 K w) : S.call Try.prog 20 [a0] K w :=
  calls_of_den entOk mixOk Try.func20 rfl F20_chk (Eq.mp (F20_eq a0 K w) h)
/-- (*lanyard/histlist.List).At -/
def F21 (P : Program) (a0 a1 : Value) (K : Value → World → Prop) (w : World) : Prop :=
  S.v P (Instr.alloc 36 true (.tuple #[])) (fun t4 w => S.v P (S.bin Go.BinOp.lss 3 (Go.Operand.tmp 6) (Go.Operand.const (Go.Value.int Go.IntKind.i64 0)) a1
    (Go.Value.int Go.IntKind.i64 0)) (fun t7 w => br t7 (S.v P (Instr.build 36 #[]) (fun t14 w => S.u P (Instr.storeAt 36 t4 t14) (fun w => S.p P (S.ldR 36 t4)
    (fun r4 w => K (.tuple #[r4, (Go.Value.bool false)]) w) w) w) w) (S.call P 12 [a0] (fun t11 w => S.v P (S.bin Go.BinOp.geq 3 (Go.Operand.tmp 9)
    (Go.Operand.tmp 11) a1 t11) (fun t12 w => br t12 (S.v P (Instr.build 36 #[]) (fun t14_1 w => S.u P (Instr.storeAt 36 t4 t14_1) (fun w => S.p P (S.ldR 36
    t4) (fun r4_1 w => K (.tuple #[r4_1, (Go.Value.bool false)]) w) w) w) w) (S.v P (S.nilC a0) (fun t16 w => S.v P (Instr.fieldAt 87 t16 0) (fun t17 w => S.v
    P (Instr.fieldAt 85 t17 0) (fun t18 w => S.v P (Instr.loadAt 28 t18) (fun t19 w => S.v P (Instr.indexAt 28 t19 a1) (fun t21 w => S.v P (Instr.loadAt 36
    t21) (fun t22 w => S.u P (Instr.storeAt 36 t4 t22) (fun w => S.p P (S.ldR 36 t4) (fun r4_2 w => K (.tuple #[r4_2, (Go.Value.bool true)]) w) w) w) w) w) w)
    w) w) w)) w) w)) w) w
theorem F21_chk : chkFn Try.f21 (bodyOf Try.f21) [0, 1, 4, 5, 13] [] 2 = true := by kernel_rfl
theorem F21_eq (a0 a1 : Value) (K : Value → World → Prop) (w : World) : F21 Try.prog a0 a1 K w = denFn Try.prog (has ents) [] [0, 1, 4, 5, 13] (bodyOf Try.f21) Try.f21.results.toList [a0, a1] K w := by kernel_rfl
theorem F21_link {a0 a1 : Value} {K : Value → World → Prop} {w : World} (h : F21 Try.prog a0 a1 K w) : S.call Try.prog 21 [a0, a1] K w :=
  calls_of_den entOk mixOk Try.func21 rfl F21_chk (Eq.mp (F21_eq a0 a1 K w) h)
/-- lanyard/lanyardref10.From -/
def F22 (P : Program) (a0 a1 : Value) (K : Value → World → Prop) (w : World) : Prop :=
  S.call P 33 [a0] (fun t11 w => S.v P (Instr.extract t11 0) (fun t12 w => S.v P (Instr.extract t11 1) (fun t13 w => S.v P (S.bin Go.BinOp.neq 24 (Go.Operand.tmp
    14) (Go.Operand.const (Go.Value.int Go.IntKind.i64 0)) t13 (Go.Value.int Go.IntKind.i64 0)) (fun t15 w => br t15 (K (.tuple #[(Go.Value.pointer none),
    t13]) w) (S.call P 50 [t12, a1] (fun t19 w => S.v P (S.bin Go.BinOp.neq 24 (Go.Operand.tmp 20) (Go.Operand.const (Go.Value.int Go.IntKind.i64 0)) t19
    (Go.Value.int Go.IntKind.i64 0)) (fun t21 w => br t21 (K (.tuple #[(Go.Value.pointer none), t19]) w) (K (.tuple #[t12, (Go.Value.int Go.IntKind.i64 0)])
    w)) w) w)) w) w) w) w
theorem F22_chk : chkFn Try.f22 (bodyOf Try.f22) [0, 1, 4, 5, 6, 7, 8, 15, 21] [] 2 = true := by kernel_rfl
theorem F22_eq (a0 a1 : Value) (K : Value → World → Prop) (w : World) : F22 Try.prog a0 a1 K w = denFn Try.prog (has ents) [] [0, 1, 4, 5, 6, 7, 8, 15, 21] (bodyOf Try.f22) Try.f22.results.toList [a0, a1] K w := by kernel_rfl
theorem F22_link {a0 a1 : Value} {K : Value → World → Prop} {w : World} (h : F22 Try.prog a0 a1 K w) : S.call Try.prog 22 [a0, a1] K w :=
  calls_of_den entOk mixOk Try.func22 rfl F22_chk (Eq.mp (F22_eq a0 a1 K w) h)
/-- lanyard/lanyardref10.NewWalk -/
def F23 (P : Program) (a0 : Value) (K : Value → World → Prop) (w : World) : Prop :=
  S.v P (S.nilC a0) (fun t6 w => S.v P (Instr.fieldAt 81 t6 0) (fun t7 w => S.v P (Instr.loadAt 28 t7) (fun t8 w => S.v P (Builtin.len_ #[28] 3 #[t8]) (fun t9 w
    => S.v P (Instr.build 64 #[(2, t9)]) (fun t10 w => S.v P (Instr.box 64 t10) (fun t11 w => S.loop (fun I => ∀ (x4 : Value) (x18 : Value) (w : World), (S.v P
    (S.nilC a0) (fun t14 w => S.v P (Instr.fieldAt 81 t14 0) (fun t15 w => S.v P (Instr.loadAt 28 t15) (fun t16 w => S.v P (Builtin.len_ #[28] 3 #[t16]) (fun
    t17 w => S.v P (S.bin Go.BinOp.lss 3 (Go.Operand.tmp 12) (Go.Operand.tmp 17) x4 t17) (fun t18 w => br t18 (S.drawn (fun w => ∃ H : World → Prop, H w ∧ (S.h
    P H (S.nilC t11) (fun t23 w => S.h P H (Instr.fieldAt 64 t23 0) (fun t24 w => S.h P H (Instr.loadAt 62 t24) (fun t25 w => S.h P H (S.nilC a0) (fun t27 w =>
    S.h P H (Instr.fieldAt 81 t27 0) (fun t28 w => S.h P H (Instr.loadAt 28 t28) (fun t29 w => S.h P H (Instr.indexAt 28 t29 x4) (fun t31 w => S.h P H
    (Instr.fieldAt 36 t31 0) (fun t32 w => S.h P H (Instr.loadAt 9 t32) (fun t33 w => S.v P (Instr.buildSlice 62 1 #[(0, t33)]) (fun t34 w => H w ∧ (S.v P
    (Builtin.append_ #[62, 62] 62 #[t25, t34]) (fun t35 w => H w ∧ (S.v P (S.nilC t11) (fun t36 w => S.v P (Instr.fieldAt 64 t36 0) (fun t37 w => S.u P
    (Instr.storeAt 62 t37 t35) (fun w => S.v P (S.bin Go.BinOp.add 3 (Go.Operand.tmp 19) (Go.Operand.const (Go.Value.int Go.IntKind.i64 1)) x4 (Go.Value.int
    Go.IntKind.i64 1)) (fun t20 w => I [t20, t18] w) w) w) w) w)) w)) w) w) w) w) w) w) w) w) w) w)) w) (S.v P (S.nilC t11) (fun t40 w => S.v P (Instr.fieldAt
    64 t40 0) (fun t41 w => S.v P (Instr.loadAt 62 t41) (fun t42 w => S.v P (Instr.buildSlice 62 1 #[(0, (Go.Value.string { data := #[] }))]) (fun t43 w => S.v
    P (Builtin.append_ #[62, 62] 62 #[t42, t43]) (fun t44 w => S.v P (S.nilC t11) (fun t45 w => S.v P (Instr.fieldAt 64 t45 0) (fun t46 w => S.u P
    (Instr.storeAt 62 t46 t44) (fun w => S.v P (S.nilC t11) (fun t49 w => S.v P (Instr.fieldAt 64 t49 0) (fun t50 w => S.v P (Instr.loadAt 62 t50) (fun t51 w
    => S.v P (Builtin.append_ #[62, 62] 62 #[(Go.Value.slice none 0 0), t51]) (fun t52 w => S.v P (S.nilC t11) (fun t53 w => S.v P (Instr.fieldAt 64 t53 1)
    (fun t54 w => S.u P (Instr.storeAt 62 t54 t52) (fun w => K t11 w) w) w) w) w) w) w) w) w) w) w) w) w) w) w) w)) w) w) w) w) w) → I [x4, x18] w)
    [(Go.Value.int Go.IntKind.i64 0), undef] w) w) w) w) w) w) w
theorem F23_chk : chkFn Try.f23 (bodyOf Try.f23) [0, 2, 3, 4, 18] [(5, { ord := (.step 0 true (.step 1 true (.step 2 true (.step 3 true (.step 4 true (.step 5 true (.step 6 true (.step 7 true (.step 8 true (.step 9 true (.step 10 true (.step 11 true (.step 12 true (.step 13 false (.step 14 false (.step 15 false (.step 16 false (.step 17 false .fin)))))))))))))))))), flags := [13, 14], held := true, init := true })] 1 = true := by kernel_rfl
theorem F23_eq (a0 : Value) (K : Value → World → Prop) (w : World) : F23 Try.prog a0 K w = denFn Try.prog (has ents) [(5, { ord := (.step 0 true (.step 1 true (.step 2 true (.step 3 true (.step 4 true (.step 5 true (.step 6 true (.step 7 true (.step 8 true (.step 9 true (.step 10 true (.step 11 true (.step 12 true (.step 13 false (.step 14 false (.step 15 false (.step 16 false (.step 17 false .fin)))))))))))))))))), flags := [13, 14], held := true, init := true })] [0, 2, 3, 4, 18] (bodyOf Try.f23) Try.f23.results.toList [a0] K w := by kernel_rfl
theorem F23_link {a0 : Value} {K : Value → World → Prop} {w : World} (h : F23 Try.prog a0 K w) : S.call Try.prog 23 [a0] K w :=
  calls_of_den entOk mixOk Try.func23 rfl F23_chk (Eq.mp (F23_eq a0 K w) h)
/-- (*lanyard/lanyardref10.Walk).To -/
def F24 (P : Program) (a0 a1 a2 : Value) (K : Value → World → Prop) (w : World) : Prop :=
  S.v P (S.bin Go.BinOp.lss 3 (Go.Operand.tmp 8) (Go.Operand.const (Go.Value.int Go.IntKind.i64 0)) a1 (Go.Value.int Go.IntKind.i64 0)) (fun t9 w => br t9 (K
    (.tuple #[(Go.Value.string { data := #[] }), (Go.Value.int Go.IntKind.i64 6)]) w) (S.v P (S.nilC a0) (fun t13 w => S.v P (Instr.fieldAt 64 t13 1) (fun t14
    w => S.v P (Instr.loadAt 62 t14) (fun t15 w => S.v P (Builtin.len_ #[62] 3 #[t15]) (fun t16 w => S.v P (S.bin Go.BinOp.geq 3 (Go.Operand.tmp 11)
    (Go.Operand.tmp 16) a1 t16) (fun t17 w => br t17 (K (.tuple #[(Go.Value.string { data := #[] }), (Go.Value.int Go.IntKind.i64 6)]) w) (S.v P (Builtin.len_
    #[9] 3 #[a2]) (fun t20 w => S.v P (S.bin Go.BinOp.gtr 3 (Go.Operand.tmp 20) (Go.Operand.const (Go.Value.int Go.IntKind.i64 16384)) t20 (Go.Value.int
    Go.IntKind.i64 16384)) (fun t21 w => br t21 (K (.tuple #[(Go.Value.string { data := #[] }), (Go.Value.int Go.IntKind.i64 3)]) w) (S.drawn (fun w => S.p P
    (S.nilC a0) (fun t23 w => S.p P (Instr.fieldAt 64 t23 1) (fun t24 w => S.p P (Instr.loadAt 62 t24) (fun t25 w => S.p P (S.nilC a0) (fun t27 w => S.p P
    (Instr.fieldAt 64 t27 2) (fun t28 w => S.p P (Instr.loadAt 3 t28) (fun t29 w => S.p P (Instr.indexAt 62 t25 t29) (fun t31 w => S.u P (Instr.storeAt 9 t31
    a2) (fun w => S.v P (S.nilC a0) (fun t34 w => S.v P (Instr.fieldAt 64 t34 2) (fun t35 w => S.u P (Instr.storeAt 3 t35 a1) (fun w => S.v P (S.nilC a0) (fun
    t37 w => S.v P (Instr.fieldAt 64 t37 1) (fun t38 w => S.v P (Instr.loadAt 62 t38) (fun t39 w => S.v P (Instr.indexAt 62 t39 a1) (fun t41 w => S.v P
    (Instr.loadAt 9 t41) (fun t42 w => K (.tuple #[t42, (Go.Value.int Go.IntKind.i64 0)]) w) w) w) w) w) w) w) w) w) w) w) w) w) w) w) w) w) w)) w) w)) w) w)
    w) w) w)) w
theorem F24_chk : chkFn Try.f24 (bodyOf Try.f24) [0, 1, 2, 6, 7, 18, 21] [(5, { ord := (.step 0 true (.step 1 true (.step 2 true (.step 3 true (.step 4 true (.step 5 true (.step 6 true (.step 7 true (.step 8 true (.step 9 true (.step 10 false .fin))))))))))), flags := [], held := false, init := true })] 3 = true := by kernel_rfl
theorem F24_eq (a0 a1 a2 : Value) (K : Value → World → Prop) (w : World) : F24 Try.prog a0 a1 a2 K w = denFn Try.prog (has ents) [(5, { ord := (.step 0 true (.step 1 true (.step 2 true (.step 3 true (.step 4 true (.step 5 true (.step 6 true (.step 7 true (.step 8 true (.step 9 true (.step 10 false .fin))))))))))), flags := [], held := false, init := true })] [0, 1, 2, 6, 7, 18, 21] (bodyOf Try.f24) Try.f24.results.toList [a0, a1, a2] K w := by kernel_rfl
theorem F24_link {a0 a1 a2 : Value} {K : Value → World → Prop} {w : World} (h : F24 Try.prog a0 a1 a2 K w) : S.call Try.prog 24 [a0, a1, a2] K w :=
  calls_of_den entOk mixOk Try.func24 rfl F24_chk (Eq.mp (F24_eq a0 a1 a2 K w) h)
/-- (*lanyard/histlist.Walk).Here -/
def F25 (P : Program) (a0 a1 : Value) (K : Value → World → Prop) (w : World) : Prop :=
  S.call P 48 [a0] (fun t7 w => br t7 (K (.tuple #[(Go.Value.string { data := #[] }), (Go.Value.bool false)]) w) (S.v P (S.bin Go.BinOp.lss 3 (Go.Operand.tmp 9)
    (Go.Operand.const (Go.Value.int Go.IntKind.i64 0)) a1 (Go.Value.int Go.IntKind.i64 0)) (fun t10 w => br t10 (K (.tuple #[(Go.Value.string { data := #[] }),
    (Go.Value.bool false)]) w) (S.v P (S.nilC a0) (fun t15 w => S.v P (Instr.fieldAt 96 t15 1) (fun t16 w => S.v P (Instr.loadAt 62 t16) (fun t17 w => S.v P
    (Builtin.len_ #[62] 3 #[t17]) (fun t18 w => S.v P (S.bin Go.BinOp.geq 3 (Go.Operand.tmp 13) (Go.Operand.tmp 18) a1 t18) (fun t19 w => br t19 (K (.tuple
    #[(Go.Value.string { data := #[] }), (Go.Value.bool false)]) w) (S.v P (S.nilC a0) (fun t22 w => S.v P (Instr.fieldAt 96 t22 1) (fun t23 w => S.v P
    (Instr.loadAt 62 t23) (fun t24 w => S.v P (Instr.indexAt 62 t24 a1) (fun t26 w => S.v P (Instr.loadAt 9 t26) (fun t27 w => K (.tuple #[t27, (Go.Value.bool
    true)]) w) w) w) w) w) w)) w) w) w) w) w)) w)) w
theorem F25_chk : chkFn Try.f25 (bodyOf Try.f25) [0, 1, 4, 5, 20] [] 2 = true := by kernel_rfl
theorem F25_eq (a0 a1 : Value) (K : Value → World → Prop) (w : World) : F25 Try.prog a0 a1 K w = denFn Try.prog (has ents) [] [0, 1, 4, 5, 20] (bodyOf Try.f25) Try.f25.results.toList [a0, a1] K w := by kernel_rfl
theorem F25_link {a0 a1 : Value} {K : Value → World → Prop} {w : World} (h : F25 Try.prog a0 a1 K w) : S.call Try.prog 25 [a0, a1] K w :=
  calls_of_den entOk mixOk Try.func25 rfl F25_chk (Eq.mp (F25_eq a0 a1 K w) h)
/-- (*lanyard/lanyardref10.Walk).Here -/
def F26 (P : Program) (a0 a1 : Value) (K : Value → World → Prop) (w : World) : Prop :=
  S.v P (S.bin Go.BinOp.lss 3 (Go.Operand.tmp 6) (Go.Operand.const (Go.Value.int Go.IntKind.i64 0)) a1 (Go.Value.int Go.IntKind.i64 0)) (fun t7 w => br t7 (K
    (.tuple #[(Go.Value.string { data := #[] }), (Go.Value.bool false)]) w) (S.v P (S.nilC a0) (fun t11 w => S.v P (Instr.fieldAt 64 t11 1) (fun t12 w => S.v P
    (Instr.loadAt 62 t12) (fun t13 w => S.v P (Builtin.len_ #[62] 3 #[t13]) (fun t14 w => S.v P (S.bin Go.BinOp.geq 3 (Go.Operand.tmp 9) (Go.Operand.tmp 14) a1
    t14) (fun t15 w => br t15 (K (.tuple #[(Go.Value.string { data := #[] }), (Go.Value.bool false)]) w) (S.v P (S.nilC a0) (fun t18 w => S.v P (Instr.fieldAt
    64 t18 1) (fun t19 w => S.v P (Instr.loadAt 62 t19) (fun t20 w => S.v P (Instr.indexAt 62 t20 a1) (fun t22 w => S.v P (Instr.loadAt 9 t22) (fun t23 w => K
    (.tuple #[t23, (Go.Value.bool true)]) w) w) w) w) w) w)) w) w) w) w) w)) w
theorem F26_chk : chkFn Try.f26 (bodyOf Try.f26) [0, 1, 4, 5, 16] [] 2 = true := by kernel_rfl
theorem F26_eq (a0 a1 : Value) (K : Value → World → Prop) (w : World) : F26 Try.prog a0 a1 K w = denFn Try.prog (has ents) [] [0, 1, 4, 5, 16] (bodyOf Try.f26) Try.f26.results.toList [a0, a1] K w := by kernel_rfl
theorem F26_link {a0 a1 : Value} {K : Value → World → Prop} {w : World} (h : F26 Try.prog a0 a1 K w) : S.call Try.prog 26 [a0, a1] K w :=
  calls_of_den entOk mixOk Try.func26 rfl F26_chk (Eq.mp (F26_eq a0 a1 K w) h)
/-- lanyard/lanyardlaw10.changed -/
def F27 (P : Program) (a0 a1 : Value) (K : Value → World → Prop) (w : World) : Prop :=
  S.v P (Instr.box 66 a1) (fun t3 w => S.v P (Instr.alloc 4 true (.tuple #[])) (fun t4 w => S.call P 20 [a0] (fun t10 w => S.loop (fun I => ∀ (x1000000 : Value)
    (x6 : Value) (x11 : Value) (x12 : Value) (x13 : Value) (x43 : Value) (w : World), (S.v P (S.bin Go.BinOp.lss 3 (Go.Operand.tmp 11) (Go.Operand.const
    (Go.Value.int Go.IntKind.i64 2)) x11 (Go.Value.int Go.IntKind.i64 2)) (fun t12 w => br t12 (S.v P (Instr.alloc 3 true (.tuple #[])) (fun t6 w => S.u P
    (Instr.storeAt 3 t6 (Go.Value.int Go.IntKind.i64 0)) (fun w => S.rng P t10 2 (fun bg dn ax w => bg (fun w => S.v P (Instr.loadAt 3 t6) (fun t16 w => S.v P
    (Instr.loadAt 66 t3) (fun t17 w => S.v P (Builtin.len_ #[66] 3 #[t17]) (fun t18 w => S.v P (S.bin Go.BinOp.geq 3 (Go.Operand.tmp 16) (Go.Operand.tmp 18)
    t16 t18) (fun t19 w => br t19 (S.u P (Instr.storeAt 4 t4 (Go.Value.bool false)) (fun w => dn (some Go.Code.ret) w) w) (S.v P (Instr.loadAt 66 t3) (fun t22
    w => S.v P (Instr.loadAt 3 t6) (fun t23 w => S.v P (Instr.indexAt 66 t22 t23) (fun t24 w => S.v P (Instr.fieldAt 106 t24 0) (fun t25 w => S.v P
    (Instr.loadAt 3 t25) (fun t26 w => S.v P (S.bin Go.BinOp.neq 3 (Go.Operand.tmp 21) (Go.Operand.tmp 26) (nth ax 0) t26) (fun t27 w => br t27 (S.u P
    (Instr.storeAt 4 t4 (Go.Value.bool false)) (fun w => dn (some Go.Code.ret) w) w) (S.v P (Instr.loadAt 66 t3) (fun t31 w => S.v P (Instr.loadAt 3 t6) (fun
    t32 w => S.v P (Instr.indexAt 66 t31 t32) (fun t33 w => S.v P (Instr.fieldAt 106 t33 1) (fun t34 w => S.v P (Instr.loadAt 9 t34) (fun t35 w => S.v P (S.bin
    Go.BinOp.neq 9 (Go.Operand.tmp 30) (Go.Operand.tmp 35) (nth ax 1) t35) (fun t36 w => br t36 (S.u P (Instr.storeAt 4 t4 (Go.Value.bool false)) (fun w => dn
    (some Go.Code.ret) w) w) (S.v P (Instr.loadAt 3 t6) (fun t38 w => S.v P (S.bin Go.BinOp.add 3 (Go.Operand.tmp 38) (Go.Operand.const (Go.Value.int
    Go.IntKind.i64 1)) t38 (Go.Value.int Go.IntKind.i64 1)) (fun t39 w => S.u P (Instr.storeAt 3 t6 t39) (fun w => dn none w) w) w) w)) w) w) w) w) w) w)) w)
    w) w) w) w) w)) w) w) w) w) w) (fun b w => S.v P (Instr.loadAt 3 t6) (fun t40 w => S.v P (Instr.loadAt 66 t3) (fun t41 w => S.v P (Builtin.len_ #[66] 3
    #[t41]) (fun t42 w => S.v P (S.bin Go.BinOp.neq 3 (Go.Operand.tmp 40) (Go.Operand.tmp 42) t40 t42) (fun t43 w => br t43 (S.u P (Instr.storeAt 4 t4
    (Go.Value.bool false)) (fun w => S.closes (marksOf (addMark b x1000000)) (fun w => S.p P (S.ldR 4 t4) (fun r4 w => K r4 w) w) w) w) (S.v P (S.bin
    Go.BinOp.add 3 (Go.Operand.tmp 11) (Go.Operand.const (Go.Value.int Go.IntKind.i64 1)) x11 (Go.Value.int Go.IntKind.i64 1)) (fun t44 w => I [(addMark b
    x1000000), t6, t44, t12, t10, t43] w) w)) w) w) w) w) (fun b_1 w => S.closes (marksOf (addMark b_1 x1000000)) (fun w => S.p P (S.ldR 4 t4) (fun r4_1 w => K
    r4_1 w) w) w) w) w) w) (S.u P (Instr.storeAt 4 t4 (Go.Value.bool true)) (fun w => S.closes (marksOf x1000000) (fun w => S.p P (S.ldR 4 t4) (fun r4_2 w => K
    r4_2 w) w) w) w)) w) → I [x1000000, x6, x11, x12, x13, x43] w) [undef, undef, (Go.Value.int Go.IntKind.i64 0), undef, undef, undef] w) w) w) w
theorem F27_chk : chkFn Try.f27 (bodyOf Try.f27) [0, 1, 3, 4, 5, 6, 7, 8, 11, 12, 13, 14, 15, 37, 43] [] 2 = true := by kernel_rfl
theorem F27_eq (a0 a1 : Value) (K : Value → World → Prop) (w : World) : F27 Try.prog a0 a1 K w = denFn Try.prog (has ents) [] [0, 1, 3, 4, 5, 6, 7, 8, 11, 12, 13, 14, 15, 37, 43] (bodyOf Try.f27) Try.f27.results.toList [a0, a1] K w := by kernel_rfl
theorem F27_link {a0 a1 : Value} {K : Value → World → Prop} {w : World} (h : F27 Try.prog a0 a1 K w) : S.call Try.prog 27 [a0, a1] K w :=
  calls_of_den entOk mixOk Try.func27 rfl F27_chk (Eq.mp (F27_eq a0 a1 K w) h)
/-- (*lanyard/lanyardref10.Walk).Changed -/
def F28 (P : Program) (a0 : Value) (K : Value → World → Prop) (w : World) : Prop :=
  S.loop (fun I => ∀ (x3 : Value) (x4 : Value) (x12 : Value) (x29 : Value) (w : World), (S.v P (S.bin Go.BinOp.add 3 (Go.Operand.tmp 5) (Go.Operand.const
    (Go.Value.int Go.IntKind.i64 1)) x4 (Go.Value.int Go.IntKind.i64 1)) (fun t6 w => S.v P (S.nilC a0) (fun t8 w => S.v P (Instr.fieldAt 64 t8 1) (fun t9 w =>
    S.v P (Instr.loadAt 62 t9) (fun t10 w => S.v P (Builtin.len_ #[62] 3 #[t10]) (fun t11 w => S.v P (S.bin Go.BinOp.lss 3 (Go.Operand.tmp 6) (Go.Operand.tmp
    11) t6 t11) (fun t12 w => br t12 (S.seq (fun vs w => S.v P (S.bin Go.BinOp.add 3 (Go.Operand.tmp 13) (Go.Operand.const (Go.Value.int Go.IntKind.i64 1)) x4
    (Go.Value.int Go.IntKind.i64 1)) (fun t14 w => I [(nth vs 0), t14, t12, (nth vs 1)] w) w) (fun J => S.drawn (fun w => S.p P (S.nilC a0) (fun t16 w => S.p P
    (Instr.fieldAt 64 t16 1) (fun t17 w => S.p P (Instr.loadAt 62 t17) (fun t18 w => S.p P (Instr.indexAt 62 t18 x4) (fun t20 w => S.p P (Instr.loadAt 9 t20)
    (fun t21 w => S.p P (S.nilC a0) (fun t23 w => S.p P (Instr.fieldAt 64 t23 0) (fun t24 w => S.p P (Instr.loadAt 62 t24) (fun t25 w => S.p P (Instr.indexAt
    62 t25 x4) (fun t27 w => S.p P (Instr.loadAt 9 t27) (fun t28 w => S.p P (S.bin Go.BinOp.neq 9 (Go.Operand.tmp 21) (Go.Operand.tmp 28) t21 t28) (fun t29 w
    => br t29 (S.v P (S.nilC a0) (fun t33 w => S.v P (Instr.fieldAt 64 t33 1) (fun t34 w => S.v P (Instr.loadAt 62 t34) (fun t35 w => S.v P (Instr.indexAt 62
    t35 x4) (fun t37 w => S.v P (Instr.loadAt 9 t37) (fun t38 w => S.v P (Instr.build 106 #[(0, x4), (1, t38)]) (fun t39 w => S.v P (Instr.buildSlice 66 1
    #[(0, t39)]) (fun t40 w => S.v P (Builtin.append_ #[66, 66] 66 #[x3, t40]) (fun t41 w => J [t41, t29] w) w) w) w) w) w) w) w) w) (J [x3, t29] w)) w) w) w)
    w) w) w) w) w) w) w) w) w)) (K x3 w)) w) w) w) w) w) w) → I [x3, x4, x12, x29] w) [(Go.Value.slice none 0 0), (Go.Value.int Go.IntKind.i64 0), undef,
    undef] w
theorem F28_chk : chkFn Try.f28 (bodyOf Try.f28) [0, 2, 3, 4, 12, 29] [(5, { ord := (.step 0 true (.step 1 true (.step 2 true (.step 3 true (.step 4 true (.step 5 true (.step 6 true (.step 7 true (.step 8 true (.step 9 true (.step 10 true (.step 11 true (.step 12 true (.step 13 true (.step 14 true .fin))))))))))))))), flags := [], held := false, init := true })] 1 = true := by kernel_rfl
theorem F28_eq (a0 : Value) (K : Value → World → Prop) (w : World) : F28 Try.prog a0 K w = denFn Try.prog (has ents) [(5, { ord := (.step 0 true (.step 1 true (.step 2 true (.step 3 true (.step 4 true (.step 5 true (.step 6 true (.step 7 true (.step 8 true (.step 9 true (.step 10 true (.step 11 true (.step 12 true (.step 13 true (.step 14 true .fin))))))))))))))), flags := [], held := false, init := true })] [0, 2, 3, 4, 12, 29] (bodyOf Try.f28) Try.f28.results.toList [a0] K w := by kernel_rfl
theorem F28_link {a0 : Value} {K : Value → World → Prop} {w : World} (h : F28 Try.prog a0 K w) : S.call Try.prog 28 [a0] K w :=
  calls_of_den entOk mixOk Try.func28 rfl F28_chk (Eq.mp (F28_eq a0 K w) h)
/-- lanyard/lanyardlaw10.HistFinds$1 -/
def F29 (P : Program) (a0 a1 a2 a3 : Value) (K : Value → World → Prop) (w : World) : Prop :=
  S.v P (Instr.loadAt 23 a1) (fun t9 w => S.call P 21 [t9, a0] (fun t11 w => S.v P (Instr.extract t11 0) (fun t12 w => S.v P (Instr.extract t11 1) (fun t13 w =>
    S.v P (Instr.alloc 36 true (.tuple #[])) (fun t6 w => S.u P (Instr.storeAt 36 t6 t12) (fun w => br t13 (S.v P (Instr.loadAt 4 a2) (fun t16 w => br t16 (S.v
    P (Instr.fieldAt 36 t6 0) (fun t18 w => S.v P (Instr.loadAt 9 t18) (fun t19 w => S.v P (Instr.loadAt 9 a3) (fun t20 w => S.call P 30 [t19, t20] (fun t21 w
    => br t21 (K (Go.Value.bool true) w) (S.v P (Instr.loadAt 4 a2) (fun t24 w => S.v P (Op.unary Go.UnOp.not t24) (fun t25 w => br t25 (S.v P (Instr.fieldAt
    36 t6 0) (fun t27 w => S.v P (Instr.loadAt 9 t27) (fun t28 w => S.v P (Instr.loadAt 9 a3) (fun t29 w => S.call P 31 [t28, t29] (fun t30 w => K t30 w) w) w)
    w) w) (K (Go.Value.bool false) w)) w) w)) w) w) w) w) (S.v P (Instr.loadAt 4 a2) (fun t24_1 w => S.v P (Op.unary Go.UnOp.not t24_1) (fun t25_1 w => br
    t25_1 (S.v P (Instr.fieldAt 36 t6 0) (fun t27_1 w => S.v P (Instr.loadAt 9 t27_1) (fun t28_1 w => S.v P (Instr.loadAt 9 a3) (fun t29_1 w => S.call P 31
    [t28_1, t29_1] (fun t30_1 w => K t30_1 w) w) w) w) w) (K (Go.Value.bool false) w)) w) w)) w) (K (Go.Value.bool false) w)) w) w) w) w) w) w
theorem F29_chk : chkFn Try.f29 (bodyOf Try.f29) [0, 1, 2, 3, 5, 6, 7] [] 4 = true := by kernel_rfl
theorem F29_eq (a0 a1 a2 a3 : Value) (K : Value → World → Prop) (w : World) : F29 Try.prog a0 a1 a2 a3 K w = denFn Try.prog (has ents) [] [0, 1, 2, 3, 5, 6, 7] (bodyOf Try.f29) Try.f29.results.toList [a0, a1, a2, a3] K w := by kernel_rfl
theorem F29_link {a0 a1 a2 a3 : Value} {K : Value → World → Prop} {w : World} (h : F29 Try.prog a0 a1 a2 a3 K w) : S.call Try.prog 29 [a0, a1, a2, a3] K w :=
  calls_of_den entOk mixOk Try.func29 rfl F29_chk (Eq.mp (F29_eq a0 a1 a2 a3 K w) h)
/-- strings.HasPrefix -/
def F30 (P : Program) (a0 a1 : Value) (K : Value → World → Prop) (w : World) : Prop :=
  S.call P 51 [a0, a1] (fun t7 w => K t7 w) w
theorem F30_chk : chkFn Try.f30 (bodyOf Try.f30) [0, 1, 4] [] 2 = true := by kernel_rfl
theorem F30_eq (a0 a1 : Value) (K : Value → World → Prop) (w : World) : F30 Try.prog a0 a1 K w = denFn Try.prog (has ents) [] [0, 1, 4] (bodyOf Try.f30) Try.f30.results.toList [a0, a1] K w := by kernel_rfl
theorem F30_link {a0 a1 : Value} {K : Value → World → Prop} {w : World} (h : F30 Try.prog a0 a1 K w) : S.call Try.prog 30 [a0, a1] K w :=
  calls_of_den entOk mixOk Try.func30 rfl F30_chk (Eq.mp (F30_eq a0 a1 K w) h)
/-- strings.Contains -/
def F31 (P : Program) (a0 a1 : Value) (K : Value → World → Prop) (w : World) : Prop :=
  S.call P 52 [a0, a1] (fun t7 w => S.v P (S.bin Go.BinOp.geq 3 (Go.Operand.tmp 7) (Go.Operand.const (Go.Value.int Go.IntKind.i64 0)) t7 (Go.Value.int
    Go.IntKind.i64 0)) (fun t8 w => K t8 w) w) w
theorem F31_chk : chkFn Try.f31 (bodyOf Try.f31) [0, 1, 4] [] 2 = true := by kernel_rfl
theorem F31_eq (a0 a1 : Value) (K : Value → World → Prop) (w : World) : F31 Try.prog a0 a1 K w = denFn Try.prog (has ents) [] [0, 1, 4] (bodyOf Try.f31) Try.f31.results.toList [a0, a1] K w := by kernel_rfl
theorem F31_link {a0 a1 : Value} {K : Value → World → Prop} {w : World} (h : F31 Try.prog a0 a1 K w) : S.call Try.prog 31 [a0, a1] K w :=
  calls_of_den entOk mixOk Try.func31 rfl F31_chk (Eq.mp (F31_eq a0 a1 K w) h)
/-- (*lanyard/histlist.List).Search -/
def F32 (P : Program) (a0 a1 a2 a3 a4 : Value) (K : Value → World → Prop) (w : World) : Prop :=
  S.call P 12 [a0] (fun t18 w => S.seq (fun vs w => S.loop (fun I => ∀ (x10 : Value) (x11 : Value) (x12 : Value) (x15 : Value) (x16 : Value) (x33 : Value) (x51 :
    Value) (w : World), (S.v P (S.bin Go.BinOp.geq 3 (Go.Operand.tmp 27) (Go.Operand.const (Go.Value.int Go.IntKind.i64 0)) x15 (Go.Value.int Go.IntKind.i64
    0)) (fun t28 w => br t28 (S.v P (S.bin Go.BinOp.lss 3 (Go.Operand.tmp 30) (Go.Operand.tmp 31) x15 t18) (fun t32 w => br t32 (S.v P (S.nilC a0) (fun t38 w
    => S.v P (Instr.fieldAt 87 t38 0) (fun t39 w => S.v P (Instr.fieldAt 85 t39 0) (fun t40 w => S.v P (Instr.loadAt 28 t40) (fun t41 w => S.v P (Instr.indexAt
    28 t41 x15) (fun t43 w => S.v P (Instr.fieldAt 36 t43 0) (fun t44 w => S.v P (Instr.loadAt 9 t44) (fun t45 w => S.call P 53 [t45, a2, a3, a4] (fun t49 w =>
    S.v P (S.bin Go.BinOp.geq 3 (Go.Operand.tmp 50) (Go.Operand.const (Go.Value.int Go.IntKind.i64 0)) t49 (Go.Value.int Go.IntKind.i64 0)) (fun t51 w => br
    t51 (K (.tuple #[x15, t49, (Go.Value.bool true)]) w) (S.v P (S.bin Go.BinOp.add 3 (Go.Operand.tmp 34) (Go.Operand.tmp 35) x15 (nth vs 1)) (fun t36 w => I
    [x10, x11, x12, t36, t49, t32, t51] w) w)) w) w) w) w) w) w) w) w) w) (K (.tuple #[(Go.Value.int Go.IntKind.i64 0), (Go.Value.int Go.IntKind.i64 0),
    (Go.Value.bool false)]) w)) w) (K (.tuple #[(Go.Value.int Go.IntKind.i64 0), (Go.Value.int Go.IntKind.i64 0), (Go.Value.bool false)]) w)) w) → I [x10, x11,
    x12, x15, x16, x33, x51] w) [(Go.Value.int Go.IntKind.i64 0), (Go.Value.int Go.IntKind.i64 0), (Go.Value.bool false), (nth vs 0), undef, undef, undef] w)
    (fun J => br a3 (S.v P (S.bin Go.BinOp.sub 3 (Go.Operand.tmp 21) (Go.Operand.const (Go.Value.int Go.IntKind.i64 1)) t18 (Go.Value.int Go.IntKind.i64 1))
    (fun t22 w => S.v P (Builtin.min_ #[3, 3] 3 #[a1, t22]) (fun t23 w => J [t23, (Go.Value.int Go.IntKind.i64 (-1)), a3] w) w) w) (S.v P (Builtin.max_ #[3, 3]
    3 #[a1, (Go.Value.int Go.IntKind.i64 0)]) (fun t25 w => J [t25, (Go.Value.int Go.IntKind.i64 1), a3] w) w))) w
theorem F32_chk : chkFn Try.f32 (bodyOf Try.f32) [0, 1, 2, 3, 4, 10, 11, 12, 13, 14, 15, 16, 19, 33, 51] [] 5 = true := by kernel_rfl
theorem F32_eq (a0 a1 a2 a3 a4 : Value) (K : Value → World → Prop) (w : World) : F32 Try.prog a0 a1 a2 a3 a4 K w = denFn Try.prog (has ents) [] [0, 1, 2, 3, 4, 10, 11, 12, 13, 14, 15, 16, 19, 33, 51] (bodyOf Try.f32) Try.f32.results.toList [a0, a1, a2, a3, a4] K w := by kernel_rfl
theorem F32_link {a0 a1 a2 a3 a4 : Value} {K : Value → World → Prop} {w : World} (h : F32 Try.prog a0 a1 a2 a3 a4 K w) : S.call Try.prog 32 [a0, a1, a2, a3, a4] K w :=
  calls_of_den entOk mixOk Try.func32 rfl F32_chk (Eq.mp (F32_eq a0 a1 a2 a3 a4 K w) h)
/-- lanyard/lanyardref10.New -/
def F33 (P : Program) (a0 : Value) (K : Value → World → Prop) (w : World) : Prop :=
  S.v P (S.bin Go.BinOp.lss 3 (Go.Operand.tmp 4) (Go.Operand.const (Go.Value.int Go.IntKind.i64 0)) a0 (Go.Value.int Go.IntKind.i64 0)) (fun t5 w => br t5 (K
    (.tuple #[(Go.Value.pointer none), (Go.Value.int Go.IntKind.i64 1)]) w) (S.v P (S.bin Go.BinOp.gtr 3 (Go.Operand.tmp 7) (Go.Operand.const (Go.Value.int
    Go.IntKind.i64 4096)) a0 (Go.Value.int Go.IntKind.i64 4096)) (fun t8 w => br t8 (K (.tuple #[(Go.Value.pointer none), (Go.Value.int Go.IntKind.i64 1)]) w)
    (S.v P (Instr.build 81 #[(1, (Go.Value.int Go.IntKind.i64 1)), (2, a0)]) (fun t11 w => S.v P (Instr.box 81 t11) (fun t12 w => K (.tuple #[t12,
    (Go.Value.int Go.IntKind.i64 0)]) w) w) w)) w)) w
theorem F33_chk : chkFn Try.f33 (bodyOf Try.f33) [0, 2, 3, 9] [] 1 = true := by kernel_rfl
theorem F33_eq (a0 : Value) (K : Value → World → Prop) (w : World) : F33 Try.prog a0 K w = denFn Try.prog (has ents) [] [0, 2, 3, 9] (bodyOf Try.f33) Try.f33.results.toList [a0] K w := by kernel_rfl
theorem F33_link {a0 : Value} {K : Value → World → Prop} {w : World} (h : F33 Try.prog a0 K w) : S.call Try.prog 33 [a0] K w :=
  calls_of_den entOk mixOk Try.func33 rfl F33_chk (Eq.mp (F33_eq a0 K w) h)
/-- lanyard/lanyardlaw10.step -/
def F34 (P : Program) (a0 a1 a2 : Value) (K : Value → World → Prop) (w : World) : Prop :=
  S.v P (Instr.box 77 a2) (fun t5 w => S.v P (Instr.fieldAt 77 t5 0) (fun t31 w => S.v P (Instr.loadAt 3 t31) (fun t32 w => S.v P (S.bin Go.BinOp.eql 3
    (Go.Operand.tmp 32) (Go.Operand.const (Go.Value.int Go.IntKind.i64 0)) t32 (Go.Value.int Go.IntKind.i64 0)) (fun t34 w => br t34 (S.drawn (fun w => ∃ H :
    World → Prop, H w ∧ (S.h P H (Instr.fieldAt 77 t5 1) (fun t37 w => S.h P H (Instr.loadAt 28 t37) (fun t38 w => S.h P H (Instr.fieldAt 77 t5 1) (fun t41 w
    => S.h P H (Instr.loadAt 28 t41) (fun t42 w => S.call P 11 [a0, t38] (fun t39 w => H w ∧ (S.call P 50 [a1, t42] (fun t43 w => H w ∧ (S.h P H (S.bin
    Go.BinOp.eql 24 (Go.Operand.tmp 39) (Go.Operand.tmp 43) t39 t43) (fun t44 w => K (.tuple #[a0, t44]) w) w)) w)) w) w) w) w) w)) w) (S.v P (S.bin
    Go.BinOp.eql 3 (Go.Operand.tmp 32) (Go.Operand.const (Go.Value.int Go.IntKind.i64 1)) t32 (Go.Value.int Go.IntKind.i64 1)) (fun t46 w => br t46 (S.drawn
    (fun w => ∃ H_1 : World → Prop, H_1 w ∧ (S.h P H_1 (Instr.fieldAt 77 t5 2) (fun t49 w => S.h P H_1 (Instr.loadAt 3 t49) (fun t50 w => S.h P H_1
    (Instr.fieldAt 77 t5 2) (fun t53 w => S.h P H_1 (Instr.loadAt 3 t53) (fun t54 w => S.call P 39 [a0, t50] (fun t51 w => H_1 w ∧ (S.call P 54 [a1, t54] (fun
    t55 w => H_1 w ∧ (S.h P H_1 (S.bin Go.BinOp.eql 24 (Go.Operand.tmp 51) (Go.Operand.tmp 55) t51 t55) (fun t56 w => K (.tuple #[a0, t56]) w) w)) w)) w) w) w)
    w) w)) w) (S.v P (S.bin Go.BinOp.eql 3 (Go.Operand.tmp 32) (Go.Operand.const (Go.Value.int Go.IntKind.i64 2)) t32 (Go.Value.int Go.IntKind.i64 2)) (fun t58
    w => br t58 (S.v P (Instr.fieldAt 77 t5 2) (fun t61 w => S.v P (Instr.loadAt 3 t61) (fun t62 w => S.call P 21 [a0, t62] (fun t63 w => S.v P (Instr.extract
    t63 0) (fun t64 w => S.v P (Instr.extract t63 1) (fun t65 w => S.v P (Instr.alloc 36 true (.tuple #[])) (fun t8 w => S.u P (Instr.storeAt 36 t8 t64) (fun w
    => S.v P (Instr.fieldAt 77 t5 2) (fun t68 w => S.v P (Instr.loadAt 3 t68) (fun t69 w => S.call P 55 [a1, t69] (fun t70 w => S.v P (Instr.extract t70 0)
    (fun t71 w => S.v P (Instr.extract t70 1) (fun t72 w => S.v P (Instr.alloc 36 true (.tuple #[])) (fun t10 w => S.u P (Instr.storeAt 36 t10 t71) (fun w =>
    S.v P (Instr.fieldAt 77 t5 3) (fun t75 w => S.v P (Instr.loadAt 2 t75) (fun t76 w => S.call P 15 [a0, t76] (fun t77 w => S.v P (Instr.extract t77 0) (fun
    t78 w => S.v P (Instr.extract t77 1) (fun t79 w => S.v P (Instr.alloc 36 true (.tuple #[])) (fun t12 w => S.u P (Instr.storeAt 36 t12 t78) (fun w => S.v P
    (Instr.fieldAt 77 t5 3) (fun t82 w => S.v P (Instr.loadAt 2 t82) (fun t83 w => S.call P 56 [a1, t83] (fun t84 w => S.v P (Instr.extract t84 0) (fun t85 w
    => S.v P (Instr.extract t84 1) (fun t86 w => S.v P (Instr.alloc 36 true (.tuple #[])) (fun t14 w => S.u P (Instr.storeAt 36 t14 t85) (fun w => S.v P
    (Instr.loadAt 36 t8) (fun t88 w => S.v P (Instr.loadAt 36 t10) (fun t89 w => S.v P (S.bin Go.BinOp.eql 36 (Go.Operand.tmp 88) (Go.Operand.tmp 89) t88 t89)
    (fun t90 w => br t90 (S.v P (S.bin Go.BinOp.eql 4 (Go.Operand.tmp 92) (Go.Operand.tmp 93) t65 t72) (fun t94 w => br t94 (S.v P (Instr.loadAt 36 t12) (fun
    t97 w => S.v P (Instr.loadAt 36 t14) (fun t98 w => S.v P (S.bin Go.BinOp.eql 36 (Go.Operand.tmp 97) (Go.Operand.tmp 98) t97 t98) (fun t99 w => br t99 (S.v
    P (S.bin Go.BinOp.eql 4 (Go.Operand.tmp 102) (Go.Operand.tmp 103) t79 t86) (fun t104 w => K (.tuple #[a0, t104]) w) w) (K (.tuple #[a0, (Go.Value.bool
    false)]) w)) w) w) w) (K (.tuple #[a0, (Go.Value.bool false)]) w)) w) (K (.tuple #[a0, (Go.Value.bool false)]) w)) w) w) w) w) w) w) w) w) w) w) w) w) w)
    w) w) w) w) w) w) w) w) w) w) w) w) w) w) w) w) w) w) (S.v P (S.bin Go.BinOp.eql 3 (Go.Operand.tmp 32) (Go.Operand.const (Go.Value.int Go.IntKind.i64 3))
    t32 (Go.Value.int Go.IntKind.i64 3)) (fun t107 w => br t107 (S.seq (fun vs w => S.seq (fun vs_1 w => S.v P (Instr.loadAt 36 (nth vs 0)) (fun t127 w => S.v
    P (Instr.loadAt 36 (nth vs_1 0)) (fun t128 w => S.v P (S.bin Go.BinOp.eql 36 (Go.Operand.tmp 127) (Go.Operand.tmp 128) t127 t128) (fun t129 w => br t129
    (S.v P (S.bin Go.BinOp.eql 24 (Go.Operand.tmp 131) (Go.Operand.tmp 132) (nth vs 1) (nth vs_1 1)) (fun t133 w => K (.tuple #[a0, t133]) w) w) (K (.tuple
    #[a0, (Go.Value.bool false)]) w)) w) w) w) (fun J_1 => S.drawn (fun w => ∃ H_2 : World → Prop, H_2 w ∧ (S.h P H_2 (Instr.fieldAt 77 t5 2) (fun t119 w =>
    S.h P H_2 (Instr.loadAt 3 t119) (fun t120 w => S.h P H_2 (Instr.loadAt 77 t5) (fun t121 w => (S.call P 37 [t121] (fun t122 w => H_2 w ∧ ((S.call P 57 [a1,
    t120, t122] (fun t123 w => H_2 w ∧ (S.h P H_2 (Instr.extract t123 0) (fun t124 w => S.h P H_2 (Instr.extract t123 1) (fun t125 w => S.v P (Instr.alloc 36
    true (.tuple #[])) (fun t18 w => H_2 w ∧ (S.u P (Instr.storeAt 36 t18 t124) (fun w => H_2 w ∧ (J_1 [t18, t125] w)) w)) w) w) w)) w) ∧ (S.v P (Instr.alloc
    36 true (.tuple #[])) (fun t18_1 w => H_2 w ∧ (S.call P 57 [a1, t120, t122] (fun t123_1 w => H_2 w ∧ (S.h P H_2 (Instr.extract t123_1 0) (fun t124_1 w =>
    S.h P H_2 (Instr.extract t123_1 1) (fun t125_1 w => S.u P (Instr.storeAt 36 t18_1 t124_1) (fun w => H_2 w ∧ (J_1 [t18_1, t125_1] w)) w) w) w)) w)) w))) w)
    ∧ (S.v P (Instr.alloc 36 true (.tuple #[])) (fun t18_2 w => H_2 w ∧ (S.call P 37 [t121] (fun t122_1 w => H_2 w ∧ (S.call P 57 [a1, t120, t122_1] (fun
    t123_2 w => H_2 w ∧ (S.h P H_2 (Instr.extract t123_2 0) (fun t124_2 w => S.h P H_2 (Instr.extract t123_2 1) (fun t125_2 w => S.u P (Instr.storeAt 36 t18_2
    t124_2) (fun w => H_2 w ∧ (J_1 [t18_2, t125_2] w)) w) w) w)) w)) w)) w)) w) w) w)) w)) (fun J => S.drawn (fun w => ∃ H_3 : World → Prop, H_3 w ∧ (S.h P H_3
    (Instr.fieldAt 77 t5 2) (fun t110 w => S.h P H_3 (Instr.loadAt 3 t110) (fun t111 w => S.h P H_3 (Instr.loadAt 77 t5) (fun t112 w => (S.call P 37 [t112]
    (fun t113 w => H_3 w ∧ ((S.call P 36 [a0, t111, t113] (fun t114 w => H_3 w ∧ (S.h P H_3 (Instr.extract t114 0) (fun t115 w => S.h P H_3 (Instr.extract t114
    1) (fun t116 w => S.v P (Instr.alloc 36 true (.tuple #[])) (fun t16 w => H_3 w ∧ (S.u P (Instr.storeAt 36 t16 t115) (fun w => H_3 w ∧ (J [t16, t116] w))
    w)) w) w) w)) w) ∧ (S.v P (Instr.alloc 36 true (.tuple #[])) (fun t16_1 w => H_3 w ∧ (S.call P 36 [a0, t111, t113] (fun t114_1 w => H_3 w ∧ (S.h P H_3
    (Instr.extract t114_1 0) (fun t115_1 w => S.h P H_3 (Instr.extract t114_1 1) (fun t116_1 w => S.u P (Instr.storeAt 36 t16_1 t115_1) (fun w => H_3 w ∧ (J
    [t16_1, t116_1] w)) w) w) w)) w)) w))) w) ∧ (S.v P (Instr.alloc 36 true (.tuple #[])) (fun t16_2 w => H_3 w ∧ (S.call P 37 [t112] (fun t113_1 w => H_3 w ∧
    (S.call P 36 [a0, t111, t113_1] (fun t114_2 w => H_3 w ∧ (S.h P H_3 (Instr.extract t114_2 0) (fun t115_2 w => S.h P H_3 (Instr.extract t114_2 1) (fun
    t116_2 w => S.u P (Instr.storeAt 36 t16_2 t115_2) (fun w => H_3 w ∧ (J [t16_2, t116_2] w)) w) w) w)) w)) w)) w)) w) w) w)) w)) (S.v P (S.bin Go.BinOp.eql 3
    (Go.Operand.tmp 32) (Go.Operand.const (Go.Value.int Go.IntKind.i64 4)) t32 (Go.Value.int Go.IntKind.i64 4)) (fun t136 w => br t136 (S.v P (Instr.fieldAt 77
    t5 2) (fun t139 w => S.v P (Instr.loadAt 3 t139) (fun t140 w => S.call P 38 [a0, t140] (fun t141 w => S.v P (Instr.extract t141 0) (fun t142 w => S.v P
    (Instr.extract t141 1) (fun t143 w => S.v P (Instr.alloc 36 true (.tuple #[])) (fun t20 w => S.u P (Instr.storeAt 36 t20 t142) (fun w => S.v P
    (Instr.fieldAt 77 t5 2) (fun t146 w => S.v P (Instr.loadAt 3 t146) (fun t147 w => S.call P 58 [a1, t147] (fun t148 w => S.v P (Instr.extract t148 0) (fun
    t149 w => S.v P (Instr.extract t148 1) (fun t150 w => S.v P (Instr.alloc 36 true (.tuple #[])) (fun t22 w => S.u P (Instr.storeAt 36 t22 t149) (fun w =>
    S.v P (Instr.loadAt 36 t20) (fun t152 w => S.v P (Instr.loadAt 36 t22) (fun t153 w => S.v P (S.bin Go.BinOp.eql 36 (Go.Operand.tmp 152) (Go.Operand.tmp
    153) t152 t153) (fun t154 w => br t154 (S.v P (S.bin Go.BinOp.eql 24 (Go.Operand.tmp 156) (Go.Operand.tmp 157) t143 t150) (fun t158 w => K (.tuple #[a0,
    t158]) w) w) (K (.tuple #[a0, (Go.Value.bool false)]) w)) w) w) w) w) w) w) w) w) w) w) w) w) w) w) w) w) w) (S.v P (S.bin Go.BinOp.eql 3 (Go.Operand.tmp
    32) (Go.Operand.const (Go.Value.int Go.IntKind.i64 5)) t32 (Go.Value.int Go.IntKind.i64 5)) (fun t161 w => br t161 (S.v P (Instr.fieldAt 77 t5 2) (fun t164
    w => S.v P (Instr.loadAt 3 t164) (fun t165 w => S.v P (Instr.fieldAt 77 t5 4) (fun t166 w => S.v P (Instr.loadAt 9 t166) (fun t167 w => S.v P
    (Instr.fieldAt 77 t5 5) (fun t168 w => S.v P (Instr.loadAt 4 t168) (fun t169 w => S.v P (Instr.fieldAt 77 t5 6) (fun t170 w => S.v P (Instr.loadAt 4 t170)
    (fun t171 w => S.call P 32 [a0, t165, t167, t169, t171] (fun t172 w => S.v P (Instr.extract t172 0) (fun t173 w => S.v P (Instr.extract t172 1) (fun t174 w
    => S.v P (Instr.extract t172 2) (fun t175 w => S.v P (Instr.fieldAt 77 t5 2) (fun t178 w => S.v P (Instr.loadAt 3 t178) (fun t179 w => S.v P (Instr.fieldAt
    77 t5 4) (fun t180 w => S.v P (Instr.loadAt 9 t180) (fun t181 w => S.v P (Instr.fieldAt 77 t5 5) (fun t182 w => S.v P (Instr.loadAt 4 t182) (fun t183 w =>
    S.v P (Instr.fieldAt 77 t5 6) (fun t184 w => S.v P (Instr.loadAt 4 t184) (fun t185 w => S.call P 59 [a1, t179, t181, t183, t185] (fun t186 w => S.v P
    (Instr.extract t186 0) (fun t187 w => S.v P (Instr.extract t186 1) (fun t188 w => S.v P (Instr.extract t186 2) (fun t189 w => S.v P (S.bin Go.BinOp.eql 3
    (Go.Operand.tmp 191) (Go.Operand.tmp 192) t173 t187) (fun t193 w => br t193 (S.v P (S.bin Go.BinOp.eql 3 (Go.Operand.tmp 195) (Go.Operand.tmp 196) t174
    t188) (fun t197 w => br t197 (S.v P (S.bin Go.BinOp.eql 4 (Go.Operand.tmp 200) (Go.Operand.tmp 201) t175 t189) (fun t202 w => K (.tuple #[a0, t202]) w) w)
    (K (.tuple #[a0, (Go.Value.bool false)]) w)) w) (K (.tuple #[a0, (Go.Value.bool false)]) w)) w) w) w) w) w) w) w) w) w) w) w) w) w) w) w) w) w) w) w) w) w)
    w) w) w) w) (S.v P (S.bin Go.BinOp.eql 3 (Go.Operand.tmp 32) (Go.Operand.const (Go.Value.int Go.IntKind.i64 6)) t32 (Go.Value.int Go.IntKind.i64 6)) (fun
    t205 w => br t205 (S.call P 41 [a0] (fun t207 w => S.v P (Instr.fieldAt 77 t5 1) (fun t209 w => S.v P (Instr.loadAt 28 t209) (fun t210 w => S.call P 11
    [a0, t210] (fun t211 w => S.v P (Instr.fieldAt 77 t5 2) (fun t213 w => S.v P (Instr.loadAt 3 t213) (fun t214 w => S.call P 38 [a0, t214] (fun t215 w => S.v
    P (S.bin Go.BinOp.neq 23 (Go.Operand.tmp 217) (Go.Operand.const (Go.Value.pointer none)) t207 (Go.Value.pointer none)) (fun t218 w => K (.tuple #[t207,
    t218]) w) w) w) w) w) w) w) w) w) (K (.tuple #[a0, (Go.Value.bool true)]) w)) w)) w)) w)) w)) w)) w)) w) w) w) w
theorem F34_chk : chkFn Try.f34 (bodyOf Try.f34) [0, 1, 2, 5, 6, 7, 8, 9, 10, 11, 12, 13, 14, 15, 16, 17, 18, 19, 20, 21, 22, 23, 24, 25, 26, 27, 28, 29, 30, 32, 33, 45, 57, 106, 135, 160, 204] [(3, { ord := (.step 0 true (.step 1 true (.step 2 true (.step 3 true (.step 5 true (.step 6 true (.step 7 true (.step 4 false (.step 8 false (.step 9 true (.step 10 true (.step 11 true .fin)))))))))))), flags := [4, 8], held := true, init := true }), (5, { ord := (.step 0 true (.step 1 true (.step 2 true (.step 3 true (.step 5 true (.step 6 true (.step 7 true (.step 4 false (.step 8 false (.step 9 true (.step 10 true (.step 11 true .fin)))))))))))), flags := [4, 8], held := true, init := true }), (13, { ord := (.step 0 true (.step 1 true (.step 2 true (.step 3 true (.fork (.step 4 false (.fork (.step 5 false (.step 6 true (.step 7 true (.step 8 true (.step 9 false (.step 10 false (.step 11 true .fin))))))) (.step 9 false (.step 5 false (.step 6 true (.step 7 true (.step 8 true (.step 10 false (.step 11 true .fin))))))))) (.step 9 false (.step 4 false (.step 5 false (.step 6 true (.step 7 true (.step 8 true (.step 10 false (.step 11 true .fin))))))))))))), flags := [4, 5, 9, 10], held := true, init := true }), (14, { ord := (.step 0 true (.step 1 true (.step 2 true (.step 3 true (.fork (.step 4 false (.fork (.step 5 false (.step 6 true (.step 7 true (.step 8 true (.step 9 false (.step 10 false (.step 11 true .fin))))))) (.step 9 false (.step 5 false (.step 6 true (.step 7 true (.step 8 true (.step 10 false (.step 11 true .fin))))))))) (.step 9 false (.step 4 false (.step 5 false (.step 6 true (.step 7 true (.step 8 true (.step 10 false (.step 11 true .fin))))))))))))), flags := [4, 5, 9, 10], held := true, init := true })] 3 = true := by kernel_rfl
theorem F34_eq (a0 a1 a2 : Value) (K : Value → World → Prop) (w : World) : F34 Try.prog a0 a1 a2 K w = denFn Try.prog (has ents) [(3, { ord := (.step 0 true (.step 1 true (.step 2 true (.step 3 true (.step 5 true (.step 6 true (.step 7 true (.step 4 false (.step 8 false (.step 9 true (.step 10 true (.step 11 true .fin)))))))))))), flags := [4, 8], held := true, init := true }), (5, { ord := (.step 0 true (.step 1 true (.step 2 true (.step 3 true (.step 5 true (.step 6 true (.step 7 true (.step 4 false (.step 8 false (.step 9 true (.step 10 true (.step 11 true .fin)))))))))))), flags := [4, 8], held := true, init := true }), (13, { ord := (.step 0 true (.step 1 true (.step 2 true (.step 3 true (.fork (.step 4 false (.fork (.step 5 false (.step 6 true (.step 7 true (.step 8 true (.step 9 false (.step 10 false (.step 11 true .fin))))))) (.step 9 false (.step 5 false (.step 6 true (.step 7 true (.step 8 true (.step 10 false (.step 11 true .fin))))))))) (.step 9 false (.step 4 false (.step 5 false (.step 6 true (.step 7 true (.step 8 true (.step 10 false (.step 11 true .fin))))))))))))), flags := [4, 5, 9, 10], held := true, init := true }), (14, { ord := (.step 0 true (.step 1 true (.step 2 true (.step 3 true (.fork (.step 4 false (.fork (.step 5 false (.step 6 true (.step 7 true (.step 8 true (.step 9 false (.step 10 false (.step 11 true .fin))))))) (.step 9 false (.step 5 false (.step 6 true (.step 7 true (.step 8 true (.step 10 false (.step 11 true .fin))))))))) (.step 9 false (.step 4 false (.step 5 false (.step 6 true (.step 7 true (.step 8 true (.step 10 false (.step 11 true .fin))))))))))))), flags := [4, 5, 9, 10], held := true, init := true })] [0, 1, 2, 5, 6, 7, 8, 9, 10, 11, 12, 13, 14, 15, 16, 17, 18, 19, 20, 21, 22, 23, 24, 25, 26, 27, 28, 29, 30, 32, 33, 45, 57, 106, 135, 160, 204] (bodyOf Try.f34) Try.f34.results.toList [a0, a1, a2] K w := by kernel_rfl
theorem F34_link {a0 a1 a2 : Value} {K : Value → World → Prop} {w : World} (h : F34 Try.prog a0 a1 a2 K w) : S.call Try.prog 34 [a0, a1, a2] K w :=
  calls_of_den entOk mixOk Try.func34 rfl F34_chk (Eq.mp (F34_eq a0 a1 a2 K w) h)
/-- lanyard/lanyardlaw10.equal -/
def F35 (P : Program) (a0 a1 : Value) (K : Value → World → Prop) (w : World) : Prop :=
  S.v P (Instr.box 55 a1) (fun t3 w => S.v P (Instr.alloc 4 true (.tuple #[])) (fun t4 w => S.call P 14 [a0] (fun t10 w => S.loop (fun I => ∀ (x1000000 : Value)
    (x6 : Value) (x11 : Value) (x12 : Value) (x13 : Value) (x47 : Value) (w : World), (S.v P (S.bin Go.BinOp.lss 3 (Go.Operand.tmp 11) (Go.Operand.const
    (Go.Value.int Go.IntKind.i64 2)) x11 (Go.Value.int Go.IntKind.i64 2)) (fun t12 w => br t12 (S.v P (Instr.alloc 3 true (.tuple #[])) (fun t6 w => S.u P
    (Instr.storeAt 3 t6 (Go.Value.int Go.IntKind.i64 0)) (fun w => S.rng P t10 2 (fun bg dn ax w => S.v P (Instr.alloc 36 true (.tuple #[])) (fun t8 w => S.u P
    (Instr.storeAt 36 t8 (nth ax 1)) (fun w => bg (fun w => S.drawn (fun w => S.p P (Instr.loadAt 3 t6) (fun t17 w => S.p P (S.bin Go.BinOp.neq 3
    (Go.Operand.tmp 16) (Go.Operand.tmp 17) (nth ax 0) t17) (fun t18 w => br t18 (S.u P (Instr.storeAt 4 t4 (Go.Value.bool false)) (fun w => dn (some
    Go.Code.ret) w) w) (S.p P (Instr.loadAt 3 t6) (fun t20 w => S.p P (Instr.loadAt 55 t3) (fun t21 w => S.p P (S.nilC t21) (fun t22 w => S.p P (Instr.fieldAt
    81 t22 0) (fun t23 w => S.p P (Instr.loadAt 28 t23) (fun t24 w => S.p P (Builtin.len_ #[28] 3 #[t24]) (fun t25 w => S.p P (S.bin Go.BinOp.geq 3
    (Go.Operand.tmp 20) (Go.Operand.tmp 25) t20 t25) (fun t26 w => br t26 (S.u P (Instr.storeAt 4 t4 (Go.Value.bool false)) (fun w => dn (some Go.Code.ret) w)
    w) (S.p P (Instr.loadAt 36 t8) (fun t29 w => S.p P (Instr.loadAt 55 t3) (fun t30 w => S.p P (S.nilC t30) (fun t31 w => S.p P (Instr.fieldAt 81 t31 0) (fun
    t32 w => S.p P (Instr.loadAt 28 t32) (fun t33 w => S.p P (Instr.loadAt 3 t6) (fun t34 w => S.p P (Instr.indexAt 28 t33 t34) (fun t35 w => S.p P
    (Instr.loadAt 36 t35) (fun t36 w => S.p P (S.bin Go.BinOp.neq 36 (Go.Operand.tmp 29) (Go.Operand.tmp 36) t29 t36) (fun t37 w => br t37 (S.u P
    (Instr.storeAt 4 t4 (Go.Value.bool false)) (fun w => dn (some Go.Code.ret) w) w) (S.v P (Instr.loadAt 3 t6) (fun t39 w => S.v P (S.bin Go.BinOp.add 3
    (Go.Operand.tmp 39) (Go.Operand.const (Go.Value.int Go.IntKind.i64 1)) t39 (Go.Value.int Go.IntKind.i64 1)) (fun t40 w => S.u P (Instr.storeAt 3 t6 t40)
    (fun w => dn none w) w) w) w)) w) w) w) w) w) w) w) w) w)) w) w) w) w) w) w) w)) w) w) w) w) w) w) (fun b w => S.drawn (fun w => S.p P (Instr.loadAt 3 t6)
    (fun t41 w => S.p P (Instr.loadAt 55 t3) (fun t42 w => S.p P (S.nilC t42) (fun t43 w => S.p P (Instr.fieldAt 81 t43 0) (fun t44 w => S.p P (Instr.loadAt 28
    t44) (fun t45 w => S.p P (Builtin.len_ #[28] 3 #[t45]) (fun t46 w => S.p P (S.bin Go.BinOp.neq 3 (Go.Operand.tmp 41) (Go.Operand.tmp 46) t41 t46) (fun t47
    w => br t47 (S.u P (Instr.storeAt 4 t4 (Go.Value.bool false)) (fun w => S.closes (marksOf (addMark b x1000000)) (fun w => S.p P (S.ldR 4 t4) (fun r4 w => K
    r4 w) w) w) w) (S.v P (S.bin Go.BinOp.add 3 (Go.Operand.tmp 11) (Go.Operand.const (Go.Value.int Go.IntKind.i64 1)) x11 (Go.Value.int Go.IntKind.i64 1))
    (fun t48 w => I [(addMark b x1000000), t6, t48, t12, t10, t47] w) w)) w) w) w) w) w) w) w) w) (fun b_1 w => S.closes (marksOf (addMark b_1 x1000000)) (fun
    w => S.p P (S.ldR 4 t4) (fun r4_1 w => K r4_1 w) w) w) w) w) w) (S.drawn (fun w => ∃ H : World → Prop, H w ∧ (S.h P H (Instr.loadAt 55 t3) (fun t51 w =>
    S.h P H (S.nilC t51) (fun t52 w => S.h P H (Instr.fieldAt 81 t52 0) (fun t53 w => S.h P H (Instr.loadAt 28 t53) (fun t54 w => S.h P H (Builtin.len_ #[28] 3
    #[t54]) (fun t55 w => S.call P 12 [a0] (fun t50 w => H w ∧ (S.h P H (S.bin Go.BinOp.eql 3 (Go.Operand.tmp 50) (Go.Operand.tmp 55) t50 t55) (fun t56 w => br
    t56 (S.h P H (Instr.loadAt 55 t3) (fun t60 w => S.h P H (S.nilC t60) (fun t61 w => S.h P H (Instr.fieldAt 81 t61 1) (fun t62 w => S.h P H (Instr.loadAt 2
    t62) (fun t63 w => S.call P 13 [a0] (fun t59 w => H w ∧ (S.h P H (S.bin Go.BinOp.eql 2 (Go.Operand.tmp 59) (Go.Operand.tmp 63) t59 t63) (fun t64 w => br
    t64 (S.h P H (Instr.loadAt 55 t3) (fun t69 w => S.h P H (S.nilC t69) (fun t70 w => S.h P H (Instr.fieldAt 81 t70 2) (fun t71 w => S.h P H (Instr.loadAt 3
    t71) (fun t72 w => S.call P 40 [a0] (fun t68 w => H w ∧ (S.h P H (S.bin Go.BinOp.eql 3 (Go.Operand.tmp 68) (Go.Operand.tmp 72) t68 t72) (fun t73 w => S.u P
    (Instr.storeAt 4 t4 t73) (fun w => S.closes (marksOf x1000000) (fun w => S.p P (S.ldR 4 t4) (fun r4_2 w => K r4_2 w) w) w) w) w)) w) w) w) w) w) (S.u P
    (Instr.storeAt 4 t4 (Go.Value.bool false)) (fun w => S.closes (marksOf x1000000) (fun w => S.p P (S.ldR 4 t4) (fun r4_3 w => K r4_3 w) w) w) w)) w)) w) w)
    w) w) w) (S.u P (Instr.storeAt 4 t4 (Go.Value.bool false)) (fun w => S.closes (marksOf x1000000) (fun w => S.p P (S.ldR 4 t4) (fun r4_4 w => K r4_4 w) w)
    w) w)) w)) w) w) w) w) w) w)) w)) w) → I [x1000000, x6, x11, x12, x13, x47] w) [undef, undef, (Go.Value.int Go.IntKind.i64 0), undef, undef, undef] w) w)
    w) w
theorem F35_chk : chkFn Try.f35 (bodyOf Try.f35) [0, 1, 3, 4, 5, 6, 7, 8, 11, 12, 13, 14, 15, 38, 47] [(8, { ord := (.step 0 true (.step 1 true (.step 2 true (.step 3 true (.step 4 true (.step 5 true (.step 6 true (.step 7 true (.step 8 true (.step 9 true (.step 10 true (.step 11 true (.step 12 true (.step 13 true (.step 14 true (.step 15 true (.step 16 true (.step 17 true (.step 18 true (.step 19 true (.step 20 true (.step 21 true (.step 22 true .fin))))))))))))))))))))))), flags := [], held := false, init := true }), (11, { ord := (.step 0 true (.step 1 true (.step 2 true (.step 3 true (.step 4 true (.step 5 true (.step 6 true .fin))))))), flags := [], held := false, init := true }), (14, { ord := (.step 0 true (.step 2 true (.step 3 true (.step 4 true (.step 5 true (.step 6 true (.step 1 false (.step 7 true (.step 8 true (.step 9 true (.step 11 true (.step 12 true (.step 13 true (.step 14 true (.step 10 false (.step 15 true (.step 16 true (.step 17 true (.step 18 true (.step 20 true (.step 21 true (.step 22 true (.step 23 true (.step 19 false (.step 24 true (.step 25 true (.step 26 false .fin))))))))))))))))))))))))))), flags := [1, 10, 19], held := true, init := true })] 2 = true := by kernel_rfl
theorem F35_eq (a0 a1 : Value) (K : Value → World → Prop) (w : World) : F35 Try.prog a0 a1 K w = denFn Try.prog (has ents) [(8, { ord := (.step 0 true (.step 1 true (.step 2 true (.step 3 true (.step 4 true (.step 5 true (.step 6 true (.step 7 true (.step 8 true (.step 9 true (.step 10 true (.step 11 true (.step 12 true (.step 13 true (.step 14 true (.step 15 true (.step 16 true (.step 17 true (.step 18 true (.step 19 true (.step 20 true (.step 21 true (.step 22 true .fin))))))))))))))))))))))), flags := [], held := false, init := true }), (11, { ord := (.step 0 true (.step 1 true (.step 2 true (.step 3 true (.step 4 true (.step 5 true (.step 6 true .fin))))))), flags := [], held := false, init := true }), (14, { ord := (.step 0 true (.step 2 true (.step 3 true (.step 4 true (.step 5 true (.step 6 true (.step 1 false (.step 7 true (.step 8 true (.step 9 true (.step 11 true (.step 12 true (.step 13 true (.step 14 true (.step 10 false (.step 15 true (.step 16 true (.step 17 true (.step 18 true (.step 20 true (.step 21 true (.step 22 true (.step 23 true (.step 19 false (.step 24 true (.step 25 true (.step 26 false .fin))))))))))))))))))))))))))), flags := [1, 10, 19], held := true, init := true })] [0, 1, 3, 4, 5, 6, 7, 8, 11, 12, 13, 14, 15, 38, 47] (bodyOf Try.f35) Try.f35.results.toList [a0, a1] K w := by kernel_rfl
theorem F35_link {a0 a1 : Value} {K : Value → World → Prop} {w : World} (h : F35 Try.prog a0 a1 K w) : S.call Try.prog 35 [a0, a1] K w :=
  calls_of_den entOk mixOk Try.func35 rfl F35_chk (Eq.mp (F35_eq a0 a1 K w) h)
/-- (*lanyard/histlist.List).Replace -/
def F36 (P : Program) (a0 a1 a2 : Value) (K : Value → World → Prop) (w : World) : Prop :=
  S.v P (Instr.box 36 a2) (fun t5 w => S.v P (Instr.alloc 36 true (.tuple #[])) (fun t6 w => S.call P 42 [a0] (fun t12 w => br t12 (S.v P (Instr.build 36 #[])
    (fun t13 w => S.u P (Instr.storeAt 36 t6 t13) (fun w => S.p P (S.ldR 36 t6) (fun r6 w => K (.tuple #[r6, (Go.Value.int Go.IntKind.i64 2)]) w) w) w) w)
    (S.call P 21 [a0, a1] (fun t17 w => S.v P (Instr.extract t17 0) (fun t18 w => S.v P (Instr.extract t17 1) (fun t19 w => S.v P (Instr.alloc 36 true (.tuple
    #[])) (fun t8 w => S.u P (Instr.storeAt 36 t8 t18) (fun w => S.v P (Op.unary Go.UnOp.not t19) (fun t21 w => br t21 (S.v P (Instr.build 36 #[]) (fun t22 w
    => S.u P (Instr.storeAt 36 t6 t22) (fun w => S.p P (S.ldR 36 t6) (fun r6_1 w => K (.tuple #[r6_1, (Go.Value.int Go.IntKind.i64 4)]) w) w) w) w) (S.v P
    (Instr.loadAt 36 t5) (fun t23 w => S.v P (Instr.buildSlice 28 1 #[(0, t23)]) (fun t24 w => S.call P 43 [t24] (fun t25 w => S.v P (S.bin Go.BinOp.neq 24
    (Go.Operand.tmp 26) (Go.Operand.const (Go.Value.int Go.IntKind.i64 0)) t25 (Go.Value.int Go.IntKind.i64 0)) (fun t27 w => br t27 (S.v P (Instr.build 36
    #[]) (fun t28 w => S.u P (Instr.storeAt 36 t6 t28) (fun w => S.p P (S.ldR 36 t6) (fun r6_2 w => K (.tuple #[r6_2, t25]) w) w) w) w) (S.drawn (fun w => S.p
    P (S.nilC a0) (fun t31 w => S.p P (Instr.fieldAt 87 t31 0) (fun t32 w => S.p P (Instr.fieldAt 85 t32 0) (fun t33 w => S.p P (Instr.loadAt 28 t33) (fun t34
    w => S.p P (Instr.loadAt 36 t5) (fun t36 w => S.p P (Instr.indexAt 28 t34 a1) (fun t37 w => S.u P (Instr.storeAt 36 t37 t36) (fun w => S.v P (Instr.loadAt
    36 t8) (fun t38 w => S.u P (Instr.storeAt 36 t6 t38) (fun w => S.p P (S.ldR 36 t6) (fun r6_3 w => K (.tuple #[r6_3, (Go.Value.int Go.IntKind.i64 0)]) w) w)
    w) w) w) w) w) w) w) w) w) w)) w) w) w) w)) w) w) w) w) w) w)) w) w) w
theorem F36_chk : chkFn Try.f36 (bodyOf Try.f36) [0, 1, 2, 5, 6, 7, 8, 9, 10, 12, 21, 27] [(9, { ord := (.step 0 true (.step 1 true (.step 2 true (.step 3 true (.step 4 true (.step 5 true (.step 6 true (.step 7 true (.step 8 false .fin))))))))), flags := [], held := false, init := true })] 3 = true := by kernel_rfl
theorem F36_eq (a0 a1 a2 : Value) (K : Value → World → Prop) (w : World) : F36 Try.prog a0 a1 a2 K w = denFn Try.prog (has ents) [(9, { ord := (.step 0 true (.step 1 true (.step 2 true (.step 3 true (.step 4 true (.step 5 true (.step 6 true (.step 7 true (.step 8 false .fin))))))))), flags := [], held := false, init := true })] [0, 1, 2, 5, 6, 7, 8, 9, 10, 12, 21, 27] (bodyOf Try.f36) Try.f36.results.toList [a0, a1, a2] K w := by kernel_rfl
theorem F36_link {a0 a1 a2 : Value} {K : Value → World → Prop} {w : World} (h : F36 Try.prog a0 a1 a2 K w) : S.call Try.prog 36 [a0, a1, a2] K w :=
  calls_of_den entOk mixOk Try.func36 rfl F36_chk (Eq.mp (F36_eq a0 a1 a2 K w) h)
/-- (lanyard/lanyardlaw10.Op).line -/
def F37 (P : Program) (a0 : Value) (K : Value → World → Prop) (w : World) : Prop :=
  S.v P (Instr.box 77 a0) (fun t1 w => S.v P (Instr.alloc 36 true (.tuple #[])) (fun t2 w => S.v P (Instr.fieldAt 77 t1 1) (fun t3 w => S.v P (Instr.loadAt 28
    t3) (fun t4 w => S.v P (Builtin.len_ #[28] 3 #[t4]) (fun t5 w => S.v P (S.bin Go.BinOp.eql 3 (Go.Operand.tmp 5) (Go.Operand.const (Go.Value.int
    Go.IntKind.i64 0)) t5 (Go.Value.int Go.IntKind.i64 0)) (fun t6 w => br t6 (S.v P (Instr.fieldAt 77 t1 4) (fun t7 w => S.v P (Instr.loadAt 9 t7) (fun t8 w
    => S.v P (Instr.build 36 #[(0, t8)]) (fun t9 w => S.u P (Instr.storeAt 36 t2 t9) (fun w => S.p P (S.ldR 36 t2) (fun r2 w => K r2 w) w) w) w) w) w) (S.v P
    (Instr.fieldAt 77 t1 1) (fun t10 w => S.v P (Instr.loadAt 28 t10) (fun t11 w => S.v P (Instr.indexAt 28 t11 (Go.Value.int Go.IntKind.i64 0)) (fun t12 w =>
    S.v P (Instr.loadAt 36 t12) (fun t13 w => S.u P (Instr.storeAt 36 t2 t13) (fun w => S.p P (S.ldR 36 t2) (fun r2_1 w => K r2_1 w) w) w) w) w) w) w)) w) w)
    w) w) w) w
theorem F37_chk : chkFn Try.f37 (bodyOf Try.f37) [0, 1, 2, 6] [] 1 = true := by kernel_rfl
theorem F37_eq (a0 : Value) (K : Value → World → Prop) (w : World) : F37 Try.prog a0 K w = denFn Try.prog (has ents) [] [0, 1, 2, 6] (bodyOf Try.f37) Try.f37.results.toList [a0] K w := by kernel_rfl
theorem F37_link {a0 : Value} {K : Value → World → Prop} {w : World} (h : F37 Try.prog a0 K w) : S.call Try.prog 37 [a0] K w :=
  calls_of_den entOk mixOk Try.func37 rfl F37_chk (Eq.mp (F37_eq a0 K w) h)
/-- (*lanyard/histlist.List).Remove -/
def F38 (P : Program) (a0 a1 : Value) (K : Value → World → Prop) (w : World) : Prop :=
  S.v P (Instr.alloc 36 true (.tuple #[])) (fun t4 w => S.call P 42 [a0] (fun t9 w => br t9 (S.v P (Instr.build 36 #[]) (fun t10 w => S.u P (Instr.storeAt 36 t4
    t10) (fun w => S.p P (S.ldR 36 t4) (fun r4 w => K (.tuple #[r4, (Go.Value.int Go.IntKind.i64 2)]) w) w) w) w) (S.call P 21 [a0, a1] (fun t14 w => S.v P
    (Instr.extract t14 0) (fun t15 w => S.v P (Instr.extract t14 1) (fun t16 w => S.v P (Instr.alloc 36 true (.tuple #[])) (fun t6 w => S.u P (Instr.storeAt 36
    t6 t15) (fun w => S.v P (Op.unary Go.UnOp.not t16) (fun t18 w => br t18 (S.v P (Instr.build 36 #[]) (fun t19 w => S.u P (Instr.storeAt 36 t4 t19) (fun w =>
    S.p P (S.ldR 36 t4) (fun r4_1 w => K (.tuple #[r4_1, (Go.Value.int Go.IntKind.i64 4)]) w) w) w) w) (S.v P (S.nilC a0) (fun t22 w => S.v P (Instr.fieldAt 87
    t22 0) (fun t23 w => S.v P (Instr.fieldAt 85 t23 0) (fun t24 w => S.v P (Instr.loadAt 28 t24) (fun t25 w => S.v P (S.bin Go.BinOp.add 3 (Go.Operand.tmp 27)
    (Go.Operand.const (Go.Value.int Go.IntKind.i64 1)) a1 (Go.Value.int Go.IntKind.i64 1)) (fun t28 w => S.call P 60 [t25, a1, t28] (fun t29 w => S.v P (S.nilC
    a0) (fun t30 w => S.v P (Instr.fieldAt 87 t30 0) (fun t31 w => S.v P (Instr.fieldAt 85 t31 0) (fun t32 w => S.u P (Instr.storeAt 28 t32 t29) (fun w => S.v
    P (Instr.loadAt 36 t6) (fun t33 w => S.u P (Instr.storeAt 36 t4 t33) (fun w => S.p P (S.ldR 36 t4) (fun r4_2 w => K (.tuple #[r4_2, (Go.Value.int
    Go.IntKind.i64 0)]) w) w) w) w) w) w) w) w) w) w) w) w) w) w)) w) w) w) w) w) w)) w) w
theorem F38_chk : chkFn Try.f38 (bodyOf Try.f38) [0, 1, 4, 5, 6, 7, 9, 18] [] 2 = true := by kernel_rfl
theorem F38_eq (a0 a1 : Value) (K : Value → World → Prop) (w : World) : F38 Try.prog a0 a1 K w = denFn Try.prog (has ents) [] [0, 1, 4, 5, 6, 7, 9, 18] (bodyOf Try.f38) Try.f38.results.toList [a0, a1] K w := by kernel_rfl
theorem F38_link {a0 a1 : Value} {K : Value → World → Prop} {w : World} (h : F38 Try.prog a0 a1 K w) : S.call Try.prog 38 [a0, a1] K w :=
  calls_of_den entOk mixOk Try.func38 rfl F38_chk (Eq.mp (F38_eq a0 a1 K w) h)
/-- (*lanyard/histlist.List).Stifle -/
def F39 (P : Program) (a0 a1 : Value) (K : Value → World → Prop) (w : World) : Prop :=
  S.call P 42 [a0] (fun t6 w => br t6 (K (Go.Value.int Go.IntKind.i64 2) w) (S.v P (S.bin Go.BinOp.lss 3 (Go.Operand.tmp 7) (Go.Operand.const (Go.Value.int
    Go.IntKind.i64 0)) a1 (Go.Value.int Go.IntKind.i64 0)) (fun t8 w => br t8 (K (Go.Value.int Go.IntKind.i64 1) w) (S.v P (S.bin Go.BinOp.gtr 3
    (Go.Operand.tmp 10) (Go.Operand.const (Go.Value.int Go.IntKind.i64 4096)) a1 (Go.Value.int Go.IntKind.i64 4096)) (fun t11 w => br t11 (K (Go.Value.int
    Go.IntKind.i64 1) w) (S.v P (S.nilC a0) (fun t15 w => S.v P (Instr.fieldAt 87 t15 0) (fun t16 w => S.v P (Instr.fieldAt 85 t16 2) (fun t17 w => S.u P
    (Instr.storeAt 3 t17 a1) (fun w => S.call P 44 [a0] (fun t19 w => K (Go.Value.int Go.IntKind.i64 0) w) w) w) w) w) w)) w)) w)) w
theorem F39_chk : chkFn Try.f39 (bodyOf Try.f39) [0, 1, 4, 6, 12] [] 2 = true := by kernel_rfl
theorem F39_eq (a0 a1 : Value) (K : Value → World → Prop) (w : World) : F39 Try.prog a0 a1 K w = denFn Try.prog (has ents) [] [0, 1, 4, 6, 12] (bodyOf Try.f39) Try.f39.results.toList [a0, a1] K w := by kernel_rfl
theorem F39_link {a0 a1 : Value} {K : Value → World → Prop} {w : World} (h : F39 Try.prog a0 a1 K w) : S.call Try.prog 39 [a0, a1] K w :=
  calls_of_den entOk mixOk Try.func39 rfl F39_chk (Eq.mp (F39_eq a0 a1 K w) h)
/-- (*lanyard/histlist.List).Most -/
def F40 (P : Program) (a0 : Value) (K : Value → World → Prop) (w : World) : Prop :=
  S.call P 42 [a0] (fun t4 w => br t4 (K (Go.Value.int Go.IntKind.i64 0) w) (S.v P (S.nilC a0) (fun t6 w => S.v P (Instr.fieldAt 87 t6 0) (fun t7 w => S.v P
    (Instr.fieldAt 85 t7 2) (fun t8 w => S.v P (Instr.loadAt 3 t8) (fun t9 w => K t9 w) w) w) w) w)) w
theorem F40_chk : chkFn Try.f40 (bodyOf Try.f40) [0, 2, 4] [] 1 = true := by kernel_rfl
theorem F40_eq (a0 : Value) (K : Value → World → Prop) (w : World) : F40 Try.prog a0 K w = denFn Try.prog (has ents) [] [0, 2, 4] (bodyOf Try.f40) Try.f40.results.toList [a0] K w := by kernel_rfl
theorem F40_link {a0 : Value} {K : Value → World → Prop} {w : World} (h : F40 Try.prog a0 K w) : S.call Try.prog 40 [a0] K w :=
  calls_of_den entOk mixOk Try.func40 rfl F40_chk (Eq.mp (F40_eq a0 K w) h)
/-- (*lanyard/histlist.List).Clone -/
def F41 (P : Program) (a0 : Value) (K : Value → World → Prop) (w : World) : Prop :=
  S.call P 42 [a0] (fun t4 w => br t4 (K (Go.Value.pointer none) w) (S.drawn (fun w => ∃ H : World → Prop, H w ∧ (S.h P H (S.nilC a0) (fun t6 w => S.h P H
    (Instr.fieldAt 87 t6 0) (fun t7 w => S.h P H (Instr.fieldAt 85 t7 0) (fun t8 w => S.h P H (Instr.loadAt 28 t8) (fun t9 w => S.h P H (S.nilC a0) (fun t12 w
    => S.h P H (Instr.fieldAt 87 t12 0) (fun t13 w => S.h P H (Instr.fieldAt 85 t13 1) (fun t14 w => S.h P H (Instr.loadAt 2 t14) (fun t15 w => S.h P H (S.nilC
    a0) (fun t17 w => S.h P H (Instr.fieldAt 87 t17 0) (fun t18 w => S.h P H (Instr.fieldAt 85 t18 2) (fun t19 w => S.h P H (Instr.loadAt 3 t19) (fun t20 w =>
    S.call P 45 [t9] (fun t10 w => H w ∧ (S.h P H (Instr.build 85 #[(0, t10), (1, t15), (2, t20)]) (fun t21 w => S.h P H (Instr.build 87 #[(0, t21)]) (fun t22
    w => S.v P (Instr.box 87 t22) (fun t23 w => H w ∧ (K t23 w)) w) w) w)) w) w) w) w) w) w) w) w) w) w) w) w) w)) w)) w
theorem F41_chk : chkFn Try.f41 (bodyOf Try.f41) [0, 2, 4] [(3, { ord := (.step 0 true (.step 1 true (.step 2 true (.step 3 true (.step 4 true (.step 6 true (.step 7 true (.step 8 true (.step 9 true (.step 10 true (.step 11 true (.step 12 true (.step 13 true (.step 14 true (.step 15 true (.step 5 false (.step 16 true (.step 17 true (.step 18 false (.step 19 true .fin)))))))))))))))))))), flags := [5, 18], held := true, init := true })] 1 = true := by kernel_rfl
theorem F41_eq (a0 : Value) (K : Value → World → Prop) (w : World) : F41 Try.prog a0 K w = denFn Try.prog (has ents) [(3, { ord := (.step 0 true (.step 1 true (.step 2 true (.step 3 true (.step 4 true (.step 6 true (.step 7 true (.step 8 true (.step 9 true (.step 10 true (.step 11 true (.step 12 true (.step 13 true (.step 14 true (.step 15 true (.step 5 false (.step 16 true (.step 17 true (.step 18 false (.step 19 true .fin)))))))))))))))))))), flags := [5, 18], held := true, init := true })] [0, 2, 4] (bodyOf Try.f41) Try.f41.results.toList [a0] K w := by kernel_rfl
theorem F41_link {a0 : Value} {K : Value → World → Prop} {w : World} (h : F41 Try.prog a0 K w) : S.call Try.prog 41 [a0] K w :=
  calls_of_den entOk mixOk Try.func41 rfl F41_chk (Eq.mp (F41_eq a0 K w) h)
/-- (*lanyard/histlist.List).none -/
def F42 (P : Program) (a0 : Value) (K : Value → World → Prop) (w : World) : Prop :=
  S.v P (S.bin Go.BinOp.eql 23 (Go.Operand.tmp 3) (Go.Operand.const (Go.Value.pointer none)) a0 (Go.Value.pointer none)) (fun t4 w => br t4 (K (Go.Value.bool
    true) w) (S.v P (S.nilC a0) (fun t7 w => S.v P (Instr.fieldAt 87 t7 0) (fun t8 w => S.v P (Instr.fieldAt 85 t8 1) (fun t9 w => S.v P (Instr.loadAt 2 t9)
    (fun t10 w => S.v P (S.bin Go.BinOp.eql 2 (Go.Operand.tmp 10) (Go.Operand.const (Go.Value.int Go.IntKind.i64 0)) t10 (Go.Value.int Go.IntKind.i64 0)) (fun
    t11 w => K t11 w) w) w) w) w) w)) w
theorem F42_chk : chkFn Try.f42 (bodyOf Try.f42) [0, 2] [] 1 = true := by kernel_rfl
theorem F42_eq (a0 : Value) (K : Value → World → Prop) (w : World) : F42 Try.prog a0 K w = denFn Try.prog (has ents) [] [0, 2] (bodyOf Try.f42) Try.f42.results.toList [a0] K w := by kernel_rfl
theorem F42_link {a0 : Value} {K : Value → World → Prop} {w : World} (h : F42 Try.prog a0 K w) : S.call Try.prog 42 [a0] K w :=
  calls_of_den entOk mixOk Try.func42 rfl F42_chk (Eq.mp (F42_eq a0 K w) h)
/-- lanyard/histlist.may -/
def F43 (P : Program) (a0 : Value) (K : Value → World → Prop) (w : World) : Prop :=
  S.v P (Builtin.len_ #[28] 3 #[a0]) (fun t8 w => S.loop (fun I => ∀ (x2 : Value) (x4 : Value) (x9 : Value) (x10 : Value) (x16 : Value) (w : World), (S.v P
    (S.bin Go.BinOp.lss 3 (Go.Operand.tmp 9) (Go.Operand.tmp 8) x9 t8) (fun t10 w => br t10 (S.v P (Instr.indexAt 28 a0 x9) (fun t11 w => S.v P (Instr.loadAt
    36 t11) (fun t12 w => S.v P (Instr.alloc 36 true (.tuple #[])) (fun t4 w => S.u P (Instr.storeAt 36 t4 t12) (fun w => S.v P (Instr.fieldAt 36 t4 0) (fun
    t13 w => S.v P (Instr.loadAt 9 t13) (fun t14 w => S.v P (Builtin.len_ #[9] 3 #[t14]) (fun t15 w => S.v P (S.bin Go.BinOp.gtr 3 (Go.Operand.tmp 15)
    (Go.Operand.const (Go.Value.int Go.IntKind.i64 16384)) t15 (Go.Value.int Go.IntKind.i64 16384)) (fun t16 w => br t16 (K (Go.Value.int Go.IntKind.i64 3) w)
    (S.v P (S.bin Go.BinOp.add 3 (Go.Operand.tmp 9) (Go.Operand.const (Go.Value.int Go.IntKind.i64 1)) x9 (Go.Value.int Go.IntKind.i64 1)) (fun t17 w => I [x2,
    t4, t17, t10, t16] w) w)) w) w) w) w) w) w) w) w) (S.v P (Builtin.len_ #[28] 3 #[a0]) (fun t19 w => S.loop (fun I_1 => ∀ (x2_1 : Value) (x6 : Value) (x20 :
    Value) (x21 : Value) (x26 : Value) (w : World), (S.v P (S.bin Go.BinOp.lss 3 (Go.Operand.tmp 20) (Go.Operand.tmp 19) x20 t19) (fun t21 w => br t21 (S.v P
    (Instr.indexAt 28 a0 x20) (fun t22 w => S.v P (Instr.loadAt 36 t22) (fun t23 w => S.v P (Instr.alloc 36 true (.tuple #[])) (fun t6 w => S.u P
    (Instr.storeAt 36 t6 t23) (fun w => S.v P (Instr.fieldAt 36 t6 1) (fun t24 w => S.v P (Instr.loadAt 2 t24) (fun t25 w => S.v P (S.bin Go.BinOp.lss 2
    (Go.Operand.tmp 25) (Go.Operand.const (Go.Value.int Go.IntKind.i64 0)) t25 (Go.Value.int Go.IntKind.i64 0)) (fun t26 w => br t26 (K (Go.Value.int
    Go.IntKind.i64 1) w) (S.v P (S.bin Go.BinOp.add 3 (Go.Operand.tmp 20) (Go.Operand.const (Go.Value.int Go.IntKind.i64 1)) x20 (Go.Value.int Go.IntKind.i64
    1)) (fun t27 w => I_1 [x2_1, t6, t27, t21, t26] w) w)) w) w) w) w) w) w) w) (K (Go.Value.int Go.IntKind.i64 0) w)) w) → I_1 [x2_1, x6, x20, x21, x26] w)
    [x2, undef, (Go.Value.int Go.IntKind.i64 0), undef, undef] w) w)) w) → I [x2, x4, x9, x10, x16] w) [(Go.Value.int Go.IntKind.i64 0), undef, (Go.Value.int
    Go.IntKind.i64 0), undef, undef] w) w
theorem F43_chk : chkFn Try.f43 (bodyOf Try.f43) [0, 2, 4, 6, 7, 8, 9, 10, 16, 18, 19, 20, 21, 26] [] 1 = true := by kernel_rfl
theorem F43_eq (a0 : Value) (K : Value → World → Prop) (w : World) : F43 Try.prog a0 K w = denFn Try.prog (has ents) [] [0, 2, 4, 6, 7, 8, 9, 10, 16, 18, 19, 20, 21, 26] (bodyOf Try.f43) Try.f43.results.toList [a0] K w := by kernel_rfl
theorem F43_link {a0 : Value} {K : Value → World → Prop} {w : World} (h : F43 Try.prog a0 K w) : S.call Try.prog 43 [a0] K w :=
  calls_of_den entOk mixOk Try.func43 rfl F43_chk (Eq.mp (F43_eq a0 K w) h)
/-- (*lanyard/histlist.List).stifled -/
def F44 (P : Program) (a0 : Value) (K : Value → World → Prop) (w : World) : Prop :=
  S.drawn (fun w => S.p P (S.nilC a0) (fun t4 w => S.p P (Instr.fieldAt 87 t4 0) (fun t5 w => S.p P (Instr.fieldAt 85 t5 0) (fun t6 w => S.p P (Instr.loadAt 28
    t6) (fun t7 w => S.p P (Builtin.len_ #[28] 3 #[t7]) (fun t8 w => S.p P (S.nilC a0) (fun t10 w => S.p P (Instr.fieldAt 87 t10 0) (fun t11 w => S.p P
    (Instr.fieldAt 85 t11 2) (fun t12 w => S.p P (Instr.loadAt 3 t12) (fun t13 w => S.p P (S.bin Go.BinOp.sub 3 (Go.Operand.tmp 8) (Go.Operand.tmp 13) t8 t13)
    (fun t14 w => S.v P (S.bin Go.BinOp.gtr 3 (Go.Operand.tmp 15) (Go.Operand.const (Go.Value.int Go.IntKind.i64 0)) t14 (Go.Value.int Go.IntKind.i64 0)) (fun
    t16 w => br t16 (S.v P (S.nilC a0) (fun t19 w => S.v P (Instr.fieldAt 87 t19 0) (fun t20 w => S.v P (Instr.fieldAt 85 t20 0) (fun t21 w => S.v P
    (Instr.loadAt 28 t21) (fun t22 w => S.v P (Instr.sliceAt 28 t22 (some t14) none none) (fun t24 w => S.call P 45 [t24] (fun t25 w => S.v P (S.nilC a0) (fun
    t26 w => S.v P (Instr.fieldAt 87 t26 0) (fun t27 w => S.v P (Instr.fieldAt 85 t27 0) (fun t28 w => S.u P (Instr.storeAt 28 t28 t25) (fun w => S.v P (S.nilC
    a0) (fun t30 w => S.v P (Instr.fieldAt 87 t30 0) (fun t31 w => S.v P (Instr.fieldAt 85 t31 1) (fun t32 w => S.v P (Instr.loadAt 2 t32) (fun t33 w => S.v P
    (S.bin Go.BinOp.add 2 (Go.Operand.tmp 33) (Go.Operand.tmp 34) t33 t14) (fun t35 w => S.v P (S.nilC a0) (fun t36 w => S.v P (Instr.fieldAt 87 t36 0) (fun
    t37 w => S.v P (Instr.fieldAt 85 t37 1) (fun t38 w => S.u P (Instr.storeAt 2 t38 t35) (fun w => K (.tuple #[]) w) w) w) w) w) w) w) w) w) w) w) w) w) w) w)
    w) w) w) w) w) (K (.tuple #[]) w)) w) w) w) w) w) w) w) w) w) w) w) w
theorem F44_chk : chkFn Try.f44 (bodyOf Try.f44) [0, 2, 16] [(0, { ord := (.step 0 true (.step 1 true (.step 2 true (.step 3 true (.step 4 true (.step 5 true (.step 6 true (.step 7 true (.step 8 true (.step 9 true (.step 10 true (.step 11 true (.step 12 true .fin))))))))))))), flags := [], held := false, init := true })] 1 = true := by kernel_rfl
theorem F44_eq (a0 : Value) (K : Value → World → Prop) (w : World) : F44 Try.prog a0 K w = denFn Try.prog (has ents) [(0, { ord := (.step 0 true (.step 1 true (.step 2 true (.step 3 true (.step 4 true (.step 5 true (.step 6 true (.step 7 true (.step 8 true (.step 9 true (.step 10 true (.step 11 true (.step 12 true .fin))))))))))))), flags := [], held := false, init := true })] [0, 2, 16] (bodyOf Try.f44) Try.f44.results.toList [a0] K w := by kernel_rfl
theorem F44_link {a0 : Value} {K : Value → World → Prop} {w : World} (h : F44 Try.prog a0 K w) : S.call Try.prog 44 [a0] K w :=
  calls_of_den entOk mixOk Try.func44 rfl F44_chk (Eq.mp (F44_eq a0 K w) h)
/-- slices.Clone[[]lanyard/api.HistLine,lanyard/api.HistLine] -/
def F45 (P : Program) (a0 : Value) (K : Value → World → Prop) (w : World) : Prop :=
  S.v P (S.bin Go.BinOp.eql 28 (Go.Operand.tmp 3) (Go.Operand.const (Go.Value.slice none 0 0)) a0 (Go.Value.slice none 0 0)) (fun t4 w => br t4 (K
    (Go.Value.slice none 0 0) w) (S.v P (Instr.buildSlice 28 0 #[]) (fun t5 w => S.v P (Builtin.append_ #[28, 28] 28 #[t5, a0]) (fun t7 w => K t7 w) w) w)) w
theorem F45_chk : chkFn Try.f45 (bodyOf Try.f45) [0, 2, 4] [] 1 = true := by kernel_rfl
theorem F45_eq (a0 : Value) (K : Value → World → Prop) (w : World) : F45 Try.prog a0 K w = denFn Try.prog (has ents) [] [0, 2, 4] (bodyOf Try.f45) Try.f45.results.toList [a0] K w := by kernel_rfl
theorem F45_link {a0 : Value} {K : Value → World → Prop} {w : World} (h : F45 Try.prog a0 K w) : S.call Try.prog 45 [a0] K w :=
  calls_of_den entOk mixOk Try.func45 rfl F45_chk (Eq.mp (F45_eq a0 K w) h)
/-- slices.All[[]lanyard/api.HistLine,lanyard/api.HistLine] -/
def F46 (P : Program) (a0 : Value) (K : Value → World → Prop) (w : World) : Prop :=
  S.v P (Instr.box 28 a0) (fun t1 w => S.v P (Instr.makeFunc (Go.Fn.func 61) #[] #[t1]) (fun t3 w => K t3 w) w) w
theorem F46_chk : chkFn Try.f46 (bodyOf Try.f46) [0, 1, 2] [] 1 = true := by kernel_rfl
theorem F46_eq (a0 : Value) (K : Value → World → Prop) (w : World) : F46 Try.prog a0 K w = denFn Try.prog (has ents) [] [0, 1, 2] (bodyOf Try.f46) Try.f46.results.toList [a0] K w := by kernel_rfl
theorem F46_link {a0 : Value} {K : Value → World → Prop} {w : World} (h : F46 Try.prog a0 K w) : S.call Try.prog 46 [a0] K w :=
  calls_of_den entOk mixOk Try.func46 rfl F46_chk (Eq.mp (F46_eq a0 K w) h)
/-- slices.Clone[[]string,string] -/
def F47 (P : Program) (a0 : Value) (K : Value → World → Prop) (w : World) : Prop :=
  S.v P (S.bin Go.BinOp.eql 62 (Go.Operand.tmp 3) (Go.Operand.const (Go.Value.slice none 0 0)) a0 (Go.Value.slice none 0 0)) (fun t4 w => br t4 (K
    (Go.Value.slice none 0 0) w) (S.v P (Instr.buildSlice 62 0 #[]) (fun t5 w => S.v P (Builtin.append_ #[62, 62] 62 #[t5, a0]) (fun t7 w => K t7 w) w) w)) w
theorem F47_chk : chkFn Try.f47 (bodyOf Try.f47) [0, 2, 4] [] 1 = true := by kernel_rfl
theorem F47_eq (a0 : Value) (K : Value → World → Prop) (w : World) : F47 Try.prog a0 K w = denFn Try.prog (has ents) [] [0, 2, 4] (bodyOf Try.f47) Try.f47.results.toList [a0] K w := by kernel_rfl
theorem F47_link {a0 : Value} {K : Value → World → Prop} {w : World} (h : F47 Try.prog a0 K w) : S.call Try.prog 47 [a0] K w :=
  calls_of_den entOk mixOk Try.func47 rfl F47_chk (Eq.mp (F47_eq a0 K w) h)
/-- (*lanyard/histlist.Walk).none -/
def F48 (P : Program) (a0 : Value) (K : Value → World → Prop) (w : World) : Prop :=
  S.v P (S.bin Go.BinOp.eql 42 (Go.Operand.tmp 3) (Go.Operand.const (Go.Value.pointer none)) a0 (Go.Value.pointer none)) (fun t4 w => br t4 (K (Go.Value.bool
    true) w) (S.v P (S.nilC a0) (fun t7 w => S.v P (Instr.fieldAt 96 t7 1) (fun t8 w => S.v P (Instr.loadAt 62 t8) (fun t9 w => S.v P (Builtin.len_ #[62] 3
    #[t9]) (fun t10 w => S.v P (S.bin Go.BinOp.eql 3 (Go.Operand.tmp 10) (Go.Operand.const (Go.Value.int Go.IntKind.i64 0)) t10 (Go.Value.int Go.IntKind.i64
    0)) (fun t11 w => K t11 w) w) w) w) w) w)) w
theorem F48_chk : chkFn Try.f48 (bodyOf Try.f48) [0, 2] [] 1 = true := by kernel_rfl
theorem F48_eq (a0 : Value) (K : Value → World → Prop) (w : World) : F48 Try.prog a0 K w = denFn Try.prog (has ents) [] [0, 2] (bodyOf Try.f48) Try.f48.results.toList [a0] K w := by kernel_rfl
theorem F48_link {a0 : Value} {K : Value → World → Prop} {w : World} (h : F48 Try.prog a0 K w) : S.call Try.prog 48 [a0] K w :=
  calls_of_den entOk mixOk Try.func48 rfl F48_chk (Eq.mp (F48_eq a0 K w) h)
/-- (*lanyard/histlist.Walk).Changed$1 -/
def F49 (P : Program) (a0 a1 a2 : Value) (K : Value → World → Prop) (w : World) : Prop :=
  S.v P (Instr.loadAt 102 a1) (fun t6 w => S.v P (Builtin.len_ #[102] 3 #[t6]) (fun t7 w => S.loop (fun I => ∀ (x4 : Value) (x5 : Value) (x8 : Value) (x9 :
    Value) (x20 : Value) (w : World), (S.v P (S.bin Go.BinOp.lss 3 (Go.Operand.tmp 8) (Go.Operand.tmp 7) x8 t7) (fun t9 w => br t9 (S.v P (Instr.indexAt 102 t6
    x8) (fun t11 w => S.v P (Instr.loadAt 3 t11) (fun t12 w => S.v P (Instr.loadAt 62 a2) (fun t15 w => S.v P (Instr.indexAt 62 t15 x8) (fun t17 w => S.v P
    (Instr.loadAt 9 t17) (fun t18 w => S.nx P (S.callV a0 [t12, t18]) (fun t19 w => S.v P (Op.unary Go.UnOp.not t19) (fun t20 w => br t20 (K (.tuple #[]) w)
    (S.v P (S.bin Go.BinOp.add 3 (Go.Operand.tmp 8) (Go.Operand.const (Go.Value.int Go.IntKind.i64 1)) x8 (Go.Value.int Go.IntKind.i64 1)) (fun t21 w => I [x8,
    t12, t21, t9, t20] w) w)) w) w) w) w) w) w) w) (K (.tuple #[]) w)) w) → I [x4, x5, x8, x9, x20] w) [undef, undef, (Go.Value.int Go.IntKind.i64 0), undef,
    undef] w) w) w
theorem F49_chk : chkFn Try.f49 (bodyOf Try.f49) [0, 1, 2, 4, 5, 6, 7, 8, 9, 20] [] 3 = true := by kernel_rfl
theorem F49_eq (a0 a1 a2 : Value) (K : Value → World → Prop) (w : World) : F49 Try.prog a0 a1 a2 K w = denFn Try.prog (has ents) [] [0, 1, 2, 4, 5, 6, 7, 8, 9, 20] (bodyOf Try.f49) Try.f49.results.toList [a0, a1, a2] K w := by kernel_rfl
theorem F49_link {a0 a1 a2 : Value} {K : Value → World → Prop} {w : World} (h : F49 Try.prog a0 a1 a2 K w) : S.call Try.prog 49 [a0, a1, a2] K w :=
  calls_of_den entOk mixOk Try.func49 rfl F49_chk (Eq.mp (F49_eq a0 a1 a2 K w) h)
/-- (*lanyard/lanyardref10.List).Add -/
def F50 (P : Program) (a0 a1 : Value) (K : Value → World → Prop) (w : World) : Prop :=
  S.call P 62 [a1] (fun t7 w => S.v P (S.bin Go.BinOp.neq 24 (Go.Operand.tmp 8) (Go.Operand.const (Go.Value.int Go.IntKind.i64 0)) t7 (Go.Value.int
    Go.IntKind.i64 0)) (fun t9 w => br t9 (K t7 w) (S.v P (S.nilC a0) (fun t13 w => S.v P (Instr.fieldAt 81 t13 0) (fun t14 w => S.v P (Instr.loadAt 28 t14)
    (fun t15 w => S.v P (Builtin.append_ #[28, 28] 28 #[(Go.Value.slice none 0 0), t15]) (fun t16 w => S.v P (Builtin.append_ #[28, 28] 28 #[t16, a1]) (fun t18
    w => S.v P (S.nilC a0) (fun t19 w => S.v P (Instr.fieldAt 81 t19 0) (fun t20 w => S.u P (Instr.storeAt 28 t20 t18) (fun w => S.call P 63 [a0] (fun t22 w =>
    K (Go.Value.int Go.IntKind.i64 0) w) w) w) w) w) w) w) w) w) w)) w) w
theorem F50_chk : chkFn Try.f50 (bodyOf Try.f50) [0, 1, 4, 5, 9] [] 2 = true := by kernel_rfl
theorem F50_eq (a0 a1 : Value) (K : Value → World → Prop) (w : World) : F50 Try.prog a0 a1 K w = denFn Try.prog (has ents) [] [0, 1, 4, 5, 9] (bodyOf Try.f50) Try.f50.results.toList [a0, a1] K w := by kernel_rfl
theorem F50_link {a0 a1 : Value} {K : Value → World → Prop} {w : World} (h : F50 Try.prog a0 a1 K w) : S.call Try.prog 50 [a0, a1] K w :=
  calls_of_den entOk mixOk Try.func50 rfl F50_chk (Eq.mp (F50_eq a0 a1 K w) h)
/-- internal/stringslite.HasPrefix -/
def F51 (P : Program) (a0 a1 : Value) (K : Value → World → Prop) (w : World) : Prop :=
  S.v P (Builtin.len_ #[9] 3 #[a0]) (fun t6 w => S.v P (Builtin.len_ #[9] 3 #[a1]) (fun t8 w => S.v P (S.bin Go.BinOp.geq 3 (Go.Operand.tmp 6) (Go.Operand.tmp 8)
    t6 t8) (fun t9 w => br t9 (S.v P (Builtin.len_ #[9] 3 #[a1]) (fun t13 w => S.v P (Instr.sliceAt 9 a0 none (some t13) none) (fun t14 w => S.v P (S.bin
    Go.BinOp.eql 9 (Go.Operand.tmp 14) (Go.Operand.tmp 15) t14 a1) (fun t16 w => K t16 w) w) w) w) (K (Go.Value.bool false) w)) w) w) w
theorem F51_chk : chkFn Try.f51 (bodyOf Try.f51) [0, 1, 4] [] 2 = true := by kernel_rfl
theorem F51_eq (a0 a1 : Value) (K : Value → World → Prop) (w : World) : F51 Try.prog a0 a1 K w = denFn Try.prog (has ents) [] [0, 1, 4] (bodyOf Try.f51) Try.f51.results.toList [a0, a1] K w := by kernel_rfl
theorem F51_link {a0 a1 : Value} {K : Value → World → Prop} {w : World} (h : F51 Try.prog a0 a1 K w) : S.call Try.prog 51 [a0, a1] K w :=
  calls_of_den entOk mixOk Try.func51 rfl F51_chk (Eq.mp (F51_eq a0 a1 K w) h)
/-- strings.Index -/
def F52 (P : Program) (a0 a1 : Value) (K : Value → World → Prop) (w : World) : Prop :=
  S.call P 64 [a0, a1] (fun t7 w => K t7 w) w
theorem F52_chk : chkFn Try.f52 (bodyOf Try.f52) [0, 1, 4] [] 2 = true := by kernel_rfl
theorem F52_eq (a0 a1 : Value) (K : Value → World → Prop) (w : World) : F52 Try.prog a0 a1 K w = denFn Try.prog (has ents) [] [0, 1, 4] (bodyOf Try.f52) Try.f52.results.toList [a0, a1] K w := by kernel_rfl
theorem F52_link {a0 a1 : Value} {K : Value → World → Prop} {w : World} (h : F52 Try.prog a0 a1 K w) : S.call Try.prog 52 [a0, a1] K w :=
  calls_of_den entOk mixOk Try.func52 rfl F52_chk (Eq.mp (F52_eq a0 a1 K w) h)
/-- lanyard/histlist.found -/
def F53 (P : Program) (a0 a1 a2 a3 : Value) (K : Value → World → Prop) (w : World) : Prop :=
  br a3 (S.call P 30 [a0, a1] (fun t14 w => br t14 (K (Go.Value.int Go.IntKind.i64 0) w) (br a3 (K (Go.Value.int Go.IntKind.i64 (-1)) w) (br a2 (S.call P 65 [a0,
    a1] (fun t22 w => K t22 w) w) (S.call P 52 [a0, a1] (fun t25 w => K t25 w) w)))) w) (br a3 (K (Go.Value.int Go.IntKind.i64 (-1)) w) (br a2 (S.call P 65
    [a0, a1] (fun t22_1 w => K t22_1 w) w) (S.call P 52 [a0, a1] (fun t25_1 w => K t25_1 w) w)))
theorem F53_chk : chkFn Try.f53 (bodyOf Try.f53) [0, 1, 2, 3, 8, 9, 16, 18] [] 4 = true := by kernel_rfl
theorem F53_eq (a0 a1 a2 a3 : Value) (K : Value → World → Prop) (w : World) : F53 Try.prog a0 a1 a2 a3 K w = denFn Try.prog (has ents) [] [0, 1, 2, 3, 8, 9, 16, 18] (bodyOf Try.f53) Try.f53.results.toList [a0, a1, a2, a3] K w := by kernel_rfl
theorem F53_link {a0 a1 a2 a3 : Value} {K : Value → World → Prop} {w : World} (h : F53 Try.prog a0 a1 a2 a3 K w) : S.call Try.prog 53 [a0, a1, a2, a3] K w :=
  calls_of_den entOk mixOk Try.func53 rfl F53_chk (Eq.mp (F53_eq a0 a1 a2 a3 K w) h)
/-- (*lanyard/lanyardref10.List).Stifle -/
def F54 (P : Program) (a0 a1 : Value) (K : Value → World → Prop) (w : World) : Prop :=
  S.v P (S.bin Go.BinOp.lss 3 (Go.Operand.tmp 5) (Go.Operand.const (Go.Value.int Go.IntKind.i64 0)) a1 (Go.Value.int Go.IntKind.i64 0)) (fun t6 w => br t6 (K
    (Go.Value.int Go.IntKind.i64 1) w) (S.v P (S.bin Go.BinOp.gtr 3 (Go.Operand.tmp 8) (Go.Operand.const (Go.Value.int Go.IntKind.i64 4096)) a1 (Go.Value.int
    Go.IntKind.i64 4096)) (fun t9 w => br t9 (K (Go.Value.int Go.IntKind.i64 1) w) (S.v P (S.nilC a0) (fun t13 w => S.v P (Instr.fieldAt 81 t13 2) (fun t14 w
    => S.u P (Instr.storeAt 3 t14 a1) (fun w => S.call P 63 [a0] (fun t16 w => K (Go.Value.int Go.IntKind.i64 0) w) w) w) w) w)) w)) w
theorem F54_chk : chkFn Try.f54 (bodyOf Try.f54) [0, 1, 4, 10] [] 2 = true := by kernel_rfl
theorem F54_eq (a0 a1 : Value) (K : Value → World → Prop) (w : World) : F54 Try.prog a0 a1 K w = denFn Try.prog (has ents) [] [0, 1, 4, 10] (bodyOf Try.f54) Try.f54.results.toList [a0, a1] K w := by kernel_rfl
theorem F54_link {a0 a1 : Value} {K : Value → World → Prop} {w : World} (h : F54 Try.prog a0 a1 K w) : S.call Try.prog 54 [a0, a1] K w :=
  calls_of_den entOk mixOk Try.func54 rfl F54_chk (Eq.mp (F54_eq a0 a1 K w) h)
/-- (*lanyard/lanyardref10.List).At -/
def F55 (P : Program) (a0 a1 : Value) (K : Value → World → Prop) (w : World) : Prop :=
  S.v P (Instr.alloc 36 true (.tuple #[])) (fun t4 w => S.call P 66 [a0, a1] (fun t8 w => S.v P (Op.unary Go.UnOp.not t8) (fun t9 w => br t9 (S.v P (Instr.build
    36 #[]) (fun t10 w => S.u P (Instr.storeAt 36 t4 t10) (fun w => S.p P (S.ldR 36 t4) (fun r4 w => K (.tuple #[r4, (Go.Value.bool false)]) w) w) w) w) (S.v P
    (S.nilC a0) (fun t12 w => S.v P (Instr.fieldAt 81 t12 0) (fun t13 w => S.v P (Instr.loadAt 28 t13) (fun t14 w => S.v P (Instr.indexAt 28 t14 a1) (fun t16 w
    => S.v P (Instr.loadAt 36 t16) (fun t17 w => S.u P (Instr.storeAt 36 t4 t17) (fun w => S.p P (S.ldR 36 t4) (fun r4_1 w => K (.tuple #[r4_1, (Go.Value.bool
    true)]) w) w) w) w) w) w) w) w)) w) w) w
theorem F55_chk : chkFn Try.f55 (bodyOf Try.f55) [0, 1, 4, 5, 9] [] 2 = true := by kernel_rfl
theorem F55_eq (a0 a1 : Value) (K : Value → World → Prop) (w : World) : F55 Try.prog a0 a1 K w = denFn Try.prog (has ents) [] [0, 1, 4, 5, 9] (bodyOf Try.f55) Try.f55.results.toList [a0, a1] K w := by kernel_rfl
theorem F55_link {a0 a1 : Value} {K : Value → World → Prop} {w : World} (h : F55 Try.prog a0 a1 K w) : S.call Try.prog 55 [a0, a1] K w :=
  calls_of_den entOk mixOk Try.func55 rfl F55_chk (Eq.mp (F55_eq a0 a1 K w) h)
/-- (*lanyard/lanyardref10.List).Number -/
def F56 (P : Program) (a0 a1 : Value) (K : Value → World → Prop) (w : World) : Prop :=
  S.v P (Instr.alloc 36 true (.tuple #[])) (fun t4 w => S.drawn (fun w => S.p P (S.nilC a0) (fun t8 w => S.p P (Instr.fieldAt 81 t8 1) (fun t9 w => S.p P
    (Instr.loadAt 2 t9) (fun t10 w => S.p P (S.bin Go.BinOp.lss 2 (Go.Operand.tmp 6) (Go.Operand.tmp 10) a1 t10) (fun t11 w => br t11 (S.v P (Instr.build 36
    #[]) (fun t26 w => S.u P (Instr.storeAt 36 t4 t26) (fun w => S.p P (S.ldR 36 t4) (fun r4 w => K (.tuple #[r4, (Go.Value.bool false)]) w) w) w) w) (S.p P
    (S.nilC a0) (fun t15 w => S.p P (Instr.fieldAt 81 t15 1) (fun t16 w => S.p P (Instr.loadAt 2 t16) (fun t17 w => S.p P (S.bin Go.BinOp.sub 2 (Go.Operand.tmp
    13) (Go.Operand.tmp 17) a1 t17) (fun t18 w => S.p P (S.nilC a0) (fun t20 w => S.p P (Instr.fieldAt 81 t20 0) (fun t21 w => S.p P (Instr.loadAt 28 t21) (fun
    t22 w => S.p P (Builtin.len_ #[28] 3 #[t22]) (fun t23 w => S.p P (S.bin Go.BinOp.geq 2 (Go.Operand.tmp 18) (Go.Operand.tmp 23) t18 t23) (fun t24 w => br
    t24 (S.v P (Instr.build 36 #[]) (fun t26_1 w => S.u P (Instr.storeAt 36 t4 t26_1) (fun w => S.p P (S.ldR 36 t4) (fun r4_1 w => K (.tuple #[r4_1,
    (Go.Value.bool false)]) w) w) w) w) (S.drawn (fun w => S.p P (S.nilC a0) (fun t28 w => S.p P (Instr.fieldAt 81 t28 0) (fun t29 w => S.p P (Instr.loadAt 28
    t29) (fun t30 w => S.p P (S.nilC a0) (fun t33 w => S.p P (Instr.fieldAt 81 t33 1) (fun t34 w => S.p P (Instr.loadAt 2 t34) (fun t35 w => S.p P (S.bin
    Go.BinOp.sub 2 (Go.Operand.tmp 31) (Go.Operand.tmp 35) a1 t35) (fun t36 w => S.p P (Instr.indexAt 28 t30 t36) (fun t37 w => S.p P (Instr.loadAt 36 t37)
    (fun t38 w => S.u P (Instr.storeAt 36 t4 t38) (fun w => S.p P (S.ldR 36 t4) (fun r4_2 w => K (.tuple #[r4_2, (Go.Value.bool true)]) w) w) w) w) w) w) w) w)
    w) w) w) w) w)) w) w) w) w) w) w) w) w) w)) w) w) w) w) w) w
theorem F56_chk : chkFn Try.f56 (bodyOf Try.f56) [0, 1, 4, 5, 25] [(1, { ord := (.step 0 true (.step 1 true (.step 2 true (.step 3 true (.step 4 true (.step 5 true (.step 6 true (.step 7 true (.step 8 true (.step 9 true (.step 10 true (.step 11 true (.step 12 true (.step 13 true (.step 14 true (.step 15 true (.step 16 true (.step 17 true (.step 18 true (.step 19 true .fin)))))))))))))))))))), flags := [], held := false, init := true }), (3, { ord := (.step 0 true (.step 1 true (.step 2 true (.step 3 true (.step 4 true (.step 5 true (.step 6 true (.step 7 true (.step 8 true (.step 9 true (.step 10 true (.step 11 true (.step 12 false (.step 13 true .fin)))))))))))))), flags := [], held := false, init := true })] 2 = true := by kernel_rfl
theorem F56_eq (a0 a1 : Value) (K : Value → World → Prop) (w : World) : F56 Try.prog a0 a1 K w = denFn Try.prog (has ents) [(1, { ord := (.step 0 true (.step 1 true (.step 2 true (.step 3 true (.step 4 true (.step 5 true (.step 6 true (.step 7 true (.step 8 true (.step 9 true (.step 10 true (.step 11 true (.step 12 true (.step 13 true (.step 14 true (.step 15 true (.step 16 true (.step 17 true (.step 18 true (.step 19 true .fin)))))))))))))))))))), flags := [], held := false, init := true }), (3, { ord := (.step 0 true (.step 1 true (.step 2 true (.step 3 true (.step 4 true (.step 5 true (.step 6 true (.step 7 true (.step 8 true (.step 9 true (.step 10 true (.step 11 true (.step 12 false (.step 13 true .fin)))))))))))))), flags := [], held := false, init := true })] [0, 1, 4, 5, 25] (bodyOf Try.f56) Try.f56.results.toList [a0, a1] K w := by kernel_rfl
theorem F56_link {a0 a1 : Value} {K : Value → World → Prop} {w : World} (h : F56 Try.prog a0 a1 K w) : S.call Try.prog 56 [a0, a1] K w :=
  calls_of_den entOk mixOk Try.func56 rfl F56_chk (Eq.mp (F56_eq a0 a1 K w) h)
/-- (*lanyard/lanyardref10.List).Replace -/
def F57 (P : Program) (a0 a1 a2 : Value) (K : Value → World → Prop) (w : World) : Prop :=
  S.v P (Instr.box 36 a2) (fun t5 w => S.v P (Instr.alloc 36 true (.tuple #[])) (fun t6 w => S.call P 66 [a0, a1] (fun t12 w => S.v P (Op.unary Go.UnOp.not t12)
    (fun t13 w => br t13 (S.v P (Instr.build 36 #[]) (fun t14 w => S.u P (Instr.storeAt 36 t6 t14) (fun w => S.p P (S.ldR 36 t6) (fun r6 w => K (.tuple #[r6,
    (Go.Value.int Go.IntKind.i64 4)]) w) w) w) w) (S.v P (Instr.loadAt 36 t5) (fun t15 w => S.v P (Instr.buildSlice 28 1 #[(0, t15)]) (fun t16 w => S.call P 62
    [t16] (fun t17 w => S.v P (S.bin Go.BinOp.neq 24 (Go.Operand.tmp 18) (Go.Operand.const (Go.Value.int Go.IntKind.i64 0)) t17 (Go.Value.int Go.IntKind.i64
    0)) (fun t19 w => br t19 (S.v P (Instr.build 36 #[]) (fun t20 w => S.u P (Instr.storeAt 36 t6 t20) (fun w => S.p P (S.ldR 36 t6) (fun r6_1 w => K (.tuple
    #[r6_1, t17]) w) w) w) w) (S.v P (S.nilC a0) (fun t23 w => S.v P (Instr.fieldAt 81 t23 0) (fun t24 w => S.v P (Instr.loadAt 28 t24) (fun t25 w => S.v P
    (Instr.indexAt 28 t25 a1) (fun t27 w => S.v P (Instr.loadAt 36 t27) (fun t28 w => S.v P (Instr.alloc 36 true (.tuple #[])) (fun t9 w => S.u P
    (Instr.storeAt 36 t9 t28) (fun w => S.v P (S.nilC a0) (fun t31 w => S.v P (Instr.fieldAt 81 t31 0) (fun t32 w => S.v P (Instr.loadAt 28 t32) (fun t33 w =>
    S.v P (Builtin.append_ #[28, 28] 28 #[(Go.Value.slice none 0 0), t33]) (fun t34 w => S.v P (S.nilC a0) (fun t35 w => S.v P (Instr.fieldAt 81 t35 0) (fun
    t36 w => S.u P (Instr.storeAt 28 t36 t34) (fun w => S.drawn (fun w => S.p P (S.nilC a0) (fun t38 w => S.p P (Instr.fieldAt 81 t38 0) (fun t39 w => S.p P
    (Instr.loadAt 28 t39) (fun t40 w => S.p P (Instr.loadAt 36 t5) (fun t42 w => S.p P (Instr.indexAt 28 t40 a1) (fun t43 w => S.u P (Instr.storeAt 36 t43 t42)
    (fun w => S.v P (Instr.loadAt 36 t9) (fun t44 w => S.u P (Instr.storeAt 36 t6 t44) (fun w => S.p P (S.ldR 36 t6) (fun r6_2 w => K (.tuple #[r6_2,
    (Go.Value.int Go.IntKind.i64 0)]) w) w) w) w) w) w) w) w) w) w) w) w) w) w) w) w) w) w) w) w) w) w) w) w) w)) w) w) w) w)) w) w) w) w
theorem F57_chk : chkFn Try.f57 (bodyOf Try.f57) [0, 1, 2, 5, 6, 7, 8, 9, 13, 19] [(8, { ord := (.step 0 true (.step 1 true (.step 2 true (.step 3 true (.step 4 true (.step 5 true (.step 6 true (.step 7 false .fin)))))))), flags := [], held := false, init := true })] 3 = true := by kernel_rfl
theorem F57_eq (a0 a1 a2 : Value) (K : Value → World → Prop) (w : World) : F57 Try.prog a0 a1 a2 K w = denFn Try.prog (has ents) [(8, { ord := (.step 0 true (.step 1 true (.step 2 true (.step 3 true (.step 4 true (.step 5 true (.step 6 true (.step 7 false .fin)))))))), flags := [], held := false, init := true })] [0, 1, 2, 5, 6, 7, 8, 9, 13, 19] (bodyOf Try.f57) Try.f57.results.toList [a0, a1, a2] K w := by kernel_rfl
theorem F57_link {a0 a1 a2 : Value} {K : Value → World → Prop} {w : World} (h : F57 Try.prog a0 a1 a2 K w) : S.call Try.prog 57 [a0, a1, a2] K w :=
  calls_of_den entOk mixOk Try.func57 rfl F57_chk (Eq.mp (F57_eq a0 a1 a2 K w) h)
/-- (*lanyard/lanyardref10.List).Remove -/
def F58 (P : Program) (a0 a1 : Value) (K : Value → World → Prop) (w : World) : Prop :=
  S.v P (Instr.alloc 36 true (.tuple #[])) (fun t4 w => S.call P 66 [a0, a1] (fun t10 w => S.v P (Op.unary Go.UnOp.not t10) (fun t11 w => br t11 (S.v P
    (Instr.build 36 #[]) (fun t12 w => S.u P (Instr.storeAt 36 t4 t12) (fun w => S.p P (S.ldR 36 t4) (fun r4 w => K (.tuple #[r4, (Go.Value.int Go.IntKind.i64
    4)]) w) w) w) w) (S.v P (S.nilC a0) (fun t14 w => S.v P (Instr.fieldAt 81 t14 0) (fun t15 w => S.v P (Instr.loadAt 28 t15) (fun t16 w => S.v P
    (Instr.indexAt 28 t16 a1) (fun t18 w => S.v P (Instr.loadAt 36 t18) (fun t19 w => S.v P (Instr.alloc 36 true (.tuple #[])) (fun t6 w => S.u P
    (Instr.storeAt 36 t6 t19) (fun w => S.v P (S.nilC a0) (fun t21 w => S.v P (Instr.fieldAt 81 t21 0) (fun t22 w => S.v P (Instr.loadAt 28 t22) (fun t23 w =>
    S.v P (Instr.sliceAt 28 t23 none (some a1) none) (fun t25 w => S.v P (Builtin.append_ #[28, 28] 28 #[(Go.Value.slice none 0 0), t25]) (fun t26 w => S.v P
    (S.nilC a0) (fun t30 w => S.v P (Instr.fieldAt 81 t30 0) (fun t31 w => S.v P (Instr.loadAt 28 t31) (fun t32 w => S.v P (S.bin Go.BinOp.add 3
    (Go.Operand.tmp 33) (Go.Operand.const (Go.Value.int Go.IntKind.i64 1)) a1 (Go.Value.int Go.IntKind.i64 1)) (fun t34 w => S.v P (Instr.sliceAt 28 t32 (some
    t34) none none) (fun t35 w => S.v P (Builtin.append_ #[28, 28] 28 #[t26, t35]) (fun t36 w => S.v P (S.nilC a0) (fun t37 w => S.v P (Instr.fieldAt 81 t37 0)
    (fun t38 w => S.u P (Instr.storeAt 28 t38 t36) (fun w => S.v P (Instr.loadAt 36 t6) (fun t39 w => S.u P (Instr.storeAt 36 t4 t39) (fun w => S.p P (S.ldR 36
    t4) (fun r4_1 w => K (.tuple #[r4_1, (Go.Value.int Go.IntKind.i64 0)]) w) w) w) w) w) w) w) w) w) w) w) w) w) w) w) w) w) w) w) w) w) w) w) w) w)) w) w) w
theorem F58_chk : chkFn Try.f58 (bodyOf Try.f58) [0, 1, 4, 5, 6, 7, 11] [] 2 = true := by kernel_rfl
theorem F58_eq (a0 a1 : Value) (K : Value → World → Prop) (w : World) : F58 Try.prog a0 a1 K w = denFn Try.prog (has ents) [] [0, 1, 4, 5, 6, 7, 11] (bodyOf Try.f58) Try.f58.results.toList [a0, a1] K w := by kernel_rfl
theorem F58_link {a0 a1 : Value} {K : Value → World → Prop} {w : World} (h : F58 Try.prog a0 a1 K w) : S.call Try.prog 58 [a0, a1] K w :=
  calls_of_den entOk mixOk Try.func58 rfl F58_chk (Eq.mp (F58_eq a0 a1 K w) h)
/-- (*lanyard/lanyardref10.List).Search -/
def F59 (P : Program) (a0 a1 a2 a3 a4 : Value) (K : Value → World → Prop) (w : World) : Prop :=
  S.seq (fun vs w => S.loop (fun I => ∀ (x10 : Value) (x11 : Value) (x12 : Value) (x14 : Value) (x15 : Value) (x16 : Value) (x36 : Value) (x51 : Value) (x65 :
    Value) (x66 : Value) (x72 : Value) (w : World), (S.call P 66 [a0, x14] (fun t36 w => br t36 (S.v P (S.nilC a0) (fun t41 w => S.v P (Instr.fieldAt 81 t41 0)
    (fun t42 w => S.v P (Instr.loadAt 28 t42) (fun t43 w => S.v P (Instr.indexAt 28 t43 x14) (fun t45 w => S.v P (Instr.fieldAt 36 t45 0) (fun t46 w => S.v P
    (Instr.loadAt 9 t46) (fun t47 w => S.seq (fun vs_1 w => S.v P (S.bin Go.BinOp.geq 3 (Go.Operand.tmp 71) (Go.Operand.const (Go.Value.int Go.IntKind.i64 0))
    (nth vs_1 0) (Go.Value.int Go.IntKind.i64 0)) (fun t72 w => br t72 (K (.tuple #[x14, (nth vs_1 0), (Go.Value.bool true)]) w) (S.v P (S.bin Go.BinOp.add 3
    (Go.Operand.tmp 37) (Go.Operand.tmp 38) x14 (nth vs 1)) (fun t39 w => I [x10, x11, x12, t39, t47, (nth vs_1 0), t36, (nth vs_1 1), (nth vs_1 2), (nth vs_1
    3), t72] w) w)) w) (fun J_1 => br a4 (S.v P (Builtin.len_ #[9] 3 #[t47]) (fun t54 w => S.v P (Builtin.len_ #[9] 3 #[a2]) (fun t56 w => S.v P (S.bin
    Go.BinOp.geq 3 (Go.Operand.tmp 54) (Go.Operand.tmp 56) t54 t56) (fun t57 w => br t57 (S.v P (Builtin.len_ #[9] 3 #[a2]) (fun t61 w => S.v P (Instr.sliceAt
    9 t47 none (some t61) none) (fun t62 w => S.v P (S.bin Go.BinOp.eql 9 (Go.Operand.tmp 62) (Go.Operand.tmp 63) t62 a2) (fun t64 w => br t64 (J_1
    [(Go.Value.int Go.IntKind.i64 0), a4, t64, x66] w) (J_1 [(Go.Value.int Go.IntKind.i64 (-1)), a4, t64, x66] w)) w) w) w) (J_1 [(Go.Value.int Go.IntKind.i64
    (-1)), a4, (Go.Value.bool false), x66] w)) w) w) w) (br a3 (S.call P 67 [t47, a2] (fun t70 w => J_1 [t70, a4, x65, a3] w) w) (S.call P 68 [t47, a2] (fun
    t50 w => J_1 [t50, a4, x65, a3] w) w)))) w) w) w) w) w) w) (K (.tuple #[(Go.Value.int Go.IntKind.i64 0), (Go.Value.int Go.IntKind.i64 0), (Go.Value.bool
    false)]) w)) w) → I [x10, x11, x12, x14, x15, x16, x36, x51, x65, x66, x72] w) [(Go.Value.int Go.IntKind.i64 0), (Go.Value.int Go.IntKind.i64 0),
    (Go.Value.bool false), (nth vs 0), undef, undef, undef, undef, undef, undef, undef] w) (fun J => br a3 (S.v P (S.nilC a0) (fun t20 w => S.v P
    (Instr.fieldAt 81 t20 0) (fun t21 w => S.v P (Instr.loadAt 28 t21) (fun t22 w => S.v P (Builtin.len_ #[28] 3 #[t22]) (fun t23 w => S.v P (S.bin
    Go.BinOp.geq 3 (Go.Operand.tmp 18) (Go.Operand.tmp 23) a1 t23) (fun t24 w => br t24 (S.v P (S.nilC a0) (fun t26 w => S.v P (Instr.fieldAt 81 t26 0) (fun
    t27 w => S.v P (Instr.loadAt 28 t27) (fun t28 w => S.v P (Builtin.len_ #[28] 3 #[t28]) (fun t29 w => S.v P (S.bin Go.BinOp.sub 3 (Go.Operand.tmp 29)
    (Go.Operand.const (Go.Value.int Go.IntKind.i64 1)) t29 (Go.Value.int Go.IntKind.i64 1)) (fun t30 w => J [t30, (Go.Value.int Go.IntKind.i64 (-1)), a3, t24,
    undef] w) w) w) w) w) w) (J [a1, (Go.Value.int Go.IntKind.i64 (-1)), a3, t24, undef] w)) w) w) w) w) w) (S.v P (S.bin Go.BinOp.lss 3 (Go.Operand.tmp 31)
    (Go.Operand.const (Go.Value.int Go.IntKind.i64 0)) a1 (Go.Value.int Go.IntKind.i64 0)) (fun t32 w => br t32 (J [(Go.Value.int Go.IntKind.i64 0),
    (Go.Value.int Go.IntKind.i64 1), a3, undef, t32] w) (J [a1, (Go.Value.int Go.IntKind.i64 1), a3, undef, t32] w)) w))
theorem F59_chk : chkFn Try.f59 (bodyOf Try.f59) [0, 1, 2, 3, 4, 10, 11, 12, 13, 14, 15, 16, 17, 24, 32, 36, 51, 65, 66, 72] [] 5 = true := by kernel_rfl
theorem F59_eq (a0 a1 a2 a3 a4 : Value) (K : Value → World → Prop) (w : World) : F59 Try.prog a0 a1 a2 a3 a4 K w = denFn Try.prog (has ents) [] [0, 1, 2, 3, 4, 10, 11, 12, 13, 14, 15, 16, 17, 24, 32, 36, 51, 65, 66, 72] (bodyOf Try.f59) Try.f59.results.toList [a0, a1, a2, a3, a4] K w := by kernel_rfl
theorem F59_link {a0 a1 a2 a3 a4 : Value} {K : Value → World → Prop} {w : World} (h : F59 Try.prog a0 a1 a2 a3 a4 K w) : S.call Try.prog 59 [a0, a1, a2, a3, a4] K w :=
  calls_of_den entOk mixOk Try.func59 rfl F59_chk (Eq.mp (F59_eq a0 a1 a2 a3 a4 K w) h)
/-- slices.Delete[[]lanyard/api.HistLine,lanyard/api.HistLine] -/
def F60 (P : Program) (a0 a1 a2 : Value) (K : Value → World → Prop) (w : World) : Prop :=
  S.v P (Builtin.len_ #[28] 3 #[a0]) (fun t12 w => S.v P (Instr.sliceAt 28 a0 (some a1) (some a2) (some t12)) (fun t13 w => S.v P (S.bin Go.BinOp.eql 3
    (Go.Operand.tmp 14) (Go.Operand.tmp 15) a1 a2) (fun t16 w => br t16 (K a0 w) (S.v P (Builtin.len_ #[28] 3 #[a0]) (fun t19 w => S.drawn (fun w => S.p P
    (Instr.sliceAt 28 a0 none (some a1) none) (fun t22 w => S.p P (Instr.sliceAt 28 a0 (some a2) none none) (fun t25 w => S.v P (Builtin.append_ #[28, 28] 28
    #[t22, t25]) (fun t26 w => S.v P (Builtin.len_ #[28] 3 #[t26]) (fun t29 w => S.v P (Instr.sliceAt 28 t26 (some t29) (some t19) none) (fun t31 w => S.v P
    (Builtin.clear_ #[28] 0 #[t31]) (fun _ w => K t26 w) w) w) w) w) w) w) w) w)) w) w) w
theorem F60_chk : chkFn Try.f60 (bodyOf Try.f60) [0, 1, 2, 6, 7, 16] [(5, { ord := (.step 0 true (.step 1 true (.step 2 true (.step 3 true (.step 4 true (.step 5 true (.step 6 false (.step 7 true .fin)))))))), flags := [], held := false, init := true })] 3 = true := by kernel_rfl
theorem F60_eq (a0 a1 a2 : Value) (K : Value → World → Prop) (w : World) : F60 Try.prog a0 a1 a2 K w = denFn Try.prog (has ents) [(5, { ord := (.step 0 true (.step 1 true (.step 2 true (.step 3 true (.step 4 true (.step 5 true (.step 6 false (.step 7 true .fin)))))))), flags := [], held := false, init := true })] [0, 1, 2, 6, 7, 16] (bodyOf Try.f60) Try.f60.results.toList [a0, a1, a2] K w := by kernel_rfl
theorem F60_link {a0 a1 a2 : Value} {K : Value → World → Prop} {w : World} (h : F60 Try.prog a0 a1 a2 K w) : S.call Try.prog 60 [a0, a1, a2] K w :=
  calls_of_den entOk mixOk Try.func60 rfl F60_chk (Eq.mp (F60_eq a0 a1 a2 K w) h)
/-- slices.All[[]lanyard/api.HistLine,lanyard/api.HistLine]$1 -/
def F61 (P : Program) (a0 a1 : Value) (K : Value → World → Prop) (w : World) : Prop :=
  S.v P (Instr.loadAt 28 a1) (fun t5 w => S.v P (Builtin.len_ #[28] 3 #[t5]) (fun t6 w => S.loop (fun I => ∀ (x3 : Value) (x4 : Value) (x7 : Value) (x8 : Value)
    (x16 : Value) (w : World), (S.v P (S.bin Go.BinOp.lss 3 (Go.Operand.tmp 7) (Go.Operand.tmp 6) x7 t6) (fun t8 w => br t8 (S.v P (Instr.indexAt 28 t5 x7)
    (fun t10 w => S.v P (Instr.loadAt 36 t10) (fun t11 w => S.v P (Instr.alloc 36 true (.tuple #[])) (fun t4 w => S.u P (Instr.storeAt 36 t4 t11) (fun w => S.v
    P (Instr.loadAt 36 t4) (fun t14 w => S.nx P (S.callV a0 [x7, t14]) (fun t15 w => S.v P (Op.unary Go.UnOp.not t15) (fun t16 w => br t16 (K (.tuple #[]) w)
    (S.v P (S.bin Go.BinOp.add 3 (Go.Operand.tmp 7) (Go.Operand.const (Go.Value.int Go.IntKind.i64 1)) x7 (Go.Value.int Go.IntKind.i64 1)) (fun t17 w => I [x7,
    t4, t17, t8, t16] w) w)) w) w) w) w) w) w) w) (K (.tuple #[]) w)) w) → I [x3, x4, x7, x8, x16] w) [undef, undef, (Go.Value.int Go.IntKind.i64 0), undef,
    undef] w) w) w
theorem F61_chk : chkFn Try.f61 (bodyOf Try.f61) [0, 1, 3, 4, 5, 6, 7, 8, 16] [] 2 = true := by kernel_rfl
theorem F61_eq (a0 a1 : Value) (K : Value → World → Prop) (w : World) : F61 Try.prog a0 a1 K w = denFn Try.prog (has ents) [] [0, 1, 3, 4, 5, 6, 7, 8, 16] (bodyOf Try.f61) Try.f61.results.toList [a0, a1] K w := by kernel_rfl
theorem F61_link {a0 a1 : Value} {K : Value → World → Prop} {w : World} (h : F61 Try.prog a0 a1 K w) : S.call Try.prog 61 [a0, a1] K w :=
  calls_of_den entOk mixOk Try.func61 rfl F61_chk (Eq.mp (F61_eq a0 a1 K w) h)
/-- lanyard/lanyardref10.may -/
def F62 (P : Program) (a0 : Value) (K : Value → World → Prop) (w : World) : Prop :=
  S.loop (fun I => ∀ (x2 : Value) (x3 : Value) (x8 : Value) (x17 : Value) (w : World), (S.v P (Builtin.len_ #[28] 3 #[a0]) (fun t7 w => S.v P (S.bin Go.BinOp.lss
    3 (Go.Operand.tmp 5) (Go.Operand.tmp 7) x3 t7) (fun t8 w => br t8 (S.v P (Instr.indexAt 28 a0 x3) (fun t13 w => S.v P (Instr.fieldAt 36 t13 0) (fun t14 w
    => S.v P (Instr.loadAt 9 t14) (fun t15 w => S.v P (Builtin.len_ #[9] 3 #[t15]) (fun t16 w => S.v P (S.bin Go.BinOp.gtr 3 (Go.Operand.tmp 16)
    (Go.Operand.const (Go.Value.int Go.IntKind.i64 16384)) t16 (Go.Value.int Go.IntKind.i64 16384)) (fun t17 w => br t17 (K (Go.Value.int Go.IntKind.i64 3) w)
    (S.v P (S.bin Go.BinOp.add 3 (Go.Operand.tmp 9) (Go.Operand.const (Go.Value.int Go.IntKind.i64 1)) x3 (Go.Value.int Go.IntKind.i64 1)) (fun t10 w => I [x2,
    t10, t8, t17] w) w)) w) w) w) w) w) (S.loop (fun I_1 => ∀ (x2_1 : Value) (x4 : Value) (x21 : Value) (x29 : Value) (w : World), (S.v P (Builtin.len_ #[28] 3
    #[a0]) (fun t20 w => S.v P (S.bin Go.BinOp.lss 3 (Go.Operand.tmp 18) (Go.Operand.tmp 20) x4 t20) (fun t21 w => br t21 (S.v P (Instr.indexAt 28 a0 x4) (fun
    t26 w => S.v P (Instr.fieldAt 36 t26 1) (fun t27 w => S.v P (Instr.loadAt 2 t27) (fun t28 w => S.v P (S.bin Go.BinOp.lss 2 (Go.Operand.tmp 28)
    (Go.Operand.const (Go.Value.int Go.IntKind.i64 0)) t28 (Go.Value.int Go.IntKind.i64 0)) (fun t29 w => br t29 (K (Go.Value.int Go.IntKind.i64 1) w) (S.v P
    (S.bin Go.BinOp.add 3 (Go.Operand.tmp 22) (Go.Operand.const (Go.Value.int Go.IntKind.i64 1)) x4 (Go.Value.int Go.IntKind.i64 1)) (fun t23 w => I_1 [x2_1,
    t23, t21, t29] w) w)) w) w) w) w) (K (Go.Value.int Go.IntKind.i64 0) w)) w) w) → I_1 [x2_1, x4, x21, x29] w) [x2, (Go.Value.int Go.IntKind.i64 0), undef,
    undef] w)) w) w) → I [x2, x3, x8, x17] w) [(Go.Value.int Go.IntKind.i64 0), (Go.Value.int Go.IntKind.i64 0), undef, undef] w
theorem F62_chk : chkFn Try.f62 (bodyOf Try.f62) [0, 2, 3, 4, 8, 17, 21, 29] [] 1 = true := by kernel_rfl
theorem F62_eq (a0 : Value) (K : Value → World → Prop) (w : World) : F62 Try.prog a0 K w = denFn Try.prog (has ents) [] [0, 2, 3, 4, 8, 17, 21, 29] (bodyOf Try.f62) Try.f62.results.toList [a0] K w := by kernel_rfl
theorem F62_link {a0 : Value} {K : Value → World → Prop} {w : World} (h : F62 Try.prog a0 K w) : S.call Try.prog 62 [a0] K w :=
  calls_of_den entOk mixOk Try.func62 rfl F62_chk (Eq.mp (F62_eq a0 K w) h)
/-- (*lanyard/lanyardref10.List).cut -/
def F63 (P : Program) (a0 : Value) (K : Value → World → Prop) (w : World) : Prop :=
  S.loop (fun I => ∀ (x11 : Value) (w : World), (S.drawn (fun w => S.p P (S.nilC a0) (fun t3 w => S.p P (Instr.fieldAt 81 t3 0) (fun t4 w => S.p P (Instr.loadAt
    28 t4) (fun t5 w => S.p P (Builtin.len_ #[28] 3 #[t5]) (fun t6 w => S.p P (S.nilC a0) (fun t8 w => S.p P (Instr.fieldAt 81 t8 2) (fun t9 w => S.p P
    (Instr.loadAt 3 t9) (fun t10 w => S.p P (S.bin Go.BinOp.gtr 3 (Go.Operand.tmp 6) (Go.Operand.tmp 10) t6 t10) (fun t11 w => br t11 (S.v P (S.nilC a0) (fun
    t14 w => S.v P (Instr.fieldAt 81 t14 0) (fun t15 w => S.v P (Instr.loadAt 28 t15) (fun t16 w => S.v P (Instr.sliceAt 28 t16 (some (Go.Value.int
    Go.IntKind.i64 1)) none none) (fun t17 w => S.v P (S.nilC a0) (fun t18 w => S.v P (Instr.fieldAt 81 t18 0) (fun t19 w => S.u P (Instr.storeAt 28 t19 t17)
    (fun w => S.v P (S.nilC a0) (fun t21 w => S.v P (Instr.fieldAt 81 t21 1) (fun t22 w => S.v P (Instr.loadAt 2 t22) (fun t23 w => S.v P (S.bin Go.BinOp.add 2
    (Go.Operand.tmp 23) (Go.Operand.const (Go.Value.int Go.IntKind.i64 1)) t23 (Go.Value.int Go.IntKind.i64 1)) (fun t24 w => S.v P (S.nilC a0) (fun t25 w =>
    S.v P (Instr.fieldAt 81 t25 1) (fun t26 w => S.u P (Instr.storeAt 2 t26 t24) (fun w => I [t11] w) w) w) w) w) w) w) w) w) w) w) w) w) w) w) (K (.tuple #[])
    w)) w) w) w) w) w) w) w) w) w) → I [x11] w) [undef] w
theorem F63_chk : chkFn Try.f63 (bodyOf Try.f63) [0, 11] [(0, { ord := (.step 0 true (.step 1 true (.step 2 true (.step 3 true (.step 4 true (.step 5 true (.step 6 true (.step 7 true (.step 8 true (.step 9 true .fin)))))))))), flags := [], held := false, init := true })] 1 = true := by kernel_rfl
theorem F63_eq (a0 : Value) (K : Value → World → Prop) (w : World) : F63 Try.prog a0 K w = denFn Try.prog (has ents) [(0, { ord := (.step 0 true (.step 1 true (.step 2 true (.step 3 true (.step 4 true (.step 5 true (.step 6 true (.step 7 true (.step 8 true (.step 9 true .fin)))))))))), flags := [], held := false, init := true })] [0, 11] (bodyOf Try.f63) Try.f63.results.toList [a0] K w := by kernel_rfl
theorem F63_link {a0 : Value} {K : Value → World → Prop} {w : World} (h : F63 Try.prog a0 K w) : S.call Try.prog 63 [a0] K w :=
  calls_of_den entOk mixOk Try.func63 rfl F63_chk (Eq.mp (F63_eq a0 K w) h)
/-- internal/stringslite.Index -/
def F64 (P : Program) (a0 a1 : Value) (K : Value → World → Prop) (w : World) : Prop :=
  S.v P (Builtin.len_ #[9] 3 #[a1]) (fun t15 w => S.v P (S.bin Go.BinOp.eql 3 (Go.Operand.tmp 17) (Go.Operand.const (Go.Value.int Go.IntKind.i64 0)) t15
    (Go.Value.int Go.IntKind.i64 0)) (fun t18 w => br t18 (K (Go.Value.int Go.IntKind.i64 0) w) (S.v P (S.bin Go.BinOp.eql 9 (Go.Operand.tmp 20)
    (Go.Operand.tmp 21) a1 a0) (fun t22 w => br t22 (K (Go.Value.int Go.IntKind.i64 0) w) (S.v P (S.bin Go.BinOp.eql 3 (Go.Operand.tmp 25) (Go.Operand.const
    (Go.Value.int Go.IntKind.i64 1)) t15 (Go.Value.int Go.IntKind.i64 1)) (fun t26 w => br t26 (S.v P (Instr.index 9 a1 (Go.Value.int Go.IntKind.i64 0)) (fun
    t29 w => S.call P 69 [a0, t29] (fun t30 w => K t30 w) w) w) (S.v P (Builtin.len_ #[9] 3 #[a0]) (fun t34 w => S.v P (S.bin Go.BinOp.geq 3 (Go.Operand.tmp
    32) (Go.Operand.tmp 34) t15 t34) (fun t35 w => br t35 (K (Go.Value.int Go.IntKind.i64 (-1)) w) (S.v P (Instr.loadAt 3 (Go.Value.pointer (some ⟨0, 0,
    none⟩))) (fun t38 w => S.v P (S.bin Go.BinOp.leq 3 (Go.Operand.tmp 37) (Go.Operand.tmp 38) t15 t38) (fun t39 w => br t39 (S.v P (Builtin.len_ #[9] 3 #[a0])
    (fun t42 w => S.v P (S.bin Go.BinOp.leq 3 (Go.Operand.tmp 42) (Go.Operand.const (Go.Value.int Go.IntKind.i64 64)) t42 (Go.Value.int Go.IntKind.i64 64))
    (fun t43 w => br t43 (S.nx P (callFunc 70 #[a0, a1]) (fun t47 w => K t47 w) w) (S.v P (Instr.index 9 a1 (Go.Value.int Go.IntKind.i64 0)) (fun t49 w => S.v
    P (Instr.index 9 a1 (Go.Value.int Go.IntKind.i64 1)) (fun t51 w => S.v P (Builtin.len_ #[9] 3 #[a0]) (fun t53 w => S.v P (S.bin Go.BinOp.sub 3
    (Go.Operand.tmp 53) (Go.Operand.tmp 54) t53 t15) (fun t55 w => S.v P (S.bin Go.BinOp.add 3 (Go.Operand.tmp 55) (Go.Operand.const (Go.Value.int
    Go.IntKind.i64 1)) t55 (Go.Value.int Go.IntKind.i64 1)) (fun t56 w => S.loop (fun I => ∀ (x4 : Value) (x8 : Value) (x10 : Value) (x11 : Value) (x12 :
    Value) (x13 : Value) (x59 : Value) (x64 : Value) (x73 : Value) (x93 : Value) (x107 : Value) (x114 : Value) (x132 : Value) (x139 : Value) (w : World), (S.v
    P (S.bin Go.BinOp.lss 3 (Go.Operand.tmp 57) (Go.Operand.tmp 58) x8 t56) (fun t59 w => br t59 (S.seq (fun vs w => S.v P (S.bin Go.BinOp.add 3
    (Go.Operand.tmp 79) (Go.Operand.const (Go.Value.int Go.IntKind.i64 1)) (nth vs 1) (Go.Value.int Go.IntKind.i64 1)) (fun t80 w => S.v P (Instr.index 9 a0
    t80) (fun t81 w => S.v P (S.bin Go.BinOp.eql 5 (Go.Operand.tmp 81) (Go.Operand.tmp 82) t81 t51) (fun t83 w => br t83 (S.v P (S.bin Go.BinOp.add 3
    (Go.Operand.tmp 87) (Go.Operand.tmp 88) (nth vs 1) t15) (fun t89 w => S.v P (Instr.sliceAt 9 a0 (some (nth vs 1)) (some t89) none) (fun t90 w => S.v P
    (S.bin Go.BinOp.eql 9 (Go.Operand.tmp 90) (Go.Operand.tmp 91) t90 a1) (fun t92 w => br t92 (K (nth vs 1) w) (S.v P (S.bin Go.BinOp.add 3 (Go.Operand.tmp
    95) (Go.Operand.const (Go.Value.int Go.IntKind.i64 1)) (nth vs 1) (Go.Value.int Go.IntKind.i64 1)) (fun t96 w => S.v P (S.bin Go.BinOp.add 3
    (Go.Operand.tmp 97) (Go.Operand.const (Go.Value.int Go.IntKind.i64 1)) x10 (Go.Value.int Go.IntKind.i64 1)) (fun t98 w => S.v P (Instr.loadAt 3
    (Go.Value.pointer (some ⟨0, 0, none⟩))) (fun t100 w => S.v P (S.bin Go.BinOp.leq 3 (Go.Operand.tmp 99) (Go.Operand.tmp 100) t15 t100) (fun t101 w => br
    t101 (S.call P 71 [t96] (fun t105 w => S.v P (S.bin Go.BinOp.gtr 3 (Go.Operand.tmp 103) (Go.Operand.tmp 105) t98 t105) (fun t106 w => br t106 (S.v P
    (Instr.sliceAt 9 a0 (some t96) none none) (fun t110 w => S.nx P (callFunc 70 #[t110, a1]) (fun t112 w => S.v P (S.bin Go.BinOp.geq 3 (Go.Operand.tmp 113)
    (Go.Operand.const (Go.Value.int Go.IntKind.i64 0)) t112 (Go.Value.int Go.IntKind.i64 0)) (fun t114 w => br t114 (S.v P (S.bin Go.BinOp.add 3
    (Go.Operand.tmp 115) (Go.Operand.tmp 116) t112 t96) (fun t117 w => K t117 w) w) (K (Go.Value.int Go.IntKind.i64 (-1)) w)) w) w) w) (S.v P (Instr.loadAt 3
    (Go.Value.pointer (some ⟨0, 0, none⟩))) (fun t119 w => S.v P (S.bin Go.BinOp.gtr 3 (Go.Operand.tmp 118) (Go.Operand.tmp 119) t15 t119) (fun t120 w => br
    t120 (S.v P (S.bin Go.BinOp.shr 3 (Go.Operand.tmp 123) (Go.Operand.const (Go.Value.int Go.IntKind.u64 4)) t96 (Go.Value.int Go.IntKind.u64 4)) (fun t124 w
    => S.v P (S.bin Go.BinOp.add 3 (Go.Operand.const (Go.Value.int Go.IntKind.i64 4)) (Go.Operand.tmp 124) (Go.Value.int Go.IntKind.i64 4) t124) (fun t125 w =>
    S.v P (S.bin Go.BinOp.geq 3 (Go.Operand.tmp 122) (Go.Operand.tmp 125) t98 t125) (fun t126 w => br t126 (S.v P (S.bin Go.BinOp.lss 3 (Go.Operand.tmp 129)
    (Go.Operand.tmp 130) t96 t56) (fun t131 w => br t131 (S.v P (Instr.sliceAt 9 a0 (some t96) none none) (fun t135 w => S.call P 72 [t135, a1] (fun t137 w =>
    S.v P (S.bin Go.BinOp.lss 3 (Go.Operand.tmp 138) (Go.Operand.const (Go.Value.int Go.IntKind.i64 0)) t137 (Go.Value.int Go.IntKind.i64 0)) (fun t139 w => br
    t139 (K (Go.Value.int Go.IntKind.i64 (-1)) w) (S.v P (S.bin Go.BinOp.add 3 (Go.Operand.tmp 140) (Go.Operand.tmp 141) t96 t137) (fun t142 w => K t142 w) w))
    w) w) w) (I [(nth vs 0), t96, t98, (nth vs 2), x12, x13, t59, (nth vs 3), (nth vs 4), t92, t106, x114, t131, x139] w)) w) (I [(nth vs 0), t96, t98, (nth vs
    2), x12, x13, t59, (nth vs 3), (nth vs 4), t92, t106, x114, (Go.Value.bool false), x139] w)) w) w) w) (I [(nth vs 0), t96, t98, (nth vs 2), x12, x13, t59,
    (nth vs 3), (nth vs 4), t92, t106, x114, (Go.Value.bool false), x139] w)) w) w)) w) w) (S.v P (Instr.loadAt 3 (Go.Value.pointer (some ⟨0, 0, none⟩))) (fun
    t119_1 w => S.v P (S.bin Go.BinOp.gtr 3 (Go.Operand.tmp 118) (Go.Operand.tmp 119) t15 t119_1) (fun t120_1 w => br t120_1 (S.v P (S.bin Go.BinOp.shr 3
    (Go.Operand.tmp 123) (Go.Operand.const (Go.Value.int Go.IntKind.u64 4)) t96 (Go.Value.int Go.IntKind.u64 4)) (fun t124_1 w => S.v P (S.bin Go.BinOp.add 3
    (Go.Operand.const (Go.Value.int Go.IntKind.i64 4)) (Go.Operand.tmp 124) (Go.Value.int Go.IntKind.i64 4) t124_1) (fun t125_1 w => S.v P (S.bin Go.BinOp.geq
    3 (Go.Operand.tmp 122) (Go.Operand.tmp 125) t98 t125_1) (fun t126_1 w => br t126_1 (S.v P (S.bin Go.BinOp.lss 3 (Go.Operand.tmp 129) (Go.Operand.tmp 130)
    t96 t56) (fun t131_1 w => br t131_1 (S.v P (Instr.sliceAt 9 a0 (some t96) none none) (fun t135_1 w => S.call P 72 [t135_1, a1] (fun t137_1 w => S.v P
    (S.bin Go.BinOp.lss 3 (Go.Operand.tmp 138) (Go.Operand.const (Go.Value.int Go.IntKind.i64 0)) t137_1 (Go.Value.int Go.IntKind.i64 0)) (fun t139_1 w => br
    t139_1 (K (Go.Value.int Go.IntKind.i64 (-1)) w) (S.v P (S.bin Go.BinOp.add 3 (Go.Operand.tmp 140) (Go.Operand.tmp 141) t96 t137_1) (fun t142_1 w => K
    t142_1 w) w)) w) w) w) (I [(nth vs 0), t96, t98, (nth vs 2), x12, x13, t59, (nth vs 3), (nth vs 4), t92, (Go.Value.bool false), x114, t131_1, x139] w)) w)
    (I [(nth vs 0), t96, t98, (nth vs 2), x12, x13, t59, (nth vs 3), (nth vs 4), t92, (Go.Value.bool false), x114, (Go.Value.bool false), x139] w)) w) w) w) (I
    [(nth vs 0), t96, t98, (nth vs 2), x12, x13, t59, (nth vs 3), (nth vs 4), t92, (Go.Value.bool false), x114, (Go.Value.bool false), x139] w)) w) w)) w) w)
    w) w)) w) w) w) (S.v P (S.bin Go.BinOp.add 3 (Go.Operand.tmp 95) (Go.Operand.const (Go.Value.int Go.IntKind.i64 1)) (nth vs 1) (Go.Value.int Go.IntKind.i64
    1)) (fun t96_1 w => S.v P (S.bin Go.BinOp.add 3 (Go.Operand.tmp 97) (Go.Operand.const (Go.Value.int Go.IntKind.i64 1)) x10 (Go.Value.int Go.IntKind.i64 1))
    (fun t98_1 w => S.v P (Instr.loadAt 3 (Go.Value.pointer (some ⟨0, 0, none⟩))) (fun t100_1 w => S.v P (S.bin Go.BinOp.leq 3 (Go.Operand.tmp 99)
    (Go.Operand.tmp 100) t15 t100_1) (fun t101_1 w => br t101_1 (S.call P 71 [t96_1] (fun t105_1 w => S.v P (S.bin Go.BinOp.gtr 3 (Go.Operand.tmp 103)
    (Go.Operand.tmp 105) t98_1 t105_1) (fun t106_1 w => br t106_1 (S.v P (Instr.sliceAt 9 a0 (some t96_1) none none) (fun t110_1 w => S.nx P (callFunc 70
    #[t110_1, a1]) (fun t112_1 w => S.v P (S.bin Go.BinOp.geq 3 (Go.Operand.tmp 113) (Go.Operand.const (Go.Value.int Go.IntKind.i64 0)) t112_1 (Go.Value.int
    Go.IntKind.i64 0)) (fun t114_1 w => br t114_1 (S.v P (S.bin Go.BinOp.add 3 (Go.Operand.tmp 115) (Go.Operand.tmp 116) t112_1 t96_1) (fun t117_1 w => K
    t117_1 w) w) (K (Go.Value.int Go.IntKind.i64 (-1)) w)) w) w) w) (S.v P (Instr.loadAt 3 (Go.Value.pointer (some ⟨0, 0, none⟩))) (fun t119_2 w => S.v P
    (S.bin Go.BinOp.gtr 3 (Go.Operand.tmp 118) (Go.Operand.tmp 119) t15 t119_2) (fun t120_2 w => br t120_2 (S.v P (S.bin Go.BinOp.shr 3 (Go.Operand.tmp 123)
    (Go.Operand.const (Go.Value.int Go.IntKind.u64 4)) t96_1 (Go.Value.int Go.IntKind.u64 4)) (fun t124_2 w => S.v P (S.bin Go.BinOp.add 3 (Go.Operand.const
    (Go.Value.int Go.IntKind.i64 4)) (Go.Operand.tmp 124) (Go.Value.int Go.IntKind.i64 4) t124_2) (fun t125_2 w => S.v P (S.bin Go.BinOp.geq 3 (Go.Operand.tmp
    122) (Go.Operand.tmp 125) t98_1 t125_2) (fun t126_2 w => br t126_2 (S.v P (S.bin Go.BinOp.lss 3 (Go.Operand.tmp 129) (Go.Operand.tmp 130) t96_1 t56) (fun
    t131_2 w => br t131_2 (S.v P (Instr.sliceAt 9 a0 (some t96_1) none none) (fun t135_2 w => S.call P 72 [t135_2, a1] (fun t137_2 w => S.v P (S.bin
    Go.BinOp.lss 3 (Go.Operand.tmp 138) (Go.Operand.const (Go.Value.int Go.IntKind.i64 0)) t137_2 (Go.Value.int Go.IntKind.i64 0)) (fun t139_2 w => br t139_2
    (K (Go.Value.int Go.IntKind.i64 (-1)) w) (S.v P (S.bin Go.BinOp.add 3 (Go.Operand.tmp 140) (Go.Operand.tmp 141) t96_1 t137_2) (fun t142_2 w => K t142_2 w)
    w)) w) w) w) (I [(nth vs 0), t96_1, t98_1, (nth vs 2), x12, x13, t59, (nth vs 3), (nth vs 4), (Go.Value.bool false), t106_1, x114, t131_2, x139] w)) w) (I
    [(nth vs 0), t96_1, t98_1, (nth vs 2), x12, x13, t59, (nth vs 3), (nth vs 4), (Go.Value.bool false), t106_1, x114, (Go.Value.bool false), x139] w)) w) w)
    w) (I [(nth vs 0), t96_1, t98_1, (nth vs 2), x12, x13, t59, (nth vs 3), (nth vs 4), (Go.Value.bool false), t106_1, x114, (Go.Value.bool false), x139] w))
    w) w)) w) w) (S.v P (Instr.loadAt 3 (Go.Value.pointer (some ⟨0, 0, none⟩))) (fun t119_3 w => S.v P (S.bin Go.BinOp.gtr 3 (Go.Operand.tmp 118)
    (Go.Operand.tmp 119) t15 t119_3) (fun t120_3 w => br t120_3 (S.v P (S.bin Go.BinOp.shr 3 (Go.Operand.tmp 123) (Go.Operand.const (Go.Value.int
    Go.IntKind.u64 4)) t96_1 (Go.Value.int Go.IntKind.u64 4)) (fun t124_3 w => S.v P (S.bin Go.BinOp.add 3 (Go.Operand.const (Go.Value.int Go.IntKind.i64 4))
    (Go.Operand.tmp 124) (Go.Value.int Go.IntKind.i64 4) t124_3) (fun t125_3 w => S.v P (S.bin Go.BinOp.geq 3 (Go.Operand.tmp 122) (Go.Operand.tmp 125) t98_1
    t125_3) (fun t126_3 w => br t126_3 (S.v P (S.bin Go.BinOp.lss 3 (Go.Operand.tmp 129) (Go.Operand.tmp 130) t96_1 t56) (fun t131_3 w => br t131_3 (S.v P
    (Instr.sliceAt 9 a0 (some t96_1) none none) (fun t135_3 w => S.call P 72 [t135_3, a1] (fun t137_3 w => S.v P (S.bin Go.BinOp.lss 3 (Go.Operand.tmp 138)
    (Go.Operand.const (Go.Value.int Go.IntKind.i64 0)) t137_3 (Go.Value.int Go.IntKind.i64 0)) (fun t139_3 w => br t139_3 (K (Go.Value.int Go.IntKind.i64 (-1))
    w) (S.v P (S.bin Go.BinOp.add 3 (Go.Operand.tmp 140) (Go.Operand.tmp 141) t96_1 t137_3) (fun t142_3 w => K t142_3 w) w)) w) w) w) (I [(nth vs 0), t96_1,
    t98_1, (nth vs 2), x12, x13, t59, (nth vs 3), (nth vs 4), (Go.Value.bool false), (Go.Value.bool false), x114, t131_3, x139] w)) w) (I [(nth vs 0), t96_1,
    t98_1, (nth vs 2), x12, x13, t59, (nth vs 3), (nth vs 4), (Go.Value.bool false), (Go.Value.bool false), x114, (Go.Value.bool false), x139] w)) w) w) w) (I
    [(nth vs 0), t96_1, t98_1, (nth vs 2), x12, x13, t59, (nth vs 3), (nth vs 4), (Go.Value.bool false), (Go.Value.bool false), x114, (Go.Value.bool false),
    x139] w)) w) w)) w) w) w) w)) w) w) w) (fun J => S.v P (Instr.index 9 a0 x8) (fun t62 w => S.v P (S.bin Go.BinOp.neq 5 (Go.Operand.tmp 62) (Go.Operand.tmp
    63) t62 t49) (fun t64 w => br t64 (S.v P (S.bin Go.BinOp.add 3 (Go.Operand.tmp 66) (Go.Operand.const (Go.Value.int Go.IntKind.i64 1)) x8 (Go.Value.int
    Go.IntKind.i64 1)) (fun t67 w => S.v P (Instr.sliceAt 9 a0 (some t67) (some t56) none) (fun t69 w => S.call P 69 [t69, t49] (fun t71 w => S.v P (S.bin
    Go.BinOp.lss 3 (Go.Operand.tmp 72) (Go.Operand.const (Go.Value.int Go.IntKind.i64 0)) t71 (Go.Value.int Go.IntKind.i64 0)) (fun t73 w => br t73 (K
    (Go.Value.int Go.IntKind.i64 (-1)) w) (S.v P (S.bin Go.BinOp.add 3 (Go.Operand.tmp 75) (Go.Operand.const (Go.Value.int Go.IntKind.i64 1)) t71 (Go.Value.int
    Go.IntKind.i64 1)) (fun t76 w => S.v P (S.bin Go.BinOp.add 3 (Go.Operand.tmp 74) (Go.Operand.tmp 76) x8 t76) (fun t77 w => J [x4, t77, t71, t64, t73] w) w)
    w)) w) w) w) w) (J [x4, x8, x11, t64, x73] w)) w) w)) (K (Go.Value.int Go.IntKind.i64 (-1)) w)) w) → I [x4, x8, x10, x11, x12, x13, x59, x64, x73, x93,
    x107, x114, x132, x139] w) [(Go.Value.int Go.IntKind.i64 0), (Go.Value.int Go.IntKind.i64 0), (Go.Value.int Go.IntKind.i64 0), undef, undef, undef, undef,
    undef, undef, undef, undef, undef, undef, undef] w) w) w) w) w) w)) w) w) (S.v P (Instr.index 9 a1 (Go.Value.int Go.IntKind.i64 0)) (fun t49_1 w => S.v P
    (Instr.index 9 a1 (Go.Value.int Go.IntKind.i64 1)) (fun t51_1 w => S.v P (Builtin.len_ #[9] 3 #[a0]) (fun t53_1 w => S.v P (S.bin Go.BinOp.sub 3
    (Go.Operand.tmp 53) (Go.Operand.tmp 54) t53_1 t15) (fun t55_1 w => S.v P (S.bin Go.BinOp.add 3 (Go.Operand.tmp 55) (Go.Operand.const (Go.Value.int
    Go.IntKind.i64 1)) t55_1 (Go.Value.int Go.IntKind.i64 1)) (fun t56_1 w => S.loop (fun I_1 => ∀ (x4_1 : Value) (x8_1 : Value) (x10_1 : Value) (x11_1 :
    Value) (x12_1 : Value) (x13_1 : Value) (x59_1 : Value) (x64_1 : Value) (x73_1 : Value) (x93_1 : Value) (x107_1 : Value) (x114_1 : Value) (x132_1 : Value)
    (x139_1 : Value) (w : World), (S.v P (S.bin Go.BinOp.lss 3 (Go.Operand.tmp 57) (Go.Operand.tmp 58) x8_1 t56_1) (fun t59_1 w => br t59_1 (S.seq (fun vs_1 w
    => S.v P (S.bin Go.BinOp.add 3 (Go.Operand.tmp 79) (Go.Operand.const (Go.Value.int Go.IntKind.i64 1)) (nth vs_1 1) (Go.Value.int Go.IntKind.i64 1)) (fun
    t80_1 w => S.v P (Instr.index 9 a0 t80_1) (fun t81_1 w => S.v P (S.bin Go.BinOp.eql 5 (Go.Operand.tmp 81) (Go.Operand.tmp 82) t81_1 t51_1) (fun t83_1 w =>
    br t83_1 (S.v P (S.bin Go.BinOp.add 3 (Go.Operand.tmp 87) (Go.Operand.tmp 88) (nth vs_1 1) t15) (fun t89_1 w => S.v P (Instr.sliceAt 9 a0 (some (nth vs_1
    1)) (some t89_1) none) (fun t90_1 w => S.v P (S.bin Go.BinOp.eql 9 (Go.Operand.tmp 90) (Go.Operand.tmp 91) t90_1 a1) (fun t92_1 w => br t92_1 (K (nth vs_1
    1) w) (S.v P (S.bin Go.BinOp.add 3 (Go.Operand.tmp 95) (Go.Operand.const (Go.Value.int Go.IntKind.i64 1)) (nth vs_1 1) (Go.Value.int Go.IntKind.i64 1))
    (fun t96_2 w => S.v P (S.bin Go.BinOp.add 3 (Go.Operand.tmp 97) (Go.Operand.const (Go.Value.int Go.IntKind.i64 1)) x10_1 (Go.Value.int Go.IntKind.i64 1))
    (fun t98_2 w => S.v P (Instr.loadAt 3 (Go.Value.pointer (some ⟨0, 0, none⟩))) (fun t100_2 w => S.v P (S.bin Go.BinOp.leq 3 (Go.Operand.tmp 99)
    (Go.Operand.tmp 100) t15 t100_2) (fun t101_2 w => br t101_2 (S.call P 71 [t96_2] (fun t105_2 w => S.v P (S.bin Go.BinOp.gtr 3 (Go.Operand.tmp 103)
    (Go.Operand.tmp 105) t98_2 t105_2) (fun t106_2 w => br t106_2 (S.v P (Instr.sliceAt 9 a0 (some t96_2) none none) (fun t110_2 w => S.nx P (callFunc 70
    #[t110_2, a1]) (fun t112_2 w => S.v P (S.bin Go.BinOp.geq 3 (Go.Operand.tmp 113) (Go.Operand.const (Go.Value.int Go.IntKind.i64 0)) t112_2 (Go.Value.int
    Go.IntKind.i64 0)) (fun t114_2 w => br t114_2 (S.v P (S.bin Go.BinOp.add 3 (Go.Operand.tmp 115) (Go.Operand.tmp 116) t112_2 t96_2) (fun t117_2 w => K
    t117_2 w) w) (K (Go.Value.int Go.IntKind.i64 (-1)) w)) w) w) w) (S.v P (Instr.loadAt 3 (Go.Value.pointer (some ⟨0, 0, none⟩))) (fun t119_4 w => S.v P
    (S.bin Go.BinOp.gtr 3 (Go.Operand.tmp 118) (Go.Operand.tmp 119) t15 t119_4) (fun t120_4 w => br t120_4 (S.v P (S.bin Go.BinOp.shr 3 (Go.Operand.tmp 123)
    (Go.Operand.const (Go.Value.int Go.IntKind.u64 4)) t96_2 (Go.Value.int Go.IntKind.u64 4)) (fun t124_4 w => S.v P (S.bin Go.BinOp.add 3 (Go.Operand.const
    (Go.Value.int Go.IntKind.i64 4)) (Go.Operand.tmp 124) (Go.Value.int Go.IntKind.i64 4) t124_4) (fun t125_4 w => S.v P (S.bin Go.BinOp.geq 3 (Go.Operand.tmp
    122) (Go.Operand.tmp 125) t98_2 t125_4) (fun t126_4 w => br t126_4 (S.v P (S.bin Go.BinOp.lss 3 (Go.Operand.tmp 129) (Go.Operand.tmp 130) t96_2 t56_1) (fun
    t131_4 w => br t131_4 (S.v P (Instr.sliceAt 9 a0 (some t96_2) none none) (fun t135_4 w => S.call P 72 [t135_4, a1] (fun t137_4 w => S.v P (S.bin
    Go.BinOp.lss 3 (Go.Operand.tmp 138) (Go.Operand.const (Go.Value.int Go.IntKind.i64 0)) t137_4 (Go.Value.int Go.IntKind.i64 0)) (fun t139_4 w => br t139_4
    (K (Go.Value.int Go.IntKind.i64 (-1)) w) (S.v P (S.bin Go.BinOp.add 3 (Go.Operand.tmp 140) (Go.Operand.tmp 141) t96_2 t137_4) (fun t142_4 w => K t142_4 w)
    w)) w) w) w) (I_1 [(nth vs_1 0), t96_2, t98_2, (nth vs_1 2), x12_1, x13_1, t59_1, (nth vs_1 3), (nth vs_1 4), t92_1, t106_2, x114_1, t131_4, x139_1] w)) w)
    (I_1 [(nth vs_1 0), t96_2, t98_2, (nth vs_1 2), x12_1, x13_1, t59_1, (nth vs_1 3), (nth vs_1 4), t92_1, t106_2, x114_1, (Go.Value.bool false), x139_1] w))
    w) w) w) (I_1 [(nth vs_1 0), t96_2, t98_2, (nth vs_1 2), x12_1, x13_1, t59_1, (nth vs_1 3), (nth vs_1 4), t92_1, t106_2, x114_1, (Go.Value.bool false),
    x139_1] w)) w) w)) w) w) (S.v P (Instr.loadAt 3 (Go.Value.pointer (some ⟨0, 0, none⟩))) (fun t119_5 w => S.v P (S.bin Go.BinOp.gtr 3 (Go.Operand.tmp 118)
    (Go.Operand.tmp 119) t15 t119_5) (fun t120_5 w => br t120_5 (S.v P (S.bin Go.BinOp.shr 3 (Go.Operand.tmp 123) (Go.Operand.const (Go.Value.int
    Go.IntKind.u64 4)) t96_2 (Go.Value.int Go.IntKind.u64 4)) (fun t124_5 w => S.v P (S.bin Go.BinOp.add 3 (Go.Operand.const (Go.Value.int Go.IntKind.i64 4))
    (Go.Operand.tmp 124) (Go.Value.int Go.IntKind.i64 4) t124_5) (fun t125_5 w => S.v P (S.bin Go.BinOp.geq 3 (Go.Operand.tmp 122) (Go.Operand.tmp 125) t98_2
    t125_5) (fun t126_5 w => br t126_5 (S.v P (S.bin Go.BinOp.lss 3 (Go.Operand.tmp 129) (Go.Operand.tmp 130) t96_2 t56_1) (fun t131_5 w => br t131_5 (S.v P
    (Instr.sliceAt 9 a0 (some t96_2) none none) (fun t135_5 w => S.call P 72 [t135_5, a1] (fun t137_5 w => S.v P (S.bin Go.BinOp.lss 3 (Go.Operand.tmp 138)
    (Go.Operand.const (Go.Value.int Go.IntKind.i64 0)) t137_5 (Go.Value.int Go.IntKind.i64 0)) (fun t139_5 w => br t139_5 (K (Go.Value.int Go.IntKind.i64 (-1))
    w) (S.v P (S.bin Go.BinOp.add 3 (Go.Operand.tmp 140) (Go.Operand.tmp 141) t96_2 t137_5) (fun t142_5 w => K t142_5 w) w)) w) w) w) (I_1 [(nth vs_1 0),
    t96_2, t98_2, (nth vs_1 2), x12_1, x13_1, t59_1, (nth vs_1 3), (nth vs_1 4), t92_1, (Go.Value.bool false), x114_1, t131_5, x139_1] w)) w) (I_1 [(nth vs_1
    0), t96_2, t98_2, (nth vs_1 2), x12_1, x13_1, t59_1, (nth vs_1 3), (nth vs_1 4), t92_1, (Go.Value.bool false), x114_1, (Go.Value.bool false), x139_1] w))
    w) w) w) (I_1 [(nth vs_1 0), t96_2, t98_2, (nth vs_1 2), x12_1, x13_1, t59_1, (nth vs_1 3), (nth vs_1 4), t92_1, (Go.Value.bool false), x114_1,
    (Go.Value.bool false), x139_1] w)) w) w)) w) w) w) w)) w) w) w) (S.v P (S.bin Go.BinOp.add 3 (Go.Operand.tmp 95) (Go.Operand.const (Go.Value.int
    Go.IntKind.i64 1)) (nth vs_1 1) (Go.Value.int Go.IntKind.i64 1)) (fun t96_3 w => S.v P (S.bin Go.BinOp.add 3 (Go.Operand.tmp 97) (Go.Operand.const
    (Go.Value.int Go.IntKind.i64 1)) x10_1 (Go.Value.int Go.IntKind.i64 1)) (fun t98_3 w => S.v P (Instr.loadAt 3 (Go.Value.pointer (some ⟨0, 0, none⟩))) (fun
    t100_3 w => S.v P (S.bin Go.BinOp.leq 3 (Go.Operand.tmp 99) (Go.Operand.tmp 100) t15 t100_3) (fun t101_3 w => br t101_3 (S.call P 71 [t96_3] (fun t105_3 w
    => S.v P (S.bin Go.BinOp.gtr 3 (Go.Operand.tmp 103) (Go.Operand.tmp 105) t98_3 t105_3) (fun t106_3 w => br t106_3 (S.v P (Instr.sliceAt 9 a0 (some t96_3)
    none none) (fun t110_3 w => S.nx P (callFunc 70 #[t110_3, a1]) (fun t112_3 w => S.v P (S.bin Go.BinOp.geq 3 (Go.Operand.tmp 113) (Go.Operand.const
    (Go.Value.int Go.IntKind.i64 0)) t112_3 (Go.Value.int Go.IntKind.i64 0)) (fun t114_3 w => br t114_3 (S.v P (S.bin Go.BinOp.add 3 (Go.Operand.tmp 115)
    (Go.Operand.tmp 116) t112_3 t96_3) (fun t117_3 w => K t117_3 w) w) (K (Go.Value.int Go.IntKind.i64 (-1)) w)) w) w) w) (S.v P (Instr.loadAt 3
    (Go.Value.pointer (some ⟨0, 0, none⟩))) (fun t119_6 w => S.v P (S.bin Go.BinOp.gtr 3 (Go.Operand.tmp 118) (Go.Operand.tmp 119) t15 t119_6) (fun t120_6 w =>
    br t120_6 (S.v P (S.bin Go.BinOp.shr 3 (Go.Operand.tmp 123) (Go.Operand.const (Go.Value.int Go.IntKind.u64 4)) t96_3 (Go.Value.int Go.IntKind.u64 4)) (fun
    t124_6 w => S.v P (S.bin Go.BinOp.add 3 (Go.Operand.const (Go.Value.int Go.IntKind.i64 4)) (Go.Operand.tmp 124) (Go.Value.int Go.IntKind.i64 4) t124_6)
    (fun t125_6 w => S.v P (S.bin Go.BinOp.geq 3 (Go.Operand.tmp 122) (Go.Operand.tmp 125) t98_3 t125_6) (fun t126_6 w => br t126_6 (S.v P (S.bin Go.BinOp.lss
    3 (Go.Operand.tmp 129) (Go.Operand.tmp 130) t96_3 t56_1) (fun t131_6 w => br t131_6 (S.v P (Instr.sliceAt 9 a0 (some t96_3) none none) (fun t135_6 w =>
    S.call P 72 [t135_6, a1] (fun t137_6 w => S.v P (S.bin Go.BinOp.lss 3 (Go.Operand.tmp 138) (Go.Operand.const (Go.Value.int Go.IntKind.i64 0)) t137_6
    (Go.Value.int Go.IntKind.i64 0)) (fun t139_6 w => br t139_6 (K (Go.Value.int Go.IntKind.i64 (-1)) w) (S.v P (S.bin Go.BinOp.add 3 (Go.Operand.tmp 140)
    (Go.Operand.tmp 141) t96_3 t137_6) (fun t142_6 w => K t142_6 w) w)) w) w) w) (I_1 [(nth vs_1 0), t96_3, t98_3, (nth vs_1 2), x12_1, x13_1, t59_1, (nth vs_1
    3), (nth vs_1 4), (Go.Value.bool false), t106_3, x114_1, t131_6, x139_1] w)) w) (I_1 [(nth vs_1 0), t96_3, t98_3, (nth vs_1 2), x12_1, x13_1, t59_1, (nth
    vs_1 3), (nth vs_1 4), (Go.Value.bool false), t106_3, x114_1, (Go.Value.bool false), x139_1] w)) w) w) w) (I_1 [(nth vs_1 0), t96_3, t98_3, (nth vs_1 2),
    x12_1, x13_1, t59_1, (nth vs_1 3), (nth vs_1 4), (Go.Value.bool false), t106_3, x114_1, (Go.Value.bool false), x139_1] w)) w) w)) w) w) (S.v P
    (Instr.loadAt 3 (Go.Value.pointer (some ⟨0, 0, none⟩))) (fun t119_7 w => S.v P (S.bin Go.BinOp.gtr 3 (Go.Operand.tmp 118) (Go.Operand.tmp 119) t15 t119_7)
    (fun t120_7 w => br t120_7 (S.v P (S.bin Go.BinOp.shr 3 (Go.Operand.tmp 123) (Go.Operand.const (Go.Value.int Go.IntKind.u64 4)) t96_3 (Go.Value.int
    Go.IntKind.u64 4)) (fun t124_7 w => S.v P (S.bin Go.BinOp.add 3 (Go.Operand.const (Go.Value.int Go.IntKind.i64 4)) (Go.Operand.tmp 124) (Go.Value.int
    Go.IntKind.i64 4) t124_7) (fun t125_7 w => S.v P (S.bin Go.BinOp.geq 3 (Go.Operand.tmp 122) (Go.Operand.tmp 125) t98_3 t125_7) (fun t126_7 w => br t126_7
    (S.v P (S.bin Go.BinOp.lss 3 (Go.Operand.tmp 129) (Go.Operand.tmp 130) t96_3 t56_1) (fun t131_7 w => br t131_7 (S.v P (Instr.sliceAt 9 a0 (some t96_3) none
    none) (fun t135_7 w => S.call P 72 [t135_7, a1] (fun t137_7 w => S.v P (S.bin Go.BinOp.lss 3 (Go.Operand.tmp 138) (Go.Operand.const (Go.Value.int
    Go.IntKind.i64 0)) t137_7 (Go.Value.int Go.IntKind.i64 0)) (fun t139_7 w => br t139_7 (K (Go.Value.int Go.IntKind.i64 (-1)) w) (S.v P (S.bin Go.BinOp.add 3
    (Go.Operand.tmp 140) (Go.Operand.tmp 141) t96_3 t137_7) (fun t142_7 w => K t142_7 w) w)) w) w) w) (I_1 [(nth vs_1 0), t96_3, t98_3, (nth vs_1 2), x12_1,
    x13_1, t59_1, (nth vs_1 3), (nth vs_1 4), (Go.Value.bool false), (Go.Value.bool false), x114_1, t131_7, x139_1] w)) w) (I_1 [(nth vs_1 0), t96_3, t98_3,
    (nth vs_1 2), x12_1, x13_1, t59_1, (nth vs_1 3), (nth vs_1 4), (Go.Value.bool false), (Go.Value.bool false), x114_1, (Go.Value.bool false), x139_1] w)) w)
    w) w) (I_1 [(nth vs_1 0), t96_3, t98_3, (nth vs_1 2), x12_1, x13_1, t59_1, (nth vs_1 3), (nth vs_1 4), (Go.Value.bool false), (Go.Value.bool false),
    x114_1, (Go.Value.bool false), x139_1] w)) w) w)) w) w) w) w)) w) w) w) (fun J_1 => S.v P (Instr.index 9 a0 x8_1) (fun t62_1 w => S.v P (S.bin Go.BinOp.neq
    5 (Go.Operand.tmp 62) (Go.Operand.tmp 63) t62_1 t49_1) (fun t64_1 w => br t64_1 (S.v P (S.bin Go.BinOp.add 3 (Go.Operand.tmp 66) (Go.Operand.const
    (Go.Value.int Go.IntKind.i64 1)) x8_1 (Go.Value.int Go.IntKind.i64 1)) (fun t67_1 w => S.v P (Instr.sliceAt 9 a0 (some t67_1) (some t56_1) none) (fun t69_1
    w => S.call P 69 [t69_1, t49_1] (fun t71_1 w => S.v P (S.bin Go.BinOp.lss 3 (Go.Operand.tmp 72) (Go.Operand.const (Go.Value.int Go.IntKind.i64 0)) t71_1
    (Go.Value.int Go.IntKind.i64 0)) (fun t73_1 w => br t73_1 (K (Go.Value.int Go.IntKind.i64 (-1)) w) (S.v P (S.bin Go.BinOp.add 3 (Go.Operand.tmp 75)
    (Go.Operand.const (Go.Value.int Go.IntKind.i64 1)) t71_1 (Go.Value.int Go.IntKind.i64 1)) (fun t76_1 w => S.v P (S.bin Go.BinOp.add 3 (Go.Operand.tmp 74)
    (Go.Operand.tmp 76) x8_1 t76_1) (fun t77_1 w => J_1 [x4_1, t77_1, t71_1, t64_1, t73_1] w) w) w)) w) w) w) w) (J_1 [x4_1, x8_1, x11_1, t64_1, x73_1] w)) w)
    w)) (K (Go.Value.int Go.IntKind.i64 (-1)) w)) w) → I_1 [x4_1, x8_1, x10_1, x11_1, x12_1, x13_1, x59_1, x64_1, x73_1, x93_1, x107_1, x114_1, x132_1, x139_1]
    w) [(Go.Value.int Go.IntKind.i64 0), (Go.Value.int Go.IntKind.i64 0), (Go.Value.int Go.IntKind.i64 0), undef, undef, undef, undef, undef, undef, undef,
    undef, undef, undef, undef] w) w) w) w) w) w)) w) w)) w) w)) w)) w)) w) w
theorem F64_chk : chkFn Try.f64 (bodyOf Try.f64) [0, 1, 4, 5, 6, 7, 8, 9, 10, 11, 12, 13, 16, 24, 31, 36, 59, 64, 73, 93, 107, 114, 132, 139] [] 2 = true := by kernel_rfl
theorem F64_eq (a0 a1 : Value) (K : Value → World → Prop) (w : World) : F64 Try.prog a0 a1 K w = denFn Try.prog (has ents) [] [0, 1, 4, 5, 6, 7, 8, 9, 10, 11, 12, 13, 16, 24, 31, 36, 59, 64, 73, 93, 107, 114, 132, 139] (bodyOf Try.f64) Try.f64.results.toList [a0, a1] K w := by kernel_rfl
theorem F64_link {a0 a1 : Value} {K : Value → World → Prop} {w : World} (h : F64 Try.prog a0 a1 K w) : S.call Try.prog 64 [a0, a1] K w :=
  calls_of_den entOk mixOk Try.func64 rfl F64_chk (Eq.mp (F64_eq a0 a1 K w) h)
/-- strings.LastIndex -/
def F65 (P : Program) (a0 a1 : Value) (K : Value → World → Prop) (w : World) : Prop :=
  S.v P (Builtin.len_ #[9] 3 #[a1]) (fun t7 w => S.v P (S.bin Go.BinOp.eql 3 (Go.Operand.tmp 9) (Go.Operand.const (Go.Value.int Go.IntKind.i64 0)) t7
    (Go.Value.int Go.IntKind.i64 0)) (fun t10 w => br t10 (S.v P (Builtin.len_ #[9] 3 #[a0]) (fun t12 w => K t12 w) w) (S.v P (S.bin Go.BinOp.eql 3
    (Go.Operand.tmp 14) (Go.Operand.const (Go.Value.int Go.IntKind.i64 1)) t7 (Go.Value.int Go.IntKind.i64 1)) (fun t15 w => br t15 (S.v P (Instr.index 9 a1
    (Go.Value.int Go.IntKind.i64 0)) (fun t18 w => S.call P 73 [a0, t18] (fun t19 w => K t19 w) w) w) (S.v P (Builtin.len_ #[9] 3 #[a0]) (fun t23 w => S.v P
    (S.bin Go.BinOp.eql 3 (Go.Operand.tmp 21) (Go.Operand.tmp 23) t7 t23) (fun t24 w => br t24 (S.v P (S.bin Go.BinOp.eql 9 (Go.Operand.tmp 25) (Go.Operand.tmp
    26) a1 a0) (fun t27 w => br t27 (K (Go.Value.int Go.IntKind.i64 0) w) (K (Go.Value.int Go.IntKind.i64 (-1)) w)) w) (S.v P (Builtin.len_ #[9] 3 #[a0]) (fun
    t31 w => S.v P (S.bin Go.BinOp.gtr 3 (Go.Operand.tmp 29) (Go.Operand.tmp 31) t7 t31) (fun t32 w => br t32 (K (Go.Value.int Go.IntKind.i64 (-1)) w) (S.call
    P 74 [a0, a1] (fun t35 w => K t35 w) w)) w) w)) w) w)) w)) w) w
theorem F65_chk : chkFn Try.f65 (bodyOf Try.f65) [0, 1, 4, 5, 8, 13, 20, 27, 28] [] 2 = true := by kernel_rfl
theorem F65_eq (a0 a1 : Value) (K : Value → World → Prop) (w : World) : F65 Try.prog a0 a1 K w = denFn Try.prog (has ents) [] [0, 1, 4, 5, 8, 13, 20, 27, 28] (bodyOf Try.f65) Try.f65.results.toList [a0, a1] K w := by kernel_rfl
theorem F65_link {a0 a1 : Value} {K : Value → World → Prop} {w : World} (h : F65 Try.prog a0 a1 K w) : S.call Try.prog 65 [a0, a1] K w :=
  calls_of_den entOk mixOk Try.func65 rfl F65_chk (Eq.mp (F65_eq a0 a1 K w) h)
/-- (*lanyard/lanyardref10.List).is -/
def F66 (P : Program) (a0 a1 : Value) (K : Value → World → Prop) (w : World) : Prop :=
  S.v P (S.bin Go.BinOp.geq 3 (Go.Operand.tmp 5) (Go.Operand.const (Go.Value.int Go.IntKind.i64 0)) a1 (Go.Value.int Go.IntKind.i64 0)) (fun t6 w => br t6 (S.v P
    (S.nilC a0) (fun t10 w => S.v P (Instr.fieldAt 81 t10 0) (fun t11 w => S.v P (Instr.loadAt 28 t11) (fun t12 w => S.v P (Builtin.len_ #[28] 3 #[t12]) (fun
    t13 w => S.v P (S.bin Go.BinOp.lss 3 (Go.Operand.tmp 8) (Go.Operand.tmp 13) a1 t13) (fun t14 w => K t14 w) w) w) w) w) w) (K (Go.Value.bool false) w)) w
theorem F66_chk : chkFn Try.f66 (bodyOf Try.f66) [0, 1, 4] [] 2 = true := by kernel_rfl
theorem F66_eq (a0 a1 : Value) (K : Value → World → Prop) (w : World) : F66 Try.prog a0 a1 K w = denFn Try.prog (has ents) [] [0, 1, 4] (bodyOf Try.f66) Try.f66.results.toList [a0, a1] K w := by kernel_rfl
theorem F66_link {a0 a1 : Value} {K : Value → World → Prop} {w : World} (h : F66 Try.prog a0 a1 K w) : S.call Try.prog 66 [a0, a1] K w :=
  calls_of_den entOk mixOk Try.func66 rfl F66_chk (Eq.mp (F66_eq a0 a1 K w) h)
/-- lanyard/lanyardref10.last -/
def F67 (P : Program) (a0 a1 : Value) (K : Value → World → Prop) (w : World) : Prop :=
  S.v P (Builtin.len_ #[9] 3 #[a0]) (fun t7 w => S.v P (Builtin.len_ #[9] 3 #[a1]) (fun t9 w => S.v P (S.bin Go.BinOp.sub 3 (Go.Operand.tmp 7) (Go.Operand.tmp 9)
    t7 t9) (fun t10 w => S.loop (fun I => ∀ (x4 : Value) (x5 : Value) (x12 : Value) (x23 : Value) (w : World), (S.v P (S.bin Go.BinOp.geq 3 (Go.Operand.tmp 11)
    (Go.Operand.const (Go.Value.int Go.IntKind.i64 0)) x5 (Go.Value.int Go.IntKind.i64 0)) (fun t12 w => br t12 (S.v P (Builtin.len_ #[9] 3 #[a1]) (fun t19 w
    => S.v P (S.bin Go.BinOp.add 3 (Go.Operand.tmp 17) (Go.Operand.tmp 19) x5 t19) (fun t20 w => S.v P (Instr.sliceAt 9 a0 (some x5) (some t20) none) (fun t21
    w => S.v P (S.bin Go.BinOp.eql 9 (Go.Operand.tmp 21) (Go.Operand.tmp 22) t21 a1) (fun t23 w => br t23 (K x5 w) (S.v P (S.bin Go.BinOp.sub 3 (Go.Operand.tmp
    13) (Go.Operand.const (Go.Value.int Go.IntKind.i64 1)) x5 (Go.Value.int Go.IntKind.i64 1)) (fun t14 w => I [x4, t14, t12, t23] w) w)) w) w) w) w) (K
    (Go.Value.int Go.IntKind.i64 (-1)) w)) w) → I [x4, x5, x12, x23] w) [(Go.Value.int Go.IntKind.i64 0), t10, undef, undef] w) w) w) w
theorem F67_chk : chkFn Try.f67 (bodyOf Try.f67) [0, 1, 4, 5, 12, 23] [] 2 = true := by kernel_rfl
theorem F67_eq (a0 a1 : Value) (K : Value → World → Prop) (w : World) : F67 Try.prog a0 a1 K w = denFn Try.prog (has ents) [] [0, 1, 4, 5, 12, 23] (bodyOf Try.f67) Try.f67.results.toList [a0, a1] K w := by kernel_rfl
theorem F67_link {a0 a1 : Value} {K : Value → World → Prop} {w : World} (h : F67 Try.prog a0 a1 K w) : S.call Try.prog 67 [a0, a1] K w :=
  calls_of_den entOk mixOk Try.func67 rfl F67_chk (Eq.mp (F67_eq a0 a1 K w) h)
/-- lanyard/lanyardref10.first -/
def F68 (P : Program) (a0 a1 : Value) (K : Value → World → Prop) (w : World) : Prop :=
  S.loop (fun I => ∀ (x4 : Value) (x5 : Value) (x12 : Value) (x23 : Value) (w : World), (S.v P (Builtin.len_ #[9] 3 #[a0]) (fun t8 w => S.v P (Builtin.len_ #[9]
    3 #[a1]) (fun t10 w => S.v P (S.bin Go.BinOp.sub 3 (Go.Operand.tmp 8) (Go.Operand.tmp 10) t8 t10) (fun t11 w => S.v P (S.bin Go.BinOp.leq 3 (Go.Operand.tmp
    6) (Go.Operand.tmp 11) x5 t11) (fun t12 w => br t12 (S.v P (Builtin.len_ #[9] 3 #[a1]) (fun t19 w => S.v P (S.bin Go.BinOp.add 3 (Go.Operand.tmp 17)
    (Go.Operand.tmp 19) x5 t19) (fun t20 w => S.v P (Instr.sliceAt 9 a0 (some x5) (some t20) none) (fun t21 w => S.v P (S.bin Go.BinOp.eql 9 (Go.Operand.tmp
    21) (Go.Operand.tmp 22) t21 a1) (fun t23 w => br t23 (K x5 w) (S.v P (S.bin Go.BinOp.add 3 (Go.Operand.tmp 13) (Go.Operand.const (Go.Value.int
    Go.IntKind.i64 1)) x5 (Go.Value.int Go.IntKind.i64 1)) (fun t14 w => I [x4, t14, t12, t23] w) w)) w) w) w) w) (K (Go.Value.int Go.IntKind.i64 (-1)) w)) w)
    w) w) w) → I [x4, x5, x12, x23] w) [(Go.Value.int Go.IntKind.i64 0), (Go.Value.int Go.IntKind.i64 0), undef, undef] w
theorem F68_chk : chkFn Try.f68 (bodyOf Try.f68) [0, 1, 4, 5, 12, 23] [] 2 = true := by kernel_rfl
theorem F68_eq (a0 a1 : Value) (K : Value → World → Prop) (w : World) : F68 Try.prog a0 a1 K w = denFn Try.prog (has ents) [] [0, 1, 4, 5, 12, 23] (bodyOf Try.f68) Try.f68.results.toList [a0, a1] K w := by kernel_rfl
theorem F68_link {a0 a1 : Value} {K : Value → World → Prop} {w : World} (h : F68 Try.prog a0 a1 K w) : S.call Try.prog 68 [a0, a1] K w :=
  calls_of_den entOk mixOk Try.func68 rfl F68_chk (Eq.mp (F68_eq a0 a1 K w) h)
/-- internal/stringslite.IndexByte -/
def F69 (P : Program) (a0 a1 : Value) (K : Value → World → Prop) (w : World) : Prop :=
  S.nx P (callFunc 75 #[a0, a1]) (fun t7 w => K t7 w) w
theorem F69_chk : chkFn Try.f69 (bodyOf Try.f69) [0, 1, 4] [] 2 = true := by kernel_rfl
theorem F69_eq (a0 a1 : Value) (K : Value → World → Prop) (w : World) : F69 Try.prog a0 a1 K w = denFn Try.prog (has ents) [] [0, 1, 4] (bodyOf Try.f69) Try.f69.results.toList [a0, a1] K w := by kernel_rfl
theorem F69_link {a0 a1 : Value} {K : Value → World → Prop} {w : World} (h : F69 Try.prog a0 a1 K w) : S.call Try.prog 69 [a0, a1] K w :=
  calls_of_den entOk mixOk Try.func69 rfl F69_chk (Eq.mp (F69_eq a0 a1 K w) h)
/-- internal/bytealg.Cutover -/
def F71 (P : Program) (a0 : Value) (K : Value → World → Prop) (w : World) : Prop :=
  S.v P (S.bin Go.BinOp.add 3 (Go.Operand.tmp 3) (Go.Operand.const (Go.Value.int Go.IntKind.i64 16)) a0 (Go.Value.int Go.IntKind.i64 16)) (fun t4 w => S.v P
    (S.bin Go.BinOp.quo 3 (Go.Operand.tmp 4) (Go.Operand.const (Go.Value.int Go.IntKind.i64 8)) t4 (Go.Value.int Go.IntKind.i64 8)) (fun t5 w => K t5 w) w) w
theorem F71_chk : chkFn Try.f71 (bodyOf Try.f71) [0, 2] [] 1 = true := by kernel_rfl
theorem F71_eq (a0 : Value) (K : Value → World → Prop) (w : World) : F71 Try.prog a0 K w = denFn Try.prog (has ents) [] [0, 2] (bodyOf Try.f71) Try.f71.results.toList [a0] K w := by kernel_rfl
theorem F71_link {a0 : Value} {K : Value → World → Prop} {w : World} (h : F71 Try.prog a0 K w) : S.call Try.prog 71 [a0] K w :=
  calls_of_den entOk mixOk Try.func71 rfl F71_chk (Eq.mp (F71_eq a0 K w) h)
/-- internal/bytealg.IndexRabinKarp[string] -/
def F72 (P : Program) (a0 a1 : Value) (K : Value → World → Prop) (w : World) : Prop :=
  S.call P 76 [a1] (fun t13 w => S.v P (Instr.extract t13 0) (fun t14 w => S.v P (Instr.extract t13 1) (fun t15 w => S.v P (Builtin.len_ #[9] 3 #[a1]) (fun t17 w
    => S.loop (fun I => ∀ (x8 : Value) (x9 : Value) (x20 : Value) (w : World), (S.v P (S.bin Go.BinOp.lss 3 (Go.Operand.tmp 18) (Go.Operand.tmp 19) x9 t17)
    (fun t20 w => br t20 (S.v P (S.bin Go.BinOp.mul 114 (Go.Operand.tmp 23) (Go.Operand.const (Go.Value.int Go.IntKind.u32 16777619)) x8 (Go.Value.int
    Go.IntKind.u32 16777619)) (fun t24 w => S.v P (Instr.index 9 a0 x9) (fun t27 w => S.v P (Go.convert 5 114 t27) (fun t28 w => S.v P (S.bin Go.BinOp.add 114
    (Go.Operand.tmp 24) (Go.Operand.tmp 28) t24 t28) (fun t29 w => S.v P (S.bin Go.BinOp.add 3 (Go.Operand.tmp 21) (Go.Operand.const (Go.Value.int
    Go.IntKind.i64 1)) x9 (Go.Value.int Go.IntKind.i64 1)) (fun t22 w => I [t29, t22, t20] w) w) w) w) w) w) (S.v P (S.bin Go.BinOp.eql 114 (Go.Operand.tmp 30)
    (Go.Operand.tmp 31) x8 t14) (fun t32 w => br t32 (S.v P (Instr.sliceAt 9 a0 none (some t17) none) (fun t36 w => S.v P (S.bin Go.BinOp.eql 9 (Go.Operand.tmp
    36) (Go.Operand.tmp 37) t36 a1) (fun t38 w => br t38 (K (Go.Value.int Go.IntKind.i64 0) w) (S.loop (fun I_1 => ∀ (x4 : Value) (x8_1 : Value) (x10 : Value)
    (x44 : Value) (x77 : Value) (w : World), (S.v P (Builtin.len_ #[9] 3 #[a0]) (fun t43 w => S.v P (S.bin Go.BinOp.lss 3 (Go.Operand.tmp 41) (Go.Operand.tmp
    43) x10 t43) (fun t44 w => br t44 (S.v P (S.bin Go.BinOp.mul 114 (Go.Operand.tmp 45) (Go.Operand.const (Go.Value.int Go.IntKind.u32 16777619)) x8_1
    (Go.Value.int Go.IntKind.u32 16777619)) (fun t46 w => S.v P (Instr.index 9 a0 x10) (fun t50 w => S.v P (Go.convert 5 114 t50) (fun t51 w => S.v P (S.bin
    Go.BinOp.add 114 (Go.Operand.tmp 47) (Go.Operand.tmp 51) t46 t51) (fun t52 w => S.v P (S.bin Go.BinOp.sub 3 (Go.Operand.tmp 56) (Go.Operand.tmp 57) x10
    t17) (fun t58 w => S.v P (Instr.index 9 a0 t58) (fun t59 w => S.v P (Go.convert 5 114 t59) (fun t60 w => S.v P (S.bin Go.BinOp.mul 114 (Go.Operand.tmp 54)
    (Go.Operand.tmp 60) t15 t60) (fun t61 w => S.v P (S.bin Go.BinOp.sub 114 (Go.Operand.tmp 53) (Go.Operand.tmp 61) t52 t61) (fun t62 w => S.v P (S.bin
    Go.BinOp.add 3 (Go.Operand.tmp 63) (Go.Operand.const (Go.Value.int Go.IntKind.i64 1)) x10 (Go.Value.int Go.IntKind.i64 1)) (fun t64 w => S.v P (S.bin
    Go.BinOp.eql 114 (Go.Operand.tmp 65) (Go.Operand.tmp 66) t62 t14) (fun t67 w => br t67 (S.v P (S.bin Go.BinOp.sub 3 (Go.Operand.tmp 70) (Go.Operand.tmp 71)
    t64 t17) (fun t72 w => S.v P (Instr.sliceAt 9 a0 (some t72) (some t64) none) (fun t74 w => S.v P (S.bin Go.BinOp.eql 9 (Go.Operand.tmp 74) (Go.Operand.tmp
    75) t74 a1) (fun t76 w => br t76 (S.v P (S.bin Go.BinOp.sub 3 (Go.Operand.tmp 78) (Go.Operand.tmp 79) t64 t17) (fun t80 w => K t80 w) w) (I_1 [x4, t62,
    t64, t44, t76] w)) w) w) w) (I_1 [x4, t62, t64, t44, (Go.Value.bool false)] w)) w) w) w) w) w) w) w) w) w) w) w) (K (Go.Value.int Go.IntKind.i64 (-1)) w))
    w) w) → I_1 [x4, x8_1, x10, x44, x77] w) [(Go.Value.int Go.IntKind.i64 0), x8, t17, undef, undef] w)) w) w) (S.loop (fun I_2 => ∀ (x4_1 : Value) (x8_2 :
    Value) (x10_1 : Value) (x44_1 : Value) (x77_1 : Value) (w : World), (S.v P (Builtin.len_ #[9] 3 #[a0]) (fun t43_1 w => S.v P (S.bin Go.BinOp.lss 3
    (Go.Operand.tmp 41) (Go.Operand.tmp 43) x10_1 t43_1) (fun t44_1 w => br t44_1 (S.v P (S.bin Go.BinOp.mul 114 (Go.Operand.tmp 45) (Go.Operand.const
    (Go.Value.int Go.IntKind.u32 16777619)) x8_2 (Go.Value.int Go.IntKind.u32 16777619)) (fun t46_1 w => S.v P (Instr.index 9 a0 x10_1) (fun t50_1 w => S.v P
    (Go.convert 5 114 t50_1) (fun t51_1 w => S.v P (S.bin Go.BinOp.add 114 (Go.Operand.tmp 47) (Go.Operand.tmp 51) t46_1 t51_1) (fun t52_1 w => S.v P (S.bin
    Go.BinOp.sub 3 (Go.Operand.tmp 56) (Go.Operand.tmp 57) x10_1 t17) (fun t58_1 w => S.v P (Instr.index 9 a0 t58_1) (fun t59_1 w => S.v P (Go.convert 5 114
    t59_1) (fun t60_1 w => S.v P (S.bin Go.BinOp.mul 114 (Go.Operand.tmp 54) (Go.Operand.tmp 60) t15 t60_1) (fun t61_1 w => S.v P (S.bin Go.BinOp.sub 114
    (Go.Operand.tmp 53) (Go.Operand.tmp 61) t52_1 t61_1) (fun t62_1 w => S.v P (S.bin Go.BinOp.add 3 (Go.Operand.tmp 63) (Go.Operand.const (Go.Value.int
    Go.IntKind.i64 1)) x10_1 (Go.Value.int Go.IntKind.i64 1)) (fun t64_1 w => S.v P (S.bin Go.BinOp.eql 114 (Go.Operand.tmp 65) (Go.Operand.tmp 66) t62_1 t14)
    (fun t67_1 w => br t67_1 (S.v P (S.bin Go.BinOp.sub 3 (Go.Operand.tmp 70) (Go.Operand.tmp 71) t64_1 t17) (fun t72_1 w => S.v P (Instr.sliceAt 9 a0 (some
    t72_1) (some t64_1) none) (fun t74_1 w => S.v P (S.bin Go.BinOp.eql 9 (Go.Operand.tmp 74) (Go.Operand.tmp 75) t74_1 a1) (fun t76_1 w => br t76_1 (S.v P
    (S.bin Go.BinOp.sub 3 (Go.Operand.tmp 78) (Go.Operand.tmp 79) t64_1 t17) (fun t80_1 w => K t80_1 w) w) (I_2 [x4_1, t62_1, t64_1, t44_1, t76_1] w)) w) w) w)
    (I_2 [x4_1, t62_1, t64_1, t44_1, (Go.Value.bool false)] w)) w) w) w) w) w) w) w) w) w) w) w) (K (Go.Value.int Go.IntKind.i64 (-1)) w)) w) w) → I_2 [x4_1,
    x8_2, x10_1, x44_1, x77_1] w) [(Go.Value.int Go.IntKind.i64 0), x8, t17, undef, undef] w)) w)) w) → I [x8, x9, x20] w) [(Go.Value.int Go.IntKind.u32 0),
    (Go.Value.int Go.IntKind.i64 0), undef] w) w) w) w) w
theorem F72_chk : chkFn Try.f72 (bodyOf Try.f72) [0, 1, 4, 5, 6, 7, 8, 9, 10, 20, 39, 44, 77] [] 2 = true := by kernel_rfl
theorem F72_eq (a0 a1 : Value) (K : Value → World → Prop) (w : World) : F72 Try.prog a0 a1 K w = denFn Try.prog (has ents) [] [0, 1, 4, 5, 6, 7, 8, 9, 10, 20, 39, 44, 77] (bodyOf Try.f72) Try.f72.results.toList [a0, a1] K w := by kernel_rfl
theorem F72_link {a0 a1 : Value} {K : Value → World → Prop} {w : World} (h : F72 Try.prog a0 a1 K w) : S.call Try.prog 72 [a0, a1] K w :=
  calls_of_den entOk mixOk Try.func72 rfl F72_chk (Eq.mp (F72_eq a0 a1 K w) h)
/-- internal/bytealg.LastIndexByteString -/
def F73 (P : Program) (a0 a1 : Value) (K : Value → World → Prop) (w : World) : Prop :=
  S.v P (Builtin.len_ #[9] 3 #[a0]) (fun t7 w => S.v P (S.bin Go.BinOp.sub 3 (Go.Operand.tmp 7) (Go.Operand.const (Go.Value.int Go.IntKind.i64 1)) t7
    (Go.Value.int Go.IntKind.i64 1)) (fun t8 w => S.loop (fun I => ∀ (x4 : Value) (x5 : Value) (x10 : Value) (x17 : Value) (w : World), (S.v P (S.bin
    Go.BinOp.geq 3 (Go.Operand.tmp 9) (Go.Operand.const (Go.Value.int Go.IntKind.i64 0)) x5 (Go.Value.int Go.IntKind.i64 0)) (fun t10 w => br t10 (S.v P
    (Instr.index 9 a0 x5) (fun t15 w => S.v P (S.bin Go.BinOp.eql 5 (Go.Operand.tmp 15) (Go.Operand.tmp 16) t15 a1) (fun t17 w => br t17 (K x5 w) (S.v P (S.bin
    Go.BinOp.sub 3 (Go.Operand.tmp 11) (Go.Operand.const (Go.Value.int Go.IntKind.i64 1)) x5 (Go.Value.int Go.IntKind.i64 1)) (fun t12 w => I [x4, t12, t10,
    t17] w) w)) w) w) (K (Go.Value.int Go.IntKind.i64 (-1)) w)) w) → I [x4, x5, x10, x17] w) [(Go.Value.int Go.IntKind.i64 0), t8, undef, undef] w) w) w
theorem F73_chk : chkFn Try.f73 (bodyOf Try.f73) [0, 1, 4, 5, 10, 17] [] 2 = true := by kernel_rfl
theorem F73_eq (a0 a1 : Value) (K : Value → World → Prop) (w : World) : F73 Try.prog a0 a1 K w = denFn Try.prog (has ents) [] [0, 1, 4, 5, 10, 17] (bodyOf Try.f73) Try.f73.results.toList [a0, a1] K w := by kernel_rfl
theorem F73_link {a0 a1 : Value} {K : Value → World → Prop} {w : World} (h : F73 Try.prog a0 a1 K w) : S.call Try.prog 73 [a0, a1] K w :=
  calls_of_den entOk mixOk Try.func73 rfl F73_chk (Eq.mp (F73_eq a0 a1 K w) h)
/-- internal/bytealg.LastIndexRabinKarp[string] -/
def F74 (P : Program) (a0 a1 : Value) (K : Value → World → Prop) (w : World) : Prop :=
  S.call P 77 [a1] (fun t14 w => S.v P (Instr.extract t14 0) (fun t15 w => S.v P (Instr.extract t14 1) (fun t16 w => S.v P (Builtin.len_ #[9] 3 #[a1]) (fun t18 w
    => S.v P (Builtin.len_ #[9] 3 #[a0]) (fun t20 w => S.v P (S.bin Go.BinOp.sub 3 (Go.Operand.tmp 20) (Go.Operand.tmp 21) t20 t18) (fun t22 w => S.v P
    (Builtin.len_ #[9] 3 #[a0]) (fun t24 w => S.v P (S.bin Go.BinOp.sub 3 (Go.Operand.tmp 24) (Go.Operand.const (Go.Value.int Go.IntKind.i64 1)) t24
    (Go.Value.int Go.IntKind.i64 1)) (fun t25 w => S.loop (fun I => ∀ (x9 : Value) (x10 : Value) (x28 : Value) (w : World), (S.v P (S.bin Go.BinOp.geq 3
    (Go.Operand.tmp 26) (Go.Operand.tmp 27) x10 t22) (fun t28 w => br t28 (S.v P (S.bin Go.BinOp.mul 114 (Go.Operand.tmp 31) (Go.Operand.const (Go.Value.int
    Go.IntKind.u32 16777619)) x9 (Go.Value.int Go.IntKind.u32 16777619)) (fun t32 w => S.v P (Instr.index 9 a0 x10) (fun t35 w => S.v P (Go.convert 5 114 t35)
    (fun t36 w => S.v P (S.bin Go.BinOp.add 114 (Go.Operand.tmp 32) (Go.Operand.tmp 36) t32 t36) (fun t37 w => S.v P (S.bin Go.BinOp.sub 3 (Go.Operand.tmp 29)
    (Go.Operand.const (Go.Value.int Go.IntKind.i64 1)) x10 (Go.Value.int Go.IntKind.i64 1)) (fun t30 w => I [t37, t30, t28] w) w) w) w) w) w) (S.v P (S.bin
    Go.BinOp.eql 114 (Go.Operand.tmp 38) (Go.Operand.tmp 39) x9 t15) (fun t40 w => br t40 (S.v P (Instr.sliceAt 9 a0 (some t22) none none) (fun t44 w => S.v P
    (S.bin Go.BinOp.eql 9 (Go.Operand.tmp 44) (Go.Operand.tmp 45) t44 a1) (fun t46 w => br t46 (K t22 w) (S.v P (S.bin Go.BinOp.sub 3 (Go.Operand.tmp 49)
    (Go.Operand.const (Go.Value.int Go.IntKind.i64 1)) t22 (Go.Value.int Go.IntKind.i64 1)) (fun t50 w => S.loop (fun I_1 => ∀ (x4 : Value) (x9_1 : Value) (x11
    : Value) (x52 : Value) (x85 : Value) (w : World), (S.v P (S.bin Go.BinOp.geq 3 (Go.Operand.tmp 51) (Go.Operand.const (Go.Value.int Go.IntKind.i64 0)) x11
    (Go.Value.int Go.IntKind.i64 0)) (fun t52 w => br t52 (S.v P (S.bin Go.BinOp.mul 114 (Go.Operand.tmp 55) (Go.Operand.const (Go.Value.int Go.IntKind.u32
    16777619)) x9_1 (Go.Value.int Go.IntKind.u32 16777619)) (fun t56 w => S.v P (Instr.index 9 a0 x11) (fun t60 w => S.v P (Go.convert 5 114 t60) (fun t61 w =>
    S.v P (S.bin Go.BinOp.add 114 (Go.Operand.tmp 57) (Go.Operand.tmp 61) t56 t61) (fun t62 w => S.v P (S.bin Go.BinOp.add 3 (Go.Operand.tmp 66)
    (Go.Operand.tmp 67) x11 t18) (fun t68 w => S.v P (Instr.index 9 a0 t68) (fun t69 w => S.v P (Go.convert 5 114 t69) (fun t70 w => S.v P (S.bin Go.BinOp.mul
    114 (Go.Operand.tmp 64) (Go.Operand.tmp 70) t16 t70) (fun t71 w => S.v P (S.bin Go.BinOp.sub 114 (Go.Operand.tmp 63) (Go.Operand.tmp 71) t62 t71) (fun t72
    w => S.v P (S.bin Go.BinOp.eql 114 (Go.Operand.tmp 73) (Go.Operand.tmp 74) t72 t15) (fun t75 w => br t75 (S.v P (S.bin Go.BinOp.add 3 (Go.Operand.tmp 79)
    (Go.Operand.tmp 80) x11 t18) (fun t81 w => S.v P (Instr.sliceAt 9 a0 (some x11) (some t81) none) (fun t82 w => S.v P (S.bin Go.BinOp.eql 9 (Go.Operand.tmp
    82) (Go.Operand.tmp 83) t82 a1) (fun t84 w => br t84 (K x11 w) (S.v P (S.bin Go.BinOp.sub 3 (Go.Operand.tmp 53) (Go.Operand.const (Go.Value.int
    Go.IntKind.i64 1)) x11 (Go.Value.int Go.IntKind.i64 1)) (fun t54 w => I_1 [x4, t72, t54, t52, t84] w) w)) w) w) w) (S.v P (S.bin Go.BinOp.sub 3
    (Go.Operand.tmp 53) (Go.Operand.const (Go.Value.int Go.IntKind.i64 1)) x11 (Go.Value.int Go.IntKind.i64 1)) (fun t54_1 w => I_1 [x4, t72, t54_1, t52,
    (Go.Value.bool false)] w) w)) w) w) w) w) w) w) w) w) w) w) (K (Go.Value.int Go.IntKind.i64 (-1)) w)) w) → I_1 [x4, x9_1, x11, x52, x85] w) [(Go.Value.int
    Go.IntKind.i64 0), x9, t50, undef, undef] w) w)) w) w) (S.v P (S.bin Go.BinOp.sub 3 (Go.Operand.tmp 49) (Go.Operand.const (Go.Value.int Go.IntKind.i64 1))
    t22 (Go.Value.int Go.IntKind.i64 1)) (fun t50_1 w => S.loop (fun I_2 => ∀ (x4_1 : Value) (x9_2 : Value) (x11_1 : Value) (x52_1 : Value) (x85_1 : Value) (w
    : World), (S.v P (S.bin Go.BinOp.geq 3 (Go.Operand.tmp 51) (Go.Operand.const (Go.Value.int Go.IntKind.i64 0)) x11_1 (Go.Value.int Go.IntKind.i64 0)) (fun
    t52_1 w => br t52_1 (S.v P (S.bin Go.BinOp.mul 114 (Go.Operand.tmp 55) (Go.Operand.const (Go.Value.int Go.IntKind.u32 16777619)) x9_2 (Go.Value.int
    Go.IntKind.u32 16777619)) (fun t56_1 w => S.v P (Instr.index 9 a0 x11_1) (fun t60_1 w => S.v P (Go.convert 5 114 t60_1) (fun t61_1 w => S.v P (S.bin
    Go.BinOp.add 114 (Go.Operand.tmp 57) (Go.Operand.tmp 61) t56_1 t61_1) (fun t62_1 w => S.v P (S.bin Go.BinOp.add 3 (Go.Operand.tmp 66) (Go.Operand.tmp 67)
    x11_1 t18) (fun t68_1 w => S.v P (Instr.index 9 a0 t68_1) (fun t69_1 w => S.v P (Go.convert 5 114 t69_1) (fun t70_1 w => S.v P (S.bin Go.BinOp.mul 114
    (Go.Operand.tmp 64) (Go.Operand.tmp 70) t16 t70_1) (fun t71_1 w => S.v P (S.bin Go.BinOp.sub 114 (Go.Operand.tmp 63) (Go.Operand.tmp 71) t62_1 t71_1) (fun
    t72_1 w => S.v P (S.bin Go.BinOp.eql 114 (Go.Operand.tmp 73) (Go.Operand.tmp 74) t72_1 t15) (fun t75_1 w => br t75_1 (S.v P (S.bin Go.BinOp.add 3
    (Go.Operand.tmp 79) (Go.Operand.tmp 80) x11_1 t18) (fun t81_1 w => S.v P (Instr.sliceAt 9 a0 (some x11_1) (some t81_1) none) (fun t82_1 w => S.v P (S.bin
    Go.BinOp.eql 9 (Go.Operand.tmp 82) (Go.Operand.tmp 83) t82_1 a1) (fun t84_1 w => br t84_1 (K x11_1 w) (S.v P (S.bin Go.BinOp.sub 3 (Go.Operand.tmp 53)
    (Go.Operand.const (Go.Value.int Go.IntKind.i64 1)) x11_1 (Go.Value.int Go.IntKind.i64 1)) (fun t54_2 w => I_2 [x4_1, t72_1, t54_2, t52_1, t84_1] w) w)) w)
    w) w) (S.v P (S.bin Go.BinOp.sub 3 (Go.Operand.tmp 53) (Go.Operand.const (Go.Value.int Go.IntKind.i64 1)) x11_1 (Go.Value.int Go.IntKind.i64 1)) (fun t54_3
    w => I_2 [x4_1, t72_1, t54_3, t52_1, (Go.Value.bool false)] w) w)) w) w) w) w) w) w) w) w) w) w) (K (Go.Value.int Go.IntKind.i64 (-1)) w)) w) → I_2 [x4_1,
    x9_2, x11_1, x52_1, x85_1] w) [(Go.Value.int Go.IntKind.i64 0), x9, t50_1, undef, undef] w) w)) w)) w) → I [x9, x10, x28] w) [(Go.Value.int Go.IntKind.u32
    0), t25, undef] w) w) w) w) w) w) w) w) w
theorem F74_chk : chkFn Try.f74 (bodyOf Try.f74) [0, 1, 4, 5, 6, 7, 8, 9, 10, 11, 28, 47, 52, 85] [] 2 = true := by kernel_rfl
theorem F74_eq (a0 a1 : Value) (K : Value → World → Prop) (w : World) : F74 Try.prog a0 a1 K w = denFn Try.prog (has ents) [] [0, 1, 4, 5, 6, 7, 8, 9, 10, 11, 28, 47, 52, 85] (bodyOf Try.f74) Try.f74.results.toList [a0, a1] K w := by kernel_rfl
theorem F74_link {a0 a1 : Value} {K : Value → World → Prop} {w : World} (h : F74 Try.prog a0 a1 K w) : S.call Try.prog 74 [a0, a1] K w :=
  calls_of_den entOk mixOk Try.func74 rfl F74_chk (Eq.mp (F74_eq a0 a1 K w) h)
/-- internal/bytealg.hashStr[string] -/
def F76 (P : Program) (a0 : Value) (K : Value → World → Prop) (w : World) : Prop :=
  S.loop (fun I => ∀ (x4 : Value) (x5 : Value) (x12 : Value) (w : World), (S.v P (Builtin.len_ #[9] 3 #[a0]) (fun t11 w => S.v P (S.bin Go.BinOp.lss 3
    (Go.Operand.tmp 9) (Go.Operand.tmp 11) x5 t11) (fun t12 w => br t12 (S.v P (S.bin Go.BinOp.mul 114 (Go.Operand.tmp 15) (Go.Operand.const (Go.Value.int
    Go.IntKind.u32 16777619)) x4 (Go.Value.int Go.IntKind.u32 16777619)) (fun t16 w => S.v P (Instr.index 9 a0 x5) (fun t19 w => S.v P (Go.convert 5 114 t19)
    (fun t20 w => S.v P (S.bin Go.BinOp.add 114 (Go.Operand.tmp 16) (Go.Operand.tmp 20) t16 t20) (fun t21 w => S.v P (S.bin Go.BinOp.add 3 (Go.Operand.tmp 13)
    (Go.Operand.const (Go.Value.int Go.IntKind.i64 1)) x5 (Go.Value.int Go.IntKind.i64 1)) (fun t14 w => I [t21, t14, t12] w) w) w) w) w) w) (S.v P
    (Builtin.len_ #[9] 3 #[a0]) (fun t23 w => S.loop (fun I_1 => ∀ (x6 : Value) (x7 : Value) (x8 : Value) (x25 : Value) (x30 : Value) (w : World), (S.v P
    (S.bin Go.BinOp.gtr 3 (Go.Operand.tmp 24) (Go.Operand.const (Go.Value.int Go.IntKind.i64 0)) x8 (Go.Value.int Go.IntKind.i64 0)) (fun t25 w => br t25
    (S.seq (fun vs w => S.v P (S.bin Go.BinOp.mul 114 (Go.Operand.tmp 34) (Go.Operand.tmp 35) x7 x7) (fun t36 w => S.v P (S.bin Go.BinOp.shr 3 (Go.Operand.tmp
    26) (Go.Operand.const (Go.Value.int Go.IntKind.u64 1)) x8 (Go.Value.int Go.IntKind.u64 1)) (fun t27 w => I_1 [(nth vs 0), t36, t27, t25, (nth vs 1)] w) w)
    w) (fun J => S.v P (S.bin Go.BinOp.and 3 (Go.Operand.tmp 28) (Go.Operand.const (Go.Value.int Go.IntKind.i64 1)) x8 (Go.Value.int Go.IntKind.i64 1)) (fun
    t29 w => S.v P (S.bin Go.BinOp.neq 3 (Go.Operand.tmp 29) (Go.Operand.const (Go.Value.int Go.IntKind.i64 0)) t29 (Go.Value.int Go.IntKind.i64 0)) (fun t30 w
    => br t30 (S.v P (S.bin Go.BinOp.mul 114 (Go.Operand.tmp 31) (Go.Operand.tmp 32) x6 x7) (fun t33 w => J [t33, t30] w) w) (J [x6, t30] w)) w) w)) (K (.tuple
    #[x4, x6]) w)) w) → I_1 [x6, x7, x8, x25, x30] w) [(Go.Value.int Go.IntKind.u32 1), (Go.Value.int Go.IntKind.u32 16777619), t23, undef, undef] w) w)) w) w)
    → I [x4, x5, x12] w) [(Go.Value.int Go.IntKind.u32 0), (Go.Value.int Go.IntKind.i64 0), undef] w
theorem F76_chk : chkFn Try.f76 (bodyOf Try.f76) [0, 2, 3, 4, 5, 6, 7, 8, 12, 25, 30] [] 1 = true := by kernel_rfl
theorem F76_eq (a0 : Value) (K : Value → World → Prop) (w : World) : F76 Try.prog a0 K w = denFn Try.prog (has ents) [] [0, 2, 3, 4, 5, 6, 7, 8, 12, 25, 30] (bodyOf Try.f76) Try.f76.results.toList [a0] K w := by kernel_rfl
theorem F76_link {a0 : Value} {K : Value → World → Prop} {w : World} (h : F76 Try.prog a0 K w) : S.call Try.prog 76 [a0] K w :=
  calls_of_den entOk mixOk Try.func76 rfl F76_chk (Eq.mp (F76_eq a0 K w) h)
/-- internal/bytealg.hashStrRev[string] -/
def F77 (P : Program) (a0 : Value) (K : Value → World → Prop) (w : World) : Prop :=
  S.v P (Builtin.len_ #[9] 3 #[a0]) (fun t10 w => S.v P (S.bin Go.BinOp.sub 3 (Go.Operand.tmp 10) (Go.Operand.const (Go.Value.int Go.IntKind.i64 1)) t10
    (Go.Value.int Go.IntKind.i64 1)) (fun t11 w => S.loop (fun I => ∀ (x4 : Value) (x5 : Value) (x13 : Value) (w : World), (S.v P (S.bin Go.BinOp.geq 3
    (Go.Operand.tmp 12) (Go.Operand.const (Go.Value.int Go.IntKind.i64 0)) x5 (Go.Value.int Go.IntKind.i64 0)) (fun t13 w => br t13 (S.v P (S.bin Go.BinOp.mul
    114 (Go.Operand.tmp 16) (Go.Operand.const (Go.Value.int Go.IntKind.u32 16777619)) x4 (Go.Value.int Go.IntKind.u32 16777619)) (fun t17 w => S.v P
    (Instr.index 9 a0 x5) (fun t20 w => S.v P (Go.convert 5 114 t20) (fun t21 w => S.v P (S.bin Go.BinOp.add 114 (Go.Operand.tmp 17) (Go.Operand.tmp 21) t17
    t21) (fun t22 w => S.v P (S.bin Go.BinOp.sub 3 (Go.Operand.tmp 14) (Go.Operand.const (Go.Value.int Go.IntKind.i64 1)) x5 (Go.Value.int Go.IntKind.i64 1))
    (fun t15 w => I [t22, t15, t13] w) w) w) w) w) w) (S.v P (Builtin.len_ #[9] 3 #[a0]) (fun t24 w => S.loop (fun I_1 => ∀ (x6 : Value) (x7 : Value) (x8 :
    Value) (x26 : Value) (x31 : Value) (w : World), (S.v P (S.bin Go.BinOp.gtr 3 (Go.Operand.tmp 25) (Go.Operand.const (Go.Value.int Go.IntKind.i64 0)) x8
    (Go.Value.int Go.IntKind.i64 0)) (fun t26 w => br t26 (S.seq (fun vs w => S.v P (S.bin Go.BinOp.mul 114 (Go.Operand.tmp 35) (Go.Operand.tmp 36) x7 x7) (fun
    t37 w => S.v P (S.bin Go.BinOp.shr 3 (Go.Operand.tmp 27) (Go.Operand.const (Go.Value.int Go.IntKind.u64 1)) x8 (Go.Value.int Go.IntKind.u64 1)) (fun t28 w
    => I_1 [(nth vs 0), t37, t28, t26, (nth vs 1)] w) w) w) (fun J => S.v P (S.bin Go.BinOp.and 3 (Go.Operand.tmp 29) (Go.Operand.const (Go.Value.int
    Go.IntKind.i64 1)) x8 (Go.Value.int Go.IntKind.i64 1)) (fun t30 w => S.v P (S.bin Go.BinOp.neq 3 (Go.Operand.tmp 30) (Go.Operand.const (Go.Value.int
    Go.IntKind.i64 0)) t30 (Go.Value.int Go.IntKind.i64 0)) (fun t31 w => br t31 (S.v P (S.bin Go.BinOp.mul 114 (Go.Operand.tmp 32) (Go.Operand.tmp 33) x6 x7)
    (fun t34 w => J [t34, t31] w) w) (J [x6, t31] w)) w) w)) (K (.tuple #[x4, x6]) w)) w) → I_1 [x6, x7, x8, x26, x31] w) [(Go.Value.int Go.IntKind.u32 1),
    (Go.Value.int Go.IntKind.u32 16777619), t24, undef, undef] w) w)) w) → I [x4, x5, x13] w) [(Go.Value.int Go.IntKind.u32 0), t11, undef] w) w) w
theorem F77_chk : chkFn Try.f77 (bodyOf Try.f77) [0, 2, 3, 4, 5, 6, 7, 8, 13, 26, 31] [] 1 = true := by kernel_rfl
theorem F77_eq (a0 : Value) (K : Value → World → Prop) (w : World) : F77 Try.prog a0 K w = denFn Try.prog (has ents) [] [0, 2, 3, 4, 5, 6, 7, 8, 13, 26, 31] (bodyOf Try.f77) Try.f77.results.toList [a0] K w := by kernel_rfl
theorem F77_link {a0 : Value} {K : Value → World → Prop} {w : World} (h : F77 Try.prog a0 K w) : S.call Try.prog 77 [a0] K w :=
  calls_of_den entOk mixOk Try.func77 rfl F77_chk (Eq.mp (F77_eq a0 K w) h)
end Go.Proofs.Ytbhgindbdojmmaa
