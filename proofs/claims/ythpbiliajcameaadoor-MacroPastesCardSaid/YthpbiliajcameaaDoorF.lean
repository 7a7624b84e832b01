import Derived.Test.YthpbiliajcameaaDoorFn
set_option linter.unusedVariables false
set_option maxRecDepth 100000
namespace Go.Proofs.YthpbiliajcameaaDoor
open Go Go.Fw Go.Proofs
/-- lanyard/lanyardlaw22.MacroPastes -/
def F3 (P : Program) (a0 : Value) (K : Value → World → Prop) (w : World) : Prop :=
  S.call P 6 [] (fun t14 w => S.v P (Instr.build 27 #[]) (fun t15 w => S.v P (Instr.box 27 t15) (fun t16 w => S.call P 7 [] (fun t17 w => S.v P (Op.unary
    Go.UnOp.not t17) (fun t18 w => br t18 (K (Go.Value.bool false) w) (S.v P (S.bin Go.BinOp.eql 23 (Go.Operand.tmp 20) (Go.Operand.const (Go.Value.pointer
    none)) t14 (Go.Value.pointer none)) (fun t21 w => br t21 (K (Go.Value.bool false) w) (S.v P (Builtin.len_ #[22] 3 #[a0]) (fun t24 w => S.loop (fun I => ∀
    (x2 : Value) (x6 : Value) (x7 : Value) (x8 : Value) (x9 : Value) (x10 : Value) (x25 : Value) (x26 : Value) (x48 : Value) (w : World), (S.v P (S.bin
    Go.BinOp.lss 3 (Go.Operand.tmp 25) (Go.Operand.tmp 24) x25 t24) (fun t26 w => br t26 (S.v P (Instr.indexAt 22 a0 x25) (fun t27 w => S.v P (Instr.loadAt 5
    t27) (fun t28 w => S.call P 8 [t14, t28] (fun t32 w => S.v P (Instr.extract t32 0) (fun t33 w => S.v P (Instr.extract t32 1) (fun t34 w => S.call P 9 [t16,
    t28] (fun t38 w => S.v P (Instr.extract t38 0) (fun t39 w => S.v P (Instr.extract t38 1) (fun t40 w => S.v P (S.bin Go.BinOp.neq 4 (Go.Operand.tmp 41)
    (Go.Operand.tmp 42) t33 t39) (fun t43 w => br t43 (K (Go.Value.bool false) w) (S.v P (S.bin Go.BinOp.neq 29 (Go.Operand.tmp 45) (Go.Operand.tmp 46) t34
    t40) (fun t47 w => br t47 (K (Go.Value.bool false) w) (S.v P (S.bin Go.BinOp.add 3 (Go.Operand.tmp 25) (Go.Operand.const (Go.Value.int Go.IntKind.i64 1))
    x25 (Go.Value.int Go.IntKind.i64 1)) (fun t49 w => I [x2, t28, t33, t34, t39, t40, t49, t26, t47] w) w)) w)) w) w) w) w) w) w) w) w) w) (S.loop (fun I_1 =>
    ∀ (x2_1 : Value) (x11 : Value) (x12 : Value) (x13 : Value) (x50 : Value) (x51 : Value) (x60 : Value) (x62 : Value) (x63 : Value) (x64 : Value) (x74 :
    Value) (w : World), (S.v P (S.bin Go.BinOp.lss 3 (Go.Operand.tmp 50) (Go.Operand.const (Go.Value.int Go.IntKind.i64 2)) x50 (Go.Value.int Go.IntKind.i64
    2)) (fun t51 w => br t51 (S.call P 10 [t14] (fun t53 w => S.call P 11 [t16] (fun t55 w => S.v P (Builtin.len_ #[32] 3 #[t53]) (fun t57 w => S.v P
    (Builtin.len_ #[32] 3 #[t55]) (fun t59 w => S.v P (S.bin Go.BinOp.neq 3 (Go.Operand.tmp 57) (Go.Operand.tmp 59) t57 t59) (fun t60 w => br t60 (K
    (Go.Value.bool false) w) (S.v P (Builtin.len_ #[32] 3 #[t53]) (fun t62 w => S.loop (fun I_2 => ∀ (x2_2 : Value) (x13_1 : Value) (x63_1 : Value) (x64_1 :
    Value) (x74_1 : Value) (w : World), (S.v P (S.bin Go.BinOp.lss 3 (Go.Operand.tmp 63) (Go.Operand.tmp 62) x63_1 t62) (fun t64 w => br t64 (S.drawn (fun w =>
    S.p P (Instr.indexAt 32 t53 x63_1) (fun t68 w => S.p P (Instr.loadAt 21 t68) (fun t69 w => S.p P (Instr.indexAt 32 t55 x63_1) (fun t72 w => S.p P
    (Instr.loadAt 21 t72) (fun t73 w => S.p P (S.bin Go.BinOp.neq 21 (Go.Operand.tmp 69) (Go.Operand.tmp 73) t69 t73) (fun t74 w => br t74 (K (Go.Value.bool
    false) w) (S.v P (Instr.indexAt 32 t53 x63_1) (fun t77 w => S.u P (Instr.storeAt 21 t77 (Go.Value.int Go.IntKind.i32 (-9))) (fun w => S.v P (S.bin
    Go.BinOp.add 3 (Go.Operand.tmp 63) (Go.Operand.const (Go.Value.int Go.IntKind.i64 1)) x63_1 (Go.Value.int Go.IntKind.i64 1)) (fun t78 w => I_2 [x2_2,
    x63_1, t78, t64, t74] w) w) w) w)) w) w) w) w) w) w) (S.v P (S.bin Go.BinOp.add 3 (Go.Operand.tmp 50) (Go.Operand.const (Go.Value.int Go.IntKind.i64 1))
    x50 (Go.Value.int Go.IntKind.i64 1)) (fun t79 w => I_1 [x2_2, t53, t55, x13_1, t79, t51, t60, t62, x63_1, t64, x74_1] w) w)) w) → I_2 [x2_2, x13_1, x63_1,
    x64_1, x74_1] w) [x2_1, x13, (Go.Value.int Go.IntKind.i64 0), x64, x74] w) w)) w) w) w) w) w) (K (Go.Value.bool true) w)) w) → I_1 [x2_1, x11, x12, x13,
    x50, x51, x60, x62, x63, x64, x74] w) [x2, undef, undef, undef, (Go.Value.int Go.IntKind.i64 0), undef, undef, undef, undef, undef, undef] w)) w) → I [x2,
    x6, x7, x8, x9, x10, x25, x26, x48] w) [(Go.Value.bool false), undef, undef, undef, undef, undef, (Go.Value.int Go.IntKind.i64 0), undef, undef] w) w)) w))
    w) w) w) w) w
theorem F3_chk : chkFn Tryd.f3 (bodyOf Tryd.f3) [0, 2, 3, 4, 6, 7, 8, 9, 10, 11, 12, 13, 22, 23, 24, 25, 26, 48, 50, 51, 60, 62, 63, 64, 74] [(21, { ord := (.step 0 true (.step 1 true (.step 2 true (.step 3 true (.step 4 true (.step 5 true (.step 6 true (.step 7 true (.step 8 true .fin))))))))), flags := [], held := false, init := true })] 1 = true := by kernel_rfl
theorem F3_eq (a0 : Value) (K : Value → World → Prop) (w : World) : F3 Tryd.prog a0 K w = denFn Tryd.prog (has ents) [(21, { ord := (.step 0 true (.step 1 true (.step 2 true (.step 3 true (.step 4 true (.step 5 true (.step 6 true (.step 7 true (.step 8 true .fin))))))))), flags := [], held := false, init := true })] [0, 2, 3, 4, 6, 7, 8, 9, 10, 11, 12, 13, 22, 23, 24, 25, 26, 48, 50, 51, 60, 62, 63, 64, 74] (bodyOf Tryd.f3) Tryd.f3.results.toList [a0] K w := by kernel_rfl
theorem F3_link {a0 : Value} {K : Value → World → Prop} {w : World} (h : F3 Tryd.prog a0 K w) : S.call Tryd.prog 3 [a0] K w :=
  calls_of_den entOk mixOk Tryd.func3 rfl F3_chk (Eq.mp (F3_eq a0 K w) h)
/-- lanyard/lanyardlaw22.MacroPlain -/
def F4 (P : Program) (a0 : Value) (K : Value → World → Prop) (w : World) : Prop :=
  S.call P 6 [] (fun t16 w => S.call P 7 [] (fun t17 w => S.v P (Op.unary Go.UnOp.not t17) (fun t18 w => br t18 (K (Go.Value.bool false) w) (S.v P (S.bin
    Go.BinOp.eql 23 (Go.Operand.tmp 20) (Go.Operand.const (Go.Value.pointer none)) t16 (Go.Value.pointer none)) (fun t21 w => br t21 (K (Go.Value.bool false)
    w) (S.v P (Builtin.len_ #[22] 3 #[a0]) (fun t24 w => S.v P (S.bin Go.BinOp.gtr 3 (Go.Operand.tmp 24) (Go.Operand.const (Go.Value.int Go.IntKind.i64 16378))
    t24 (Go.Value.int Go.IntKind.i64 16378)) (fun t25 w => br t25 (K (Go.Value.bool true) w) (S.v P (Builtin.len_ #[22] 3 #[a0]) (fun t27 w => S.loop (fun I =>
    ∀ (x2 : Value) (x4 : Value) (x6 : Value) (x7 : Value) (x8 : Value) (x9 : Value) (x28 : Value) (x29 : Value) (x50 : Value) (w : World), (S.v P (S.bin
    Go.BinOp.lss 3 (Go.Operand.tmp 28) (Go.Operand.tmp 27) x28 t27) (fun t29 w => br t29 (S.v P (Instr.indexAt 22 a0 x28) (fun t30 w => S.v P (Instr.loadAt 5
    t30) (fun t31 w => S.v P (S.bin Go.BinOp.rem 5 (Go.Operand.tmp 32) (Go.Operand.const (Go.Value.int Go.IntKind.u8 95)) t31 (Go.Value.int Go.IntKind.u8 95))
    (fun t33 w => S.v P (S.bin Go.BinOp.add 5 (Go.Operand.const (Go.Value.int Go.IntKind.u8 32)) (Go.Operand.tmp 33) (Go.Value.int Go.IntKind.u8 32) t33) (fun
    t34 w => S.v P (Go.convert 5 21 t34) (fun t37 w => S.v P (Go.convert 21 9 t37) (fun t38 w => S.v P (S.bin Go.BinOp.add 9 (Go.Operand.tmp 35)
    (Go.Operand.tmp 38) x4 t38) (fun t39 w => S.call P 8 [t16, t34] (fun t43 w => S.v P (Instr.extract t43 0) (fun t44 w => S.v P (Instr.extract t43 1) (fun
    t45 w => br t44 (K (Go.Value.bool false) w) (S.v P (S.bin Go.BinOp.neq 29 (Go.Operand.tmp 48) (Go.Operand.const (Go.Value.int Go.IntKind.i64 0)) t45
    (Go.Value.int Go.IntKind.i64 0)) (fun t49 w => br t49 (K (Go.Value.bool false) w) (S.v P (S.bin Go.BinOp.add 3 (Go.Operand.tmp 28) (Go.Operand.const
    (Go.Value.int Go.IntKind.i64 1)) x28 (Go.Value.int Go.IntKind.i64 1)) (fun t51 w => I [x2, t39, t31, t34, t44, t45, t51, t29, t49] w) w)) w)) w) w) w) w)
    w) w) w) w) w) w) (S.v P (Instr.buildSlice 22 6 #[(0, (Go.Value.int Go.IntKind.u8 27)), (1, (Go.Value.int Go.IntKind.u8 91)), (2, (Go.Value.int
    Go.IntKind.u8 50)), (3, (Go.Value.int Go.IntKind.u8 48)), (4, (Go.Value.int Go.IntKind.u8 49)), (5, (Go.Value.int Go.IntKind.u8 126))]) (fun t52 w => S.v P
    (Go.convert 22 22 t52) (fun t53 w => S.v P (Builtin.len_ #[22] 3 #[t53]) (fun t54 w => S.loop (fun I_1 => ∀ (x2_1 : Value) (x10 : Value) (x11 : Value) (x12
    : Value) (x13 : Value) (x55 : Value) (x56 : Value) (x73 : Value) (w : World), (S.v P (S.bin Go.BinOp.lss 3 (Go.Operand.tmp 55) (Go.Operand.tmp 54) x55 t54)
    (fun t56 w => br t56 (S.v P (Instr.indexAt 22 t53 x55) (fun t58 w => S.v P (Instr.loadAt 5 t58) (fun t59 w => S.call P 8 [t16, t59] (fun t63 w => S.v P
    (Instr.extract t63 0) (fun t64 w => S.v P (Instr.extract t63 1) (fun t65 w => S.v P (S.bin Go.BinOp.eql 3 (Go.Operand.tmp 67) (Go.Operand.const
    (Go.Value.int Go.IntKind.i64 5)) x55 (Go.Value.int Go.IntKind.i64 5)) (fun t68 w => S.v P (S.bin Go.BinOp.neq 4 (Go.Operand.tmp 66) (Go.Operand.tmp 68) t64
    t68) (fun t69 w => br t69 (K (Go.Value.bool false) w) (S.v P (S.bin Go.BinOp.neq 29 (Go.Operand.tmp 71) (Go.Operand.const (Go.Value.int Go.IntKind.i64 0))
    t65 (Go.Value.int Go.IntKind.i64 0)) (fun t72 w => br t72 (K (Go.Value.bool false) w) (S.v P (S.bin Go.BinOp.add 3 (Go.Operand.tmp 55) (Go.Operand.const
    (Go.Value.int Go.IntKind.i64 1)) x55 (Go.Value.int Go.IntKind.i64 1)) (fun t74 w => I_1 [x2_1, x55, t59, t64, t65, t74, t56, t72] w) w)) w)) w) w) w) w) w)
    w) w) (S.call P 8 [t16, (Go.Value.int Go.IntKind.u8 120)] (fun t77 w => S.v P (Instr.extract t77 0) (fun t78 w => S.v P (Instr.extract t77 1) (fun t79 w =>
    S.v P (S.bin Go.BinOp.eql 29 (Go.Operand.tmp 80) (Go.Operand.const (Go.Value.int Go.IntKind.i64 6)) t79 (Go.Value.int Go.IntKind.i64 6)) (fun t81 w => br
    t81 (S.call P 10 [t16] (fun t84 w => S.v P (Go.convert 32 9 t84) (fun t85 w => S.v P (S.bin Go.BinOp.eql 9 (Go.Operand.tmp 85) (Go.Operand.tmp 86) t85 x4)
    (fun t87 w => K t87 w) w) w) w) (K (Go.Value.bool false) w)) w) w) w) w)) w) → I_1 [x2_1, x10, x11, x12, x13, x55, x56, x73] w) [x2, undef, undef, undef,
    undef, (Go.Value.int Go.IntKind.i64 0), undef, undef] w) w) w) w)) w) → I [x2, x4, x6, x7, x8, x9, x28, x29, x50] w) [(Go.Value.bool false),
    (Go.Value.string { data := #[] }), undef, undef, undef, undef, (Go.Value.int Go.IntKind.i64 0), undef, undef] w) w)) w) w)) w)) w) w) w
theorem F4_chk : chkFn Tryd.f4 (bodyOf Tryd.f4) [0, 2, 3, 4, 6, 7, 8, 9, 10, 11, 12, 13, 15, 22, 25, 26, 27, 28, 29, 50, 53, 54, 55, 56, 73] [] 1 = true := by kernel_rfl
theorem F4_eq (a0 : Value) (K : Value → World → Prop) (w : World) : F4 Tryd.prog a0 K w = denFn Tryd.prog (has ents) [] [0, 2, 3, 4, 6, 7, 8, 9, 10, 11, 12, 13, 15, 22, 25, 26, 27, 28, 29, 50, 53, 54, 55, 56, 73] (bodyOf Tryd.f4) Tryd.f4.results.toList [a0] K w := by kernel_rfl
theorem F4_link {a0 : Value} {K : Value → World → Prop} {w : World} (h : F4 Tryd.prog a0 K w) : S.call Tryd.prog 4 [a0] K w :=
  calls_of_den entOk mixOk Tryd.func4 rfl F4_chk (Eq.mp (F4_eq a0 K w) h)
/-- lanyard/lanyardlaw22.MacroNone -/
def F5 (P : Program) (a0 : Value) (K : Value → World → Prop) (w : World) : Prop :=
  S.call P 7 [] (fun t16 w => S.v P (Op.unary Go.UnOp.not t16) (fun t17 w => br t17 (K (Go.Value.bool false) w) (S.v P (Instr.build 38 #[]) (fun t18 w => S.v P
    (Instr.box 38 t18) (fun t19 w => S.v P (Instr.buildSlice 39 2 #[(0, (Go.Value.pointer none)), (1, t19)]) (fun t20 w => S.v P (Builtin.len_ #[39] 3 #[t20])
    (fun t21 w => S.loop (fun I => ∀ (x2 : Value) (x4 : Value) (x5 : Value) (x6 : Value) (x7 : Value) (x22 : Value) (x23 : Value) (x73 : Value) (w : World),
    (S.v P (S.bin Go.BinOp.lss 3 (Go.Operand.tmp 22) (Go.Operand.tmp 21) x22 t21) (fun t23 w => br t23 (S.v P (Instr.indexAt 39 t20 x22) (fun t24 w => S.v P
    (Instr.loadAt 35 t24) (fun t25 w => S.call P 12 [t25] (fun t28 w => S.v P (Instr.extract t28 0) (fun t29 w => S.v P (Instr.extract t28 1) (fun t30 w => S.v
    P (Instr.extract t28 2) (fun t31 w => S.v P (S.bin Go.BinOp.neq 5 (Go.Operand.tmp 32) (Go.Operand.const (Go.Value.int Go.IntKind.u8 0)) t29 (Go.Value.int
    Go.IntKind.u8 0)) (fun t33 w => br t33 (K (Go.Value.bool false) w) (br t30 (K (Go.Value.bool false) w) (br t31 (K (Go.Value.bool false) w) (S.call P 13
    [t25, a0] (fun t43 w => S.v P (S.bin Go.BinOp.neq 29 (Go.Operand.tmp 43) (Go.Operand.const (Go.Value.int Go.IntKind.i64 2)) t43 (Go.Value.int
    Go.IntKind.i64 2)) (fun t44 w => br t44 (K (Go.Value.bool false) w) (S.call P 14 [t25, a0] (fun t49 w => S.v P (S.bin Go.BinOp.neq 29 (Go.Operand.tmp 49)
    (Go.Operand.const (Go.Value.int Go.IntKind.i64 2)) t49 (Go.Value.int Go.IntKind.i64 2)) (fun t50 w => br t50 (K (Go.Value.bool false) w) (S.call P 15 [t25,
    a0] (fun t55 w => S.v P (S.bin Go.BinOp.neq 29 (Go.Operand.tmp 55) (Go.Operand.const (Go.Value.int Go.IntKind.i64 2)) t55 (Go.Value.int Go.IntKind.i64 2))
    (fun t56 w => br t56 (K (Go.Value.bool false) w) (S.call P 16 [t25] (fun t60 w => S.call P 17 [t25] (fun t62 w => S.v P (S.bin Go.BinOp.add 3
    (Go.Operand.tmp 60) (Go.Operand.tmp 62) t60 t62) (fun t63 w => S.call P 18 [t25] (fun t65 w => S.v P (S.bin Go.BinOp.add 3 (Go.Operand.tmp 63)
    (Go.Operand.tmp 65) t63 t65) (fun t66 w => S.v P (S.bin Go.BinOp.neq 3 (Go.Operand.tmp 66) (Go.Operand.const (Go.Value.int Go.IntKind.i64 0)) t66
    (Go.Value.int Go.IntKind.i64 0)) (fun t67 w => br t67 (K (Go.Value.bool false) w) (S.call P 19 [t25] (fun t71 w => S.v P (S.bin Go.BinOp.neq 35
    (Go.Operand.tmp 71) (Go.Operand.const (Go.Value.pointer none)) t71 (Go.Value.pointer none)) (fun t72 w => br t72 (K (Go.Value.bool false) w) (S.v P (S.bin
    Go.BinOp.add 3 (Go.Operand.tmp 22) (Go.Operand.const (Go.Value.int Go.IntKind.i64 1)) x22 (Go.Value.int Go.IntKind.i64 1)) (fun t74 w => I [x2, t25, t29,
    t30, t31, t74, t23, t72] w) w)) w) w)) w) w) w) w) w) w)) w) w)) w) w)) w) w)))) w) w) w) w) w) w) w) (S.v P (Instr.build 47 #[]) (fun t75 w => S.v P
    (Instr.box 47 t75) (fun t76 w => S.v P (Instr.buildSlice 48 2 #[(0, (Go.Value.pointer none)), (1, t76)]) (fun t77 w => S.v P (Builtin.len_ #[48] 3 #[t77])
    (fun t78 w => S.loop (fun I_1 => ∀ (x2_1 : Value) (x9 : Value) (x10 : Value) (x11 : Value) (x79 : Value) (x80 : Value) (x122 : Value) (w : World), (S.v P
    (S.bin Go.BinOp.lss 3 (Go.Operand.tmp 79) (Go.Operand.tmp 78) x79 t78) (fun t80 w => br t80 (S.v P (Instr.indexAt 48 t77 x79) (fun t81 w => S.v P
    (Instr.loadAt 45 t81) (fun t82 w => S.call P 20 [t82] (fun t85 w => S.v P (Instr.extract t85 0) (fun t86 w => S.v P (Instr.extract t85 1) (fun t87 w => S.v
    P (S.bin Go.BinOp.neq 9 (Go.Operand.tmp 88) (Go.Operand.const (Go.Value.string { data := #[] })) t86 (Go.Value.string { data := #[] })) (fun t89 w => br
    t89 (K (Go.Value.bool false) w) (br t87 (K (Go.Value.bool false) w) (S.call P 21 [t82] (fun t95 w => S.v P (S.bin Go.BinOp.neq 29 (Go.Operand.tmp 95)
    (Go.Operand.const (Go.Value.int Go.IntKind.i64 2)) t95 (Go.Value.int Go.IntKind.i64 2)) (fun t96 w => br t96 (K (Go.Value.bool false) w) (S.call P 22 [t82]
    (fun t100 w => S.v P (S.bin Go.BinOp.neq 29 (Go.Operand.tmp 100) (Go.Operand.const (Go.Value.int Go.IntKind.i64 2)) t100 (Go.Value.int Go.IntKind.i64 2))
    (fun t101 w => br t101 (K (Go.Value.bool false) w) (S.call P 23 [t82, a0] (fun t106 w => S.v P (S.bin Go.BinOp.neq 29 (Go.Operand.tmp 106)
    (Go.Operand.const (Go.Value.int Go.IntKind.i64 2)) t106 (Go.Value.int Go.IntKind.i64 2)) (fun t107 w => br t107 (K (Go.Value.bool false) w) (S.call P 24
    [t82] (fun t111 w => S.v P (S.bin Go.BinOp.neq 29 (Go.Operand.tmp 111) (Go.Operand.const (Go.Value.int Go.IntKind.i64 2)) t111 (Go.Value.int Go.IntKind.i64
    2)) (fun t112 w => br t112 (K (Go.Value.bool false) w) (S.call P 25 [t82] (fun t116 w => br t116 (K (Go.Value.bool false) w) (S.call P 26 [t82] (fun t120 w
    => S.v P (S.bin Go.BinOp.neq 45 (Go.Operand.tmp 120) (Go.Operand.const (Go.Value.pointer none)) t120 (Go.Value.pointer none)) (fun t121 w => br t121 (K
    (Go.Value.bool false) w) (S.v P (S.bin Go.BinOp.add 3 (Go.Operand.tmp 79) (Go.Operand.const (Go.Value.int Go.IntKind.i64 1)) x79 (Go.Value.int
    Go.IntKind.i64 1)) (fun t123 w => I_1 [x2_1, t82, t86, t87, t123, t80, t121] w) w)) w) w)) w)) w) w)) w) w)) w) w)) w) w))) w) w) w) w) w) w) (S.v P
    (Instr.build 54 #[]) (fun t124 w => S.v P (Instr.box 54 t124) (fun t125 w => S.v P (Instr.buildSlice 55 2 #[(0, (Go.Value.pointer none)), (1, t125)]) (fun
    t126 w => S.v P (Builtin.len_ #[55] 3 #[t126]) (fun t127 w => S.loop (fun I_2 => ∀ (x2_2 : Value) (x13 : Value) (x14 : Value) (x15 : Value) (x128 : Value)
    (x129 : Value) (x147 : Value) (w : World), (S.v P (S.bin Go.BinOp.lss 3 (Go.Operand.tmp 128) (Go.Operand.tmp 127) x128 t127) (fun t129 w => br t129 (S.v P
    (Instr.indexAt 55 t126 x128) (fun t130 w => S.v P (Instr.loadAt 23 t130) (fun t131 w => S.call P 8 [t131, (Go.Value.int Go.IntKind.u8 97)] (fun t134 w =>
    S.v P (Instr.extract t134 0) (fun t135 w => S.v P (Instr.extract t134 1) (fun t136 w => br t135 (K (Go.Value.bool false) w) (S.v P (S.bin Go.BinOp.neq 29
    (Go.Operand.tmp 139) (Go.Operand.const (Go.Value.int Go.IntKind.i64 2)) t136 (Go.Value.int Go.IntKind.i64 2)) (fun t140 w => br t140 (K (Go.Value.bool
    false) w) (S.call P 10 [t131] (fun t144 w => S.v P (Builtin.len_ #[32] 3 #[t144]) (fun t145 w => S.v P (S.bin Go.BinOp.neq 3 (Go.Operand.tmp 145)
    (Go.Operand.const (Go.Value.int Go.IntKind.i64 0)) t145 (Go.Value.int Go.IntKind.i64 0)) (fun t146 w => br t146 (K (Go.Value.bool false) w) (S.v P (S.bin
    Go.BinOp.add 3 (Go.Operand.tmp 128) (Go.Operand.const (Go.Value.int Go.IntKind.i64 1)) x128 (Go.Value.int Go.IntKind.i64 1)) (fun t148 w => I_2 [x2_2,
    t131, t135, t136, t148, t129, t146] w) w)) w) w) w)) w)) w) w) w) w) w) (K (Go.Value.bool true) w)) w) → I_2 [x2_2, x13, x14, x15, x128, x129, x147] w)
    [x2_1, undef, undef, undef, (Go.Value.int Go.IntKind.i64 0), undef, undef] w) w) w) w) w)) w) → I_1 [x2_1, x9, x10, x11, x79, x80, x122] w) [x2, undef,
    undef, undef, (Go.Value.int Go.IntKind.i64 0), undef, undef] w) w) w) w) w)) w) → I [x2, x4, x5, x6, x7, x22, x23, x73] w) [(Go.Value.bool false), undef,
    undef, undef, undef, (Go.Value.int Go.IntKind.i64 0), undef, undef] w) w) w) w) w)) w) w
theorem F5_chk : chkFn Tryd.f5 (bodyOf Tryd.f5) [0, 2, 4, 5, 6, 7, 9, 10, 11, 13, 14, 15, 17, 20, 21, 22, 23, 73, 77, 78, 79, 80, 122, 126, 127, 128, 129, 147] [] 1 = true := by kernel_rfl
theorem F5_eq (a0 : Value) (K : Value → World → Prop) (w : World) : F5 Tryd.prog a0 K w = denFn Tryd.prog (has ents) [] [0, 2, 4, 5, 6, 7, 9, 10, 11, 13, 14, 15, 17, 20, 21, 22, 23, 73, 77, 78, 79, 80, 122, 126, 127, 128, 129, 147] (bodyOf Tryd.f5) Tryd.f5.results.toList [a0] K w := by kernel_rfl
theorem F5_link {a0 : Value} {K : Value → World → Prop} {w : World} (h : F5 Tryd.prog a0 K w) : S.call Tryd.prog 5 [a0] K w :=
  calls_of_den entOk mixOk Tryd.func5 rfl F5_chk (Eq.mp (F5_eq a0 K w) h)
/-- lanyard/macro.NewPaste -/
def F6 (P : Program) (K : Value → World → Prop) (w : World) : Prop :=
  S.v P (Instr.build 54 #[(2, (Go.Value.bool true))]) (fun t1 w => S.v P (Instr.box 54 t1) (fun t2 w => K t2 w) w) w
theorem F6_chk : chkFn Tryd.f6 (bodyOf Tryd.f6) [0] [] 0 = true := by kernel_rfl
theorem F6_eq (K : Value → World → Prop) (w : World) : F6 Tryd.prog K w = denFn Tryd.prog (has ents) [] [0] (bodyOf Tryd.f6) Tryd.f6.results.toList [] K w := by kernel_rfl
theorem F6_link {K : Value → World → Prop} {w : World} (h : F6 Tryd.prog K w) : S.call Tryd.prog 6 [] K w :=
  calls_of_den entOk mixOk Tryd.func6 rfl F6_chk (Eq.mp (F6_eq K w) h)
/-- lanyard/lanyardlaw22.begun -/
def F7 (P : Program) (K : Value → World → Prop) (w : World) : Prop :=
  S.call P 27 [] (fun t8 w => S.v P (S.bin Go.BinOp.eql 35 (Go.Operand.tmp 9) (Go.Operand.const (Go.Value.pointer none)) t8 (Go.Value.pointer none)) (fun t10 w
    => br t10 (K (Go.Value.bool false) w) (S.v P (Instr.buildSlice 22 1 #[(0, (Go.Value.int Go.IntKind.u8 97))]) (fun t13 w => S.call P 13 [t8, t13] (fun t14 w
    => S.v P (S.bin Go.BinOp.neq 29 (Go.Operand.tmp 14) (Go.Operand.const (Go.Value.int Go.IntKind.i64 0)) t14 (Go.Value.int Go.IntKind.i64 0)) (fun t15 w =>
    br t15 (K (Go.Value.bool false) w) (S.v P (Instr.buildSlice 22 1 #[(0, (Go.Value.int Go.IntKind.u8 120))]) (fun t19 w => S.call P 14 [t8, t19] (fun t20 w
    => S.v P (S.bin Go.BinOp.neq 29 (Go.Operand.tmp 20) (Go.Operand.const (Go.Value.int Go.IntKind.i64 0)) t20 (Go.Value.int Go.IntKind.i64 0)) (fun t21 w =>
    br t21 (K (Go.Value.bool false) w) (S.call P 16 [t8] (fun t25 w => S.v P (S.bin Go.BinOp.neq 3 (Go.Operand.tmp 25) (Go.Operand.const (Go.Value.int
    Go.IntKind.i64 2)) t25 (Go.Value.int Go.IntKind.i64 2)) (fun t26 w => br t26 (K (Go.Value.bool false) w) (S.call P 12 [t8] (fun t30 w => S.v P
    (Instr.extract t30 0) (fun t31 w => S.v P (Instr.extract t30 1) (fun t32 w => S.v P (Instr.extract t30 2) (fun t33 w => S.call P 12 [t8] (fun t36 w => S.v
    P (Instr.extract t36 0) (fun t37 w => S.v P (Instr.extract t36 1) (fun t38 w => S.v P (Instr.extract t36 2) (fun t39 w => S.v P (S.bin Go.BinOp.eql 5
    (Go.Operand.tmp 40) (Go.Operand.const (Go.Value.int Go.IntKind.u8 120)) t31 (Go.Value.int Go.IntKind.u8 120)) (fun t41 w => br t41 (br t32 (S.v P (Op.unary
    Go.UnOp.not t33) (fun t47 w => br t47 (S.v P (S.bin Go.BinOp.eql 5 (Go.Operand.tmp 50) (Go.Operand.const (Go.Value.int Go.IntKind.u8 97)) t37 (Go.Value.int
    Go.IntKind.u8 97)) (fun t51 w => br t51 (br t38 (K t39 w) (K (Go.Value.bool false) w)) (K (Go.Value.bool false) w)) w) (K (Go.Value.bool false) w)) w) (K
    (Go.Value.bool false) w)) (K (Go.Value.bool false) w)) w) w) w) w) w) w) w) w) w)) w) w)) w) w) w)) w) w) w)) w) w
theorem F7_chk : chkFn Tryd.f7 (bodyOf Tryd.f7) [0, 1, 2, 3, 4, 5, 6, 7, 27] [] 0 = true := by kernel_rfl
theorem F7_eq (K : Value → World → Prop) (w : World) : F7 Tryd.prog K w = denFn Tryd.prog (has ents) [] [0, 1, 2, 3, 4, 5, 6, 7, 27] (bodyOf Tryd.f7) Tryd.f7.results.toList [] K w := by kernel_rfl
theorem F7_link {K : Value → World → Prop} {w : World} (h : F7 Tryd.prog K w) : S.call Tryd.prog 7 [] K w :=
  calls_of_den entOk mixOk Tryd.func7 rfl F7_chk (Eq.mp (F7_eq K w) h)
/-- (*lanyard/macro.Paste).Put -/
def F8 (P : Program) (a0 a1 : Value) (K : Value → World → Prop) (w : World) : Prop :=
  S.v P (S.bin Go.BinOp.eql 23 (Go.Operand.tmp 6) (Go.Operand.const (Go.Value.pointer none)) a0 (Go.Value.pointer none)) (fun t7 w => br t7 (K (.tuple
    #[(Go.Value.bool false), (Go.Value.int Go.IntKind.i64 2)]) w) (S.v P (S.nilC a0) (fun t10 w => S.v P (Instr.fieldAt 54 t10 2) (fun t11 w => S.v P
    (Instr.loadAt 4 t11) (fun t12 w => S.v P (Op.unary Go.UnOp.not t12) (fun t13 w => br t13 (K (.tuple #[(Go.Value.bool false), (Go.Value.int Go.IntKind.i64
    2)]) w) (S.v P (S.nilC a0) (fun t16 w => S.v P (Instr.fieldAt 54 t16 1) (fun t17 w => S.v P (Instr.loadAt 4 t17) (fun t18 w => br t18 (K (.tuple
    #[(Go.Value.bool false), (Go.Value.int Go.IntKind.i64 6)]) w) (S.v P (S.nilC a0) (fun t21 w => S.v P (Instr.fieldAt 54 t21 0) (fun t22 w => S.v P
    (Instr.loadAt 22 t22) (fun t23 w => S.v P (Instr.buildSlice 22 1 #[(0, a1)]) (fun t25 w => S.v P (Builtin.append_ #[22, 22] 22 #[t23, t25]) (fun t26 w =>
    S.v P (S.nilC a0) (fun t27 w => S.v P (Instr.fieldAt 54 t27 0) (fun t28 w => S.u P (Instr.storeAt 22 t28 t26) (fun w => S.v P (S.nilC a0) (fun t30 w => S.v
    P (Instr.fieldAt 54 t30 0) (fun t31 w => S.v P (Instr.loadAt 22 t31) (fun t32 w => S.v P (Instr.buildSlice 22 6 #[(0, (Go.Value.int Go.IntKind.u8 27)), (1,
    (Go.Value.int Go.IntKind.u8 91)), (2, (Go.Value.int Go.IntKind.u8 50)), (3, (Go.Value.int Go.IntKind.u8 48)), (4, (Go.Value.int Go.IntKind.u8 49)), (5,
    (Go.Value.int Go.IntKind.u8 126))]) (fun t33 w => S.v P (Go.convert 22 22 t33) (fun t34 w => S.call P 28 [t32, t34] (fun t35 w => br t35 (S.drawn (fun w =>
    S.p P (S.nilC a0) (fun t38 w => S.p P (Instr.fieldAt 54 t38 0) (fun t39 w => S.p P (Instr.loadAt 22 t39) (fun t40 w => S.p P (S.nilC a0) (fun t42 w => S.p
    P (Instr.fieldAt 54 t42 0) (fun t43 w => S.p P (Instr.loadAt 22 t43) (fun t44 w => S.p P (Builtin.len_ #[22] 3 #[t44]) (fun t45 w => S.p P (S.bin
    Go.BinOp.sub 3 (Go.Operand.tmp 45) (Go.Operand.const (Go.Value.int Go.IntKind.i64 6)) t45 (Go.Value.int Go.IntKind.i64 6)) (fun t46 w => S.p P
    (Instr.sliceAt 22 t40 none (some t46) none) (fun t47 w => S.v P (S.nilC a0) (fun t48 w => S.v P (Instr.fieldAt 54 t48 0) (fun t49 w => S.u P (Instr.storeAt
    22 t49 t47) (fun w => S.v P (S.nilC a0) (fun t51 w => S.v P (Instr.fieldAt 54 t51 1) (fun t52 w => S.u P (Instr.storeAt 4 t52 (Go.Value.bool true)) (fun w
    => K (.tuple #[(Go.Value.bool true), (Go.Value.int Go.IntKind.i64 0)]) w) w) w) w) w) w) w) w) w) w) w) w) w) w) w) w) w) (S.v P (S.nilC a0) (fun t54 w =>
    S.v P (Instr.fieldAt 54 t54 0) (fun t55 w => S.v P (Instr.loadAt 22 t55) (fun t56 w => S.v P (Builtin.len_ #[22] 3 #[t56]) (fun t57 w => S.v P (S.bin
    Go.BinOp.gtr 3 (Go.Operand.tmp 57) (Go.Operand.const (Go.Value.int Go.IntKind.i64 16384)) t57 (Go.Value.int Go.IntKind.i64 16384)) (fun t58 w => br t58
    (S.v P (S.nilC a0) (fun t61 w => S.v P (Instr.fieldAt 54 t61 0) (fun t62 w => S.v P (Instr.loadAt 22 t62) (fun t63 w => S.v P (Instr.sliceAt 22 t63 none
    (some (Go.Value.int Go.IntKind.i64 16384)) none) (fun t64 w => S.v P (S.nilC a0) (fun t65 w => S.v P (Instr.fieldAt 54 t65 0) (fun t66 w => S.u P
    (Instr.storeAt 22 t66 t64) (fun w => S.v P (S.nilC a0) (fun t68 w => S.v P (Instr.fieldAt 54 t68 1) (fun t69 w => S.u P (Instr.storeAt 4 t69 (Go.Value.bool
    true)) (fun w => K (.tuple #[(Go.Value.bool true), (Go.Value.int Go.IntKind.i64 3)]) w) w) w) w) w) w) w) w) w) w) w) (K (.tuple #[(Go.Value.bool false),
    (Go.Value.int Go.IntKind.i64 0)]) w)) w) w) w) w) w)) w) w) w) w) w) w) w) w) w) w) w) w) w) w)) w) w) w)) w) w) w) w)) w
theorem F8_chk : chkFn Tryd.f8 (bodyOf Tryd.f8) [0, 1, 4, 5, 14, 18, 35, 58] [(7, { ord := (.step 0 true (.step 1 true (.step 2 true (.step 3 true (.step 4 true (.step 5 true (.step 6 true (.step 7 true (.step 8 true (.step 9 true (.step 10 true (.step 11 true (.step 12 false (.step 13 false (.step 14 false .fin))))))))))))))), flags := [], held := false, init := true })] 2 = true := by kernel_rfl
theorem F8_eq (a0 a1 : Value) (K : Value → World → Prop) (w : World) : F8 Tryd.prog a0 a1 K w = denFn Tryd.prog (has ents) [(7, { ord := (.step 0 true (.step 1 true (.step 2 true (.step 3 true (.step 4 true (.step 5 true (.step 6 true (.step 7 true (.step 8 true (.step 9 true (.step 10 true (.step 11 true (.step 12 false (.step 13 false (.step 14 false .fin))))))))))))))), flags := [], held := false, init := true })] [0, 1, 4, 5, 14, 18, 35, 58] (bodyOf Tryd.f8) Tryd.f8.results.toList [a0, a1] K w := by kernel_rfl
theorem F8_link {a0 a1 : Value} {K : Value → World → Prop} {w : World} (h : F8 Tryd.prog a0 a1 K w) : S.call Tryd.prog 8 [a0, a1] K w :=
  calls_of_den entOk mixOk Tryd.func8 rfl F8_chk (Eq.mp (F8_eq a0 a1 K w) h)
/-- (*lanyard/lanyardref22.Paste).Put -/
def F9 (P : Program) (a0 a1 : Value) (K : Value → World → Prop) (w : World) : Prop :=
  S.v P (S.nilC a0) (fun t8 w => S.v P (Instr.fieldAt 27 t8 1) (fun t9 w => S.v P (Instr.loadAt 4 t9) (fun t10 w => br t10 (K (.tuple #[(Go.Value.bool false),
    (Go.Value.int Go.IntKind.i64 6)]) w) (S.v P (S.nilC a0) (fun t13 w => S.v P (Instr.fieldAt 27 t13 0) (fun t14 w => S.v P (Instr.loadAt 22 t14) (fun t15 w
    => S.v P (Instr.buildSlice 22 1 #[(0, a1)]) (fun t17 w => S.v P (Builtin.append_ #[22, 22] 22 #[t15, t17]) (fun t18 w => S.v P (S.nilC a0) (fun t19 w =>
    S.v P (Instr.fieldAt 27 t19 0) (fun t20 w => S.u P (Instr.storeAt 22 t20 t18) (fun w => S.v P (S.nilC a0) (fun t23 w => S.v P (Instr.fieldAt 27 t23 0) (fun
    t24 w => S.v P (Instr.loadAt 22 t24) (fun t25 w => S.v P (Builtin.len_ #[22] 3 #[t25]) (fun t26 w => S.v P (S.nilC a0) (fun t27 w => S.v P (Instr.fieldAt
    27 t27 2) (fun t28 w => S.u P (Instr.storeAt 3 t28 t26) (fun w => S.v P (S.nilC a0) (fun t30 w => S.v P (Instr.fieldAt 27 t30 0) (fun t31 w => S.v P
    (Instr.loadAt 22 t31) (fun t32 w => S.v P (Builtin.len_ #[22] 3 #[t32]) (fun t33 w => S.v P (S.bin Go.BinOp.sub 3 (Go.Operand.tmp 33) (Go.Operand.const
    (Go.Value.int Go.IntKind.i64 6)) t33 (Go.Value.int Go.IntKind.i64 6)) (fun t34 w => S.v P (S.bin Go.BinOp.geq 3 (Go.Operand.tmp 35) (Go.Operand.const
    (Go.Value.int Go.IntKind.i64 0)) t34 (Go.Value.int Go.IntKind.i64 0)) (fun t36 w => br t36 (S.v P (S.nilC a0) (fun t39 w => S.v P (Instr.fieldAt 27 t39 0)
    (fun t40 w => S.v P (Instr.loadAt 22 t40) (fun t41 w => S.v P (Instr.sliceAt 22 t41 (some t34) none none) (fun t43 w => S.v P (Go.convert 22 9 t43) (fun
    t44 w => S.v P (S.bin Go.BinOp.eql 9 (Go.Operand.tmp 44) (Go.Operand.const (Go.Value.string { data := #[27, 91, 50, 48, 49, 126] })) t44 (Go.Value.string {
    data := #[27, 91, 50, 48, 49, 126] })) (fun t45 w => br t45 (S.v P (S.nilC a0) (fun t49 w => S.v P (Instr.fieldAt 27 t49 2) (fun t50 w => S.u P
    (Instr.storeAt 3 t50 t34) (fun w => S.v P (S.nilC a0) (fun t52 w => S.v P (Instr.fieldAt 27 t52 1) (fun t53 w => S.u P (Instr.storeAt 4 t53 (Go.Value.bool
    true)) (fun w => K (.tuple #[(Go.Value.bool true), (Go.Value.int Go.IntKind.i64 0)]) w) w) w) w) w) w) w) (S.v P (S.nilC a0) (fun t55 w => S.v P
    (Instr.fieldAt 27 t55 0) (fun t56 w => S.v P (Instr.loadAt 22 t56) (fun t57 w => S.v P (Builtin.len_ #[22] 3 #[t57]) (fun t58 w => S.v P (S.bin
    Go.BinOp.gtr 3 (Go.Operand.tmp 58) (Go.Operand.const (Go.Value.int Go.IntKind.i64 16384)) t58 (Go.Value.int Go.IntKind.i64 16384)) (fun t59 w => br t59
    (S.v P (S.nilC a0) (fun t61 w => S.v P (Instr.fieldAt 27 t61 2) (fun t62 w => S.u P (Instr.storeAt 3 t62 (Go.Value.int Go.IntKind.i64 16384)) (fun w => S.v
    P (S.nilC a0) (fun t64 w => S.v P (Instr.fieldAt 27 t64 1) (fun t65 w => S.u P (Instr.storeAt 4 t65 (Go.Value.bool true)) (fun w => K (.tuple
    #[(Go.Value.bool true), (Go.Value.int Go.IntKind.i64 3)]) w) w) w) w) w) w) w) (K (.tuple #[(Go.Value.bool false), (Go.Value.int Go.IntKind.i64 0)]) w)) w)
    w) w) w) w)) w) w) w) w) w) w) (S.v P (S.nilC a0) (fun t55_1 w => S.v P (Instr.fieldAt 27 t55_1 0) (fun t56_1 w => S.v P (Instr.loadAt 22 t56_1) (fun t57_1
    w => S.v P (Builtin.len_ #[22] 3 #[t57_1]) (fun t58_1 w => S.v P (S.bin Go.BinOp.gtr 3 (Go.Operand.tmp 58) (Go.Operand.const (Go.Value.int Go.IntKind.i64
    16384)) t58_1 (Go.Value.int Go.IntKind.i64 16384)) (fun t59_1 w => br t59_1 (S.v P (S.nilC a0) (fun t61_1 w => S.v P (Instr.fieldAt 27 t61_1 2) (fun t62_1
    w => S.u P (Instr.storeAt 3 t62_1 (Go.Value.int Go.IntKind.i64 16384)) (fun w => S.v P (S.nilC a0) (fun t64_1 w => S.v P (Instr.fieldAt 27 t64_1 1) (fun
    t65_1 w => S.u P (Instr.storeAt 4 t65_1 (Go.Value.bool true)) (fun w => K (.tuple #[(Go.Value.bool true), (Go.Value.int Go.IntKind.i64 3)]) w) w) w) w) w)
    w) w) (K (.tuple #[(Go.Value.bool false), (Go.Value.int Go.IntKind.i64 0)]) w)) w) w) w) w) w)) w) w) w) w) w) w) w) w) w) w) w) w) w) w) w) w) w) w) w) w)
    w)) w) w) w
theorem F9_chk : chkFn Tryd.f9 (bodyOf Tryd.f9) [0, 1, 4, 5, 6, 10, 46, 59] [] 2 = true := by kernel_rfl
theorem F9_eq (a0 a1 : Value) (K : Value → World → Prop) (w : World) : F9 Tryd.prog a0 a1 K w = denFn Tryd.prog (has ents) [] [0, 1, 4, 5, 6, 10, 46, 59] (bodyOf Tryd.f9) Tryd.f9.results.toList [a0, a1] K w := by kernel_rfl
theorem F9_link {a0 a1 : Value} {K : Value → World → Prop} {w : World} (h : F9 Tryd.prog a0 a1 K w) : S.call Tryd.prog 9 [a0, a1] K w :=
  calls_of_den entOk mixOk Tryd.func9 rfl F9_chk (Eq.mp (F9_eq a0 a1 K w) h)
/-- (*lanyard/macro.Paste).Text -/
def F10 (P : Program) (a0 : Value) (K : Value → World → Prop) (w : World) : Prop :=
  S.v P (S.bin Go.BinOp.eql 23 (Go.Operand.tmp 4) (Go.Operand.const (Go.Value.pointer none)) a0 (Go.Value.pointer none)) (fun t5 w => br t5 (K (Go.Value.slice
    none 0 0) w) (S.v P (S.nilC a0) (fun t8 w => S.v P (Instr.fieldAt 54 t8 2) (fun t9 w => S.v P (Instr.loadAt 4 t9) (fun t10 w => S.v P (Op.unary Go.UnOp.not
    t10) (fun t11 w => br t11 (K (Go.Value.slice none 0 0) w) (S.v P (S.nilC a0) (fun t14 w => S.v P (Instr.fieldAt 54 t14 0) (fun t15 w => S.v P (Instr.loadAt
    22 t15) (fun t16 w => S.v P (Instr.buildSlice 22 2 #[(0, (Go.Value.int Go.IntKind.u8 13)), (1, (Go.Value.int Go.IntKind.u8 10))]) (fun t17 w => S.v P
    (Go.convert 22 22 t17) (fun t18 w => S.v P (Instr.buildSlice 22 1 #[(0, (Go.Value.int Go.IntKind.u8 10))]) (fun t19 w => S.v P (Go.convert 22 22 t19) (fun
    t20 w => S.call P 29 [t16, t18, t20] (fun t21 w => S.v P (Instr.buildSlice 22 1 #[(0, (Go.Value.int Go.IntKind.u8 13))]) (fun t23 w => S.v P (Go.convert 22
    22 t23) (fun t24 w => S.v P (Instr.buildSlice 22 1 #[(0, (Go.Value.int Go.IntKind.u8 10))]) (fun t25 w => S.v P (Go.convert 22 22 t25) (fun t26 w => S.call
    P 29 [t21, t24, t26] (fun t27 w => S.call P 30 [t27] (fun t28 w => K t28 w) w) w) w) w) w) w) w) w) w) w) w) w) w) w)) w) w) w) w)) w
theorem F10_chk : chkFn Tryd.f10 (bodyOf Tryd.f10) [0, 2, 3, 12] [] 1 = true := by kernel_rfl
theorem F10_eq (a0 : Value) (K : Value → World → Prop) (w : World) : F10 Tryd.prog a0 K w = denFn Tryd.prog (has ents) [] [0, 2, 3, 12] (bodyOf Tryd.f10) Tryd.f10.results.toList [a0] K w := by kernel_rfl
theorem F10_link {a0 : Value} {K : Value → World → Prop} {w : World} (h : F10 Tryd.prog a0 K w) : S.call Tryd.prog 10 [a0] K w :=
  calls_of_den entOk mixOk Tryd.func10 rfl F10_chk (Eq.mp (F10_eq a0 K w) h)
/-- (*lanyard/lanyardref22.Paste).Text -/
def F11 (P : Program) (a0 : Value) (K : Value → World → Prop) (w : World) : Prop :=
  S.drawn (fun w => ∃ H : World → Prop, H w ∧ (S.h P H (S.nilC a0) (fun t7 w => S.h P H (Instr.fieldAt 27 t7 0) (fun t8 w => S.h P H (Instr.loadAt 22 t8) (fun t9
    w => S.h P H (S.nilC a0) (fun t11 w => S.h P H (Instr.fieldAt 27 t11 2) (fun t12 w => S.h P H (Instr.loadAt 3 t12) (fun t13 w => S.h P H (Instr.sliceAt 22
    t9 none (some t13) none) (fun t14 w => S.call P 31 [t14] (fun t15 w => H w ∧ (S.loop (fun I => ∀ (x4 : Value) (x5 : Value) (x19 : Value) (x26 : Value) (x42
    : Value) (w : World), (S.v P (Builtin.len_ #[32] 3 #[t15]) (fun t18 w => S.v P (S.bin Go.BinOp.lss 3 (Go.Operand.tmp 16) (Go.Operand.tmp 18) x5 t18) (fun
    t19 w => br t19 (S.seq (fun vs w => S.v P (S.bin Go.BinOp.add 3 (Go.Operand.tmp 20) (Go.Operand.const (Go.Value.int Go.IntKind.i64 1)) (nth vs 1)
    (Go.Value.int Go.IntKind.i64 1)) (fun t21 w => I [(nth vs 0), t21, t19, (nth vs 2), (nth vs 3)] w) w) (fun J => S.v P (Instr.indexAt 32 t15 x5) (fun t24 w
    => S.v P (Instr.loadAt 21 t24) (fun t25 w => S.v P (S.bin Go.BinOp.eql 21 (Go.Operand.tmp 25) (Go.Operand.const (Go.Value.int Go.IntKind.i32 13)) t25
    (Go.Value.int Go.IntKind.i32 13)) (fun t26 w => br t26 (S.v P (Instr.buildSlice 32 1 #[(0, (Go.Value.int Go.IntKind.i32 10))]) (fun t28 w => S.v P
    (Builtin.append_ #[32, 32] 32 #[x4, t28]) (fun t29 w => S.seq (fun vs_1 w => J [t29, (nth vs_1 0), t26, (nth vs_1 1)] w) (fun J_1 => S.v P (S.bin
    Go.BinOp.add 3 (Go.Operand.tmp 30) (Go.Operand.const (Go.Value.int Go.IntKind.i64 1)) x5 (Go.Value.int Go.IntKind.i64 1)) (fun t31 w => S.v P (Builtin.len_
    #[32] 3 #[t15]) (fun t33 w => S.v P (S.bin Go.BinOp.lss 3 (Go.Operand.tmp 31) (Go.Operand.tmp 33) t31 t33) (fun t34 w => br t34 (S.v P (S.bin Go.BinOp.add
    3 (Go.Operand.tmp 37) (Go.Operand.const (Go.Value.int Go.IntKind.i64 1)) x5 (Go.Value.int Go.IntKind.i64 1)) (fun t38 w => S.v P (Instr.indexAt 32 t15 t38)
    (fun t39 w => S.v P (Instr.loadAt 21 t39) (fun t40 w => S.v P (S.bin Go.BinOp.eql 21 (Go.Operand.tmp 40) (Go.Operand.const (Go.Value.int Go.IntKind.i32
    10)) t40 (Go.Value.int Go.IntKind.i32 10)) (fun t41 w => br t41 (S.v P (S.bin Go.BinOp.add 3 (Go.Operand.tmp 43) (Go.Operand.const (Go.Value.int
    Go.IntKind.i64 1)) x5 (Go.Value.int Go.IntKind.i64 1)) (fun t44 w => J_1 [t44, t41] w) w) (J_1 [x5, t41] w)) w) w) w) w) (J_1 [x5, (Go.Value.bool false)]
    w)) w) w) w)) w) w) (S.v P (Instr.indexAt 32 t15 x5) (fun t48 w => S.v P (Instr.loadAt 21 t48) (fun t49 w => S.v P (Instr.buildSlice 32 1 #[(0, t49)]) (fun
    t50 w => S.v P (Builtin.append_ #[32, 32] 32 #[x4, t50]) (fun t51 w => J [t51, x5, t26, x42] w) w) w) w) w)) w) w) w)) (K x4 w)) w) w) → I [x4, x5, x19,
    x26, x42] w) [(Go.Value.slice none 0 0), (Go.Value.int Go.IntKind.i64 0), undef, undef, undef] w)) w) w) w) w) w) w) w) w)) w
theorem F11_chk : chkFn Tryd.f11 (bodyOf Tryd.f11) [0, 2, 3, 4, 5, 19, 26, 42] [(1, { ord := (.step 0 true (.step 1 true (.step 2 true (.step 3 true (.step 4 true (.step 5 true (.step 6 true (.step 7 true (.step 8 true (.step 9 false (.step 10 true .fin))))))))))), flags := [9], held := true, init := true })] 1 = true := by kernel_rfl
theorem F11_eq (a0 : Value) (K : Value → World → Prop) (w : World) : F11 Tryd.prog a0 K w = denFn Tryd.prog (has ents) [(1, { ord := (.step 0 true (.step 1 true (.step 2 true (.step 3 true (.step 4 true (.step 5 true (.step 6 true (.step 7 true (.step 8 true (.step 9 false (.step 10 true .fin))))))))))), flags := [9], held := true, init := true })] [0, 2, 3, 4, 5, 19, 26, 42] (bodyOf Tryd.f11) Tryd.f11.results.toList [a0] K w := by kernel_rfl
theorem F11_link {a0 : Value} {K : Value → World → Prop} {w : World} (h : F11 Tryd.prog a0 K w) : S.call Tryd.prog 11 [a0] K w :=
  calls_of_den entOk mixOk Tryd.func11 rfl F11_chk (Eq.mp (F11_eq a0 K w) h)
/-- (*lanyard/macro.Queue).Next -/
def F12 (P : Program) (a0 : Value) (K : Value → World → Prop) (w : World) : Prop :=
  S.call P 32 [a0] (fun t10 w => br t10 (K (.tuple #[(Go.Value.int Go.IntKind.u8 0), (Go.Value.bool false), (Go.Value.bool false)]) w) (S.seq (fun vs w => S.v P
    (S.nilC a0) (fun t20 w => S.v P (Instr.fieldAt 38 t20 1) (fun t21 w => S.v P (Instr.loadAt 36 t21) (fun t22 w => S.v P (Builtin.len_ #[36] 3 #[t22]) (fun
    t23 w => S.v P (S.bin Go.BinOp.sub 3 (Go.Operand.tmp 23) (Go.Operand.const (Go.Value.int Go.IntKind.i64 1)) t23 (Go.Value.int Go.IntKind.i64 1)) (fun t24 w
    => S.v P (S.bin Go.BinOp.geq 3 (Go.Operand.tmp 25) (Go.Operand.const (Go.Value.int Go.IntKind.i64 0)) t24 (Go.Value.int Go.IntKind.i64 0)) (fun t26 w => br
    t26 (S.v P (S.nilC a0) (fun t28 w => S.v P (Instr.fieldAt 38 t28 1) (fun t29 w => S.v P (Instr.loadAt 36 t29) (fun t30 w => S.v P (Instr.indexAt 36 t30
    t24) (fun t32 w => S.v P (Instr.loadAt 22 t32) (fun t33 w => S.v P (Instr.indexAt 22 t33 (Go.Value.int Go.IntKind.i64 0)) (fun t35 w => S.v P (Instr.loadAt
    5 t35) (fun t36 w => S.seq (fun vs_1 w => S.v P (S.nilC a0) (fun t58 w => S.v P (Instr.fieldAt 38 t58 2) (fun t59 w => S.v P (Instr.loadAt 3 t59) (fun t60
    w => S.v P (S.bin Go.BinOp.add 3 (Go.Operand.tmp 60) (Go.Operand.const (Go.Value.int Go.IntKind.i64 1)) t60 (Go.Value.int Go.IntKind.i64 1)) (fun t61 w =>
    S.v P (S.nilC a0) (fun t62 w => S.v P (Instr.fieldAt 38 t62 2) (fun t63 w => S.u P (Instr.storeAt 3 t63 t61) (fun w => K (.tuple #[t36, (Go.Value.bool
    true), (Go.Value.bool false)]) w) w) w) w) w) w) w) w) (fun J_1 => S.drawn (fun w => S.p P (S.nilC a0) (fun t38 w => S.p P (Instr.fieldAt 38 t38 1) (fun
    t39 w => S.p P (Instr.loadAt 36 t39) (fun t40 w => S.p P (Instr.sliceAt 22 t33 (some (Go.Value.int Go.IntKind.i64 1)) none none) (fun t43 w => S.p P
    (Instr.indexAt 36 t40 t24) (fun t44 w => S.u P (Instr.storeAt 22 t44 t43) (fun w => S.v P (Builtin.len_ #[22] 3 #[t33]) (fun t46 w => S.v P (S.bin
    Go.BinOp.eql 3 (Go.Operand.tmp 46) (Go.Operand.const (Go.Value.int Go.IntKind.i64 1)) t46 (Go.Value.int Go.IntKind.i64 1)) (fun t47 w => br t47 (S.v P
    (S.nilC a0) (fun t50 w => S.v P (Instr.fieldAt 38 t50 1) (fun t51 w => S.v P (Instr.loadAt 36 t51) (fun t52 w => S.v P (Instr.sliceAt 36 t52 none (some
    t24) none) (fun t54 w => S.v P (S.nilC a0) (fun t55 w => S.v P (Instr.fieldAt 38 t55 1) (fun t56 w => S.u P (Instr.storeAt 36 t56 t54) (fun w => J_1 [t47]
    w) w) w) w) w) w) w) w) (J_1 [t47] w)) w) w) w) w) w) w) w) w) w)) w) w) w) w) w) w) w) (S.v P (S.nilC a0) (fun t66 w => S.v P (Instr.fieldAt 38 t66 0)
    (fun t67 w => S.v P (Instr.loadAt 22 t67) (fun t68 w => S.v P (Builtin.len_ #[22] 3 #[t68]) (fun t69 w => S.v P (S.bin Go.BinOp.eql 3 (Go.Operand.tmp 69)
    (Go.Operand.const (Go.Value.int Go.IntKind.i64 0)) t69 (Go.Value.int Go.IntKind.i64 0)) (fun t70 w => br t70 (K (.tuple #[(Go.Value.int Go.IntKind.u8 0),
    (Go.Value.bool false), (Go.Value.bool false)]) w) (S.v P (S.nilC a0) (fun t72 w => S.v P (Instr.fieldAt 38 t72 0) (fun t73 w => S.v P (Instr.loadAt 22 t73)
    (fun t74 w => S.v P (Instr.indexAt 22 t74 (Go.Value.int Go.IntKind.i64 0)) (fun t75 w => S.v P (Instr.loadAt 5 t75) (fun t76 w => S.v P (S.nilC a0) (fun
    t79 w => S.v P (Instr.fieldAt 38 t79 0) (fun t80 w => S.v P (Instr.loadAt 22 t80) (fun t81 w => S.v P (Instr.sliceAt 22 t81 (some (Go.Value.int
    Go.IntKind.i64 1)) none none) (fun t82 w => S.v P (S.nilC a0) (fun t83 w => S.v P (Instr.fieldAt 38 t83 0) (fun t84 w => S.u P (Instr.storeAt 22 t84 t82)
    (fun w => S.v P (S.nilC a0) (fun t86 w => S.v P (Instr.fieldAt 38 t86 2) (fun t87 w => S.u P (Instr.storeAt 3 t87 (Go.Value.int Go.IntKind.i64 0)) (fun w
    => K (.tuple #[t76, (Go.Value.bool true), (Go.Value.bool true)]) w) w) w) w) w) w) w) w) w) w) w) w) w) w) w) w)) w) w) w) w) w)) w) w) w) w) w) w) (fun J
    => S.v P (S.nilC a0) (fun t12 w => S.v P (Instr.fieldAt 38 t12 2) (fun t13 w => S.v P (Instr.loadAt 3 t13) (fun t14 w => S.v P (S.bin Go.BinOp.geq 3
    (Go.Operand.tmp 14) (Go.Operand.const (Go.Value.int Go.IntKind.i64 256)) t14 (Go.Value.int Go.IntKind.i64 256)) (fun t15 w => br t15 (S.v P (S.nilC a0)
    (fun t17 w => S.v P (Instr.fieldAt 38 t17 1) (fun t18 w => S.u P (Instr.storeAt 36 t18 (Go.Value.slice none 0 0)) (fun w => J [t15] w) w) w) w) (J [t15]
    w)) w) w) w) w))) w
theorem F12_chk : chkFn Tryd.f12 (bodyOf Tryd.f12) [0, 2, 3, 4, 5, 6, 7, 8, 10, 15, 26, 47, 70] [(9, { ord := (.step 0 true (.step 1 true (.step 2 true (.step 3 true (.step 4 true (.step 5 true (.step 6 true (.step 7 true (.step 8 false .fin))))))))), flags := [], held := false, init := true })] 1 = true := by kernel_rfl
theorem F12_eq (a0 : Value) (K : Value → World → Prop) (w : World) : F12 Tryd.prog a0 K w = denFn Tryd.prog (has ents) [(9, { ord := (.step 0 true (.step 1 true (.step 2 true (.step 3 true (.step 4 true (.step 5 true (.step 6 true (.step 7 true (.step 8 false .fin))))))))), flags := [], held := false, init := true })] [0, 2, 3, 4, 5, 6, 7, 8, 10, 15, 26, 47, 70] (bodyOf Tryd.f12) Tryd.f12.results.toList [a0] K w := by kernel_rfl
theorem F12_link {a0 : Value} {K : Value → World → Prop} {w : World} (h : F12 Tryd.prog a0 K w) : S.call Tryd.prog 12 [a0] K w :=
  calls_of_den entOk mixOk Tryd.func12 rfl F12_chk (Eq.mp (F12_eq a0 K w) h)
/-- (*lanyard/macro.Queue).Put -/
def F13 (P : Program) (a0 a1 : Value) (K : Value → World → Prop) (w : World) : Prop :=
  S.v P (Builtin.len_ #[22] 3 #[a1]) (fun t8 w => S.call P 33 [a0, t8] (fun t9 w => S.v P (S.bin Go.BinOp.neq 29 (Go.Operand.tmp 10) (Go.Operand.const
    (Go.Value.int Go.IntKind.i64 0)) t9 (Go.Value.int Go.IntKind.i64 0)) (fun t11 w => br t11 (K t9 w) (S.v P (S.nilC a0) (fun t15 w => S.v P (Instr.fieldAt 38
    t15 0) (fun t16 w => S.v P (Instr.loadAt 22 t16) (fun t17 w => S.v P (Builtin.append_ #[22, 22] 22 #[t17, a1]) (fun t19 w => S.v P (S.nilC a0) (fun t20 w
    => S.v P (Instr.fieldAt 38 t20 0) (fun t21 w => S.u P (Instr.storeAt 22 t21 t19) (fun w => K (Go.Value.int Go.IntKind.i64 0) w) w) w) w) w) w) w) w)) w) w)
    w
theorem F13_chk : chkFn Tryd.f13 (bodyOf Tryd.f13) [0, 1, 4, 5, 11] [] 2 = true := by kernel_rfl
theorem F13_eq (a0 a1 : Value) (K : Value → World → Prop) (w : World) : F13 Tryd.prog a0 a1 K w = denFn Tryd.prog (has ents) [] [0, 1, 4, 5, 11] (bodyOf Tryd.f13) Tryd.f13.results.toList [a0, a1] K w := by kernel_rfl
theorem F13_link {a0 a1 : Value} {K : Value → World → Prop} {w : World} (h : F13 Tryd.prog a0 a1 K w) : S.call Tryd.prog 13 [a0, a1] K w :=
  calls_of_den entOk mixOk Tryd.func13 rfl F13_chk (Eq.mp (F13_eq a0 a1 K w) h)
/-- (*lanyard/macro.Queue).Push -/
def F14 (P : Program) (a0 a1 : Value) (K : Value → World → Prop) (w : World) : Prop :=
  S.call P 32 [a0] (fun t7 w => br t7 (K (Go.Value.int Go.IntKind.i64 2) w) (S.v P (Builtin.len_ #[22] 3 #[a1]) (fun t9 w => S.v P (S.bin Go.BinOp.gtr 3
    (Go.Operand.tmp 9) (Go.Operand.const (Go.Value.int Go.IntKind.i64 128)) t9 (Go.Value.int Go.IntKind.i64 128)) (fun t10 w => br t10 (K (Go.Value.int
    Go.IntKind.i64 3) w) (S.v P (S.nilC a0) (fun t12 w => S.v P (Instr.fieldAt 38 t12 1) (fun t13 w => S.v P (Instr.loadAt 36 t13) (fun t14 w => S.v P
    (Builtin.len_ #[36] 3 #[t14]) (fun t15 w => S.v P (S.bin Go.BinOp.geq 3 (Go.Operand.tmp 15) (Go.Operand.const (Go.Value.int Go.IntKind.i64 16)) t15
    (Go.Value.int Go.IntKind.i64 16)) (fun t16 w => br t16 (K (Go.Value.int Go.IntKind.i64 6) w) (S.seq (fun vs w => K (Go.Value.int Go.IntKind.i64 0) w) (fun
    J => S.v P (Builtin.len_ #[22] 3 #[a1]) (fun t18 w => S.v P (S.bin Go.BinOp.gtr 3 (Go.Operand.tmp 18) (Go.Operand.const (Go.Value.int Go.IntKind.i64 0))
    t18 (Go.Value.int Go.IntKind.i64 0)) (fun t19 w => br t19 (S.v P (Builtin.len_ #[22] 3 #[a1]) (fun t21 w => S.v P (Instr.makeSlice 22 t21 t21) (fun t22 w
    => S.v P (Builtin.copy_ #[22, 22] 3 #[t22, a1]) (fun t25 w => S.v P (S.nilC a0) (fun t28 w => S.v P (Instr.fieldAt 38 t28 1) (fun t29 w => S.v P
    (Instr.loadAt 36 t29) (fun t30 w => S.v P (Instr.buildSlice 36 1 #[(0, t22)]) (fun t32 w => S.v P (Builtin.append_ #[36, 36] 36 #[t30, t32]) (fun t33 w =>
    S.v P (S.nilC a0) (fun t34 w => S.v P (Instr.fieldAt 38 t34 1) (fun t35 w => S.u P (Instr.storeAt 36 t35 t33) (fun w => J [t22, t19] w) w) w) w) w) w) w)
    w) w) w) w) w) (J [undef, t19] w)) w) w))) w) w) w) w) w)) w) w)) w
theorem F14_chk : chkFn Tryd.f14 (bodyOf Tryd.f14) [0, 1, 4, 5, 7, 10, 16, 19] [] 2 = true := by kernel_rfl
theorem F14_eq (a0 a1 : Value) (K : Value → World → Prop) (w : World) : F14 Tryd.prog a0 a1 K w = denFn Tryd.prog (has ents) [] [0, 1, 4, 5, 7, 10, 16, 19] (bodyOf Tryd.f14) Tryd.f14.results.toList [a0, a1] K w := by kernel_rfl
theorem F14_link {a0 a1 : Value} {K : Value → World → Prop} {w : World} (h : F14 Tryd.prog a0 a1 K w) : S.call Tryd.prog 14 [a0, a1] K w :=
  calls_of_den entOk mixOk Tryd.func14 rfl F14_chk (Eq.mp (F14_eq a0 a1 K w) h)
/-- (*lanyard/macro.Queue).Back -/
def F15 (P : Program) (a0 a1 : Value) (K : Value → World → Prop) (w : World) : Prop :=
  S.call P 32 [a0] (fun t8 w => br t8 (K (Go.Value.int Go.IntKind.i64 2) w) (S.v P (S.nilC a0) (fun t10 w => S.v P (Instr.fieldAt 38 t10 1) (fun t11 w => S.v P
    (Instr.loadAt 36 t11) (fun t12 w => S.v P (Builtin.len_ #[36] 3 #[t12]) (fun t13 w => S.v P (S.bin Go.BinOp.sub 3 (Go.Operand.tmp 13) (Go.Operand.const
    (Go.Value.int Go.IntKind.i64 1)) t13 (Go.Value.int Go.IntKind.i64 1)) (fun t14 w => S.v P (Builtin.len_ #[22] 3 #[a1]) (fun t17 w => S.v P (S.bin
    Go.BinOp.eql 3 (Go.Operand.tmp 17) (Go.Operand.const (Go.Value.int Go.IntKind.i64 0)) t17 (Go.Value.int Go.IntKind.i64 0)) (fun t18 w => br t18 (K
    (Go.Value.int Go.IntKind.i64 0) w) (S.v P (S.bin Go.BinOp.geq 3 (Go.Operand.tmp 20) (Go.Operand.const (Go.Value.int Go.IntKind.i64 0)) t14 (Go.Value.int
    Go.IntKind.i64 0)) (fun t21 w => br t21 (S.drawn (fun w => ∃ H : World → Prop, H w ∧ (S.h P H (S.nilC a0) (fun t23 w => S.h P H (Instr.fieldAt 38 t23 1)
    (fun t24 w => S.h P H (Instr.loadAt 36 t24) (fun t25 w => S.h P H (S.nilC a0) (fun t29 w => S.h P H (Instr.fieldAt 38 t29 1) (fun t30 w => S.h P H
    (Instr.loadAt 36 t30) (fun t31 w => S.h P H (Instr.indexAt 36 t31 t14) (fun t33 w => S.h P H (Instr.loadAt 22 t33) (fun t34 w => S.v P (Instr.buildSlice 36
    2 #[(0, a1), (1, t34)]) (fun t35 w => H w ∧ (S.call P 34 [t35] (fun t36 w => H w ∧ (S.h P H (Instr.indexAt 36 t25 t14) (fun t37 w => S.u P (Instr.storeAt
    22 t37 t36) (fun w => K (Go.Value.int Go.IntKind.i64 0) w) w) w)) w)) w) w) w) w) w) w) w) w) w)) w) (S.v P (S.nilC a0) (fun t40 w => S.v P (Instr.fieldAt
    38 t40 2) (fun t41 w => S.v P (Instr.loadAt 3 t41) (fun t42 w => S.v P (S.bin Go.BinOp.gtr 3 (Go.Operand.tmp 42) (Go.Operand.const (Go.Value.int
    Go.IntKind.i64 0)) t42 (Go.Value.int Go.IntKind.i64 0)) (fun t43 w => br t43 (S.call P 35 [a1] (fun t46 w => S.v P (Instr.buildSlice 36 1 #[(0, t46)]) (fun
    t47 w => S.v P (S.nilC a0) (fun t48 w => S.v P (Instr.fieldAt 38 t48 1) (fun t49 w => S.u P (Instr.storeAt 36 t49 t47) (fun w => K (Go.Value.int
    Go.IntKind.i64 0) w) w) w) w) w) w) (S.v P (Builtin.len_ #[22] 3 #[a1]) (fun t52 w => S.call P 33 [a0, t52] (fun t53 w => S.v P (S.bin Go.BinOp.neq 29
    (Go.Operand.tmp 54) (Go.Operand.const (Go.Value.int Go.IntKind.i64 0)) t53 (Go.Value.int Go.IntKind.i64 0)) (fun t55 w => br t55 (K t53 w) (S.v P (S.nilC
    a0) (fun t60 w => S.v P (Instr.fieldAt 38 t60 0) (fun t61 w => S.v P (Instr.loadAt 22 t61) (fun t62 w => S.v P (Instr.buildSlice 36 2 #[(0, a1), (1, t62)])
    (fun t63 w => S.call P 34 [t63] (fun t64 w => S.v P (S.nilC a0) (fun t65 w => S.v P (Instr.fieldAt 38 t65 0) (fun t66 w => S.u P (Instr.storeAt 22 t66 t64)
    (fun w => K (Go.Value.int Go.IntKind.i64 0) w) w) w) w) w) w) w) w) w)) w) w) w)) w) w) w) w)) w)) w) w) w) w) w) w) w)) w
theorem F15_chk : chkFn Tryd.f15 (bodyOf Tryd.f15) [0, 1, 4, 5, 6, 8, 15, 19, 38, 55] [(7, { ord := (.step 0 true (.step 1 true (.step 2 true (.step 3 true (.step 4 true (.step 5 true (.step 6 true (.step 7 true (.step 8 true (.step 9 true (.step 10 true (.step 11 true (.step 12 true (.step 13 false (.step 14 false (.step 15 true (.step 16 false .fin))))))))))))))))), flags := [13, 14], held := true, init := true })] 2 = true := by kernel_rfl
theorem F15_eq (a0 a1 : Value) (K : Value → World → Prop) (w : World) : F15 Tryd.prog a0 a1 K w = denFn Tryd.prog (has ents) [(7, { ord := (.step 0 true (.step 1 true (.step 2 true (.step 3 true (.step 4 true (.step 5 true (.step 6 true (.step 7 true (.step 8 true (.step 9 true (.step 10 true (.step 11 true (.step 12 true (.step 13 false (.step 14 false (.step 15 true (.step 16 false .fin))))))))))))))))), flags := [13, 14], held := true, init := true })] [0, 1, 4, 5, 6, 8, 15, 19, 38, 55] (bodyOf Tryd.f15) Tryd.f15.results.toList [a0, a1] K w := by kernel_rfl
theorem F15_link {a0 a1 : Value} {K : Value → World → Prop} {w : World} (h : F15 Tryd.prog a0 a1 K w) : S.call Tryd.prog 15 [a0, a1] K w :=
  calls_of_den entOk mixOk Tryd.func15 rfl F15_chk (Eq.mp (F15_eq a0 a1 K w) h)
/-- (*lanyard/macro.Queue).Len -/
def F16 (P : Program) (a0 : Value) (K : Value → World → Prop) (w : World) : Prop :=
  S.call P 32 [a0] (fun t7 w => br t7 (K (Go.Value.int Go.IntKind.i64 0) w) (S.v P (S.nilC a0) (fun t9 w => S.v P (Instr.fieldAt 38 t9 0) (fun t10 w => S.v P
    (Instr.loadAt 22 t10) (fun t11 w => S.v P (Builtin.len_ #[22] 3 #[t11]) (fun t12 w => S.v P (S.nilC a0) (fun t14 w => S.v P (Instr.fieldAt 38 t14 1) (fun
    t15 w => S.v P (Instr.loadAt 36 t15) (fun t16 w => S.v P (Builtin.len_ #[36] 3 #[t16]) (fun t17 w => S.loop (fun I => ∀ (x3 : Value) (x5 : Value) (x18 :
    Value) (x19 : Value) (w : World), (S.v P (S.bin Go.BinOp.lss 3 (Go.Operand.tmp 18) (Go.Operand.tmp 17) x18 t17) (fun t19 w => br t19 (S.v P (Instr.indexAt
    36 t16 x18) (fun t20 w => S.v P (Instr.loadAt 22 t20) (fun t21 w => S.v P (Builtin.len_ #[22] 3 #[t21]) (fun t24 w => S.v P (S.bin Go.BinOp.add 3
    (Go.Operand.tmp 22) (Go.Operand.tmp 24) x3 t24) (fun t25 w => S.v P (S.bin Go.BinOp.add 3 (Go.Operand.tmp 18) (Go.Operand.const (Go.Value.int
    Go.IntKind.i64 1)) x18 (Go.Value.int Go.IntKind.i64 1)) (fun t26 w => I [t25, t21, t26, t19] w) w) w) w) w) w) (K x3 w)) w) → I [x3, x5, x18, x19] w) [t12,
    undef, (Go.Value.int Go.IntKind.i64 0), undef] w) w) w) w) w) w) w) w) w)) w
theorem F16_chk : chkFn Tryd.f16 (bodyOf Tryd.f16) [0, 2, 3, 5, 7, 16, 17, 18, 19] [] 1 = true := by kernel_rfl
theorem F16_eq (a0 : Value) (K : Value → World → Prop) (w : World) : F16 Tryd.prog a0 K w = denFn Tryd.prog (has ents) [] [0, 2, 3, 5, 7, 16, 17, 18, 19] (bodyOf Tryd.f16) Tryd.f16.results.toList [a0] K w := by kernel_rfl
theorem F16_link {a0 : Value} {K : Value → World → Prop} {w : World} (h : F16 Tryd.prog a0 K w) : S.call Tryd.prog 16 [a0] K w :=
  calls_of_den entOk mixOk Tryd.func16 rfl F16_chk (Eq.mp (F16_eq a0 K w) h)
/-- (*lanyard/macro.Queue).Depth -/
def F17 (P : Program) (a0 : Value) (K : Value → World → Prop) (w : World) : Prop :=
  S.call P 32 [a0] (fun t4 w => br t4 (K (Go.Value.int Go.IntKind.i64 0) w) (S.v P (S.nilC a0) (fun t6 w => S.v P (Instr.fieldAt 38 t6 1) (fun t7 w => S.v P
    (Instr.loadAt 36 t7) (fun t8 w => S.v P (Builtin.len_ #[36] 3 #[t8]) (fun t9 w => K t9 w) w) w) w) w)) w
theorem F17_chk : chkFn Tryd.f17 (bodyOf Tryd.f17) [0, 2, 4] [] 1 = true := by kernel_rfl
theorem F17_eq (a0 : Value) (K : Value → World → Prop) (w : World) : F17 Tryd.prog a0 K w = denFn Tryd.prog (has ents) [] [0, 2, 4] (bodyOf Tryd.f17) Tryd.f17.results.toList [a0] K w := by kernel_rfl
theorem F17_link {a0 : Value} {K : Value → World → Prop} {w : World} (h : F17 Tryd.prog a0 K w) : S.call Tryd.prog 17 [a0] K w :=
  calls_of_den entOk mixOk Tryd.func17 rfl F17_chk (Eq.mp (F17_eq a0 K w) h)
/-- (*lanyard/macro.Queue).Drop -/
def F18 (P : Program) (a0 : Value) (K : Value → World → Prop) (w : World) : Prop :=
  S.call P 32 [a0] (fun t5 w => br t5 (K (Go.Value.int Go.IntKind.i64 0) w) (S.drawn (fun w => ∃ H : World → Prop, H w ∧ (S.h P H (S.nilC a0) (fun t9 w => S.h P
    H (Instr.fieldAt 38 t9 0) (fun t10 w => S.h P H (Instr.loadAt 22 t10) (fun t11 w => S.h P H (Builtin.len_ #[22] 3 #[t11]) (fun t12 w => S.call P 16 [a0]
    (fun t7 w => H w ∧ (S.h P H (S.bin Go.BinOp.sub 3 (Go.Operand.tmp 7) (Go.Operand.tmp 12) t7 t12) (fun t13 w => S.v P (S.nilC a0) (fun t15 w => S.v P
    (Instr.fieldAt 38 t15 1) (fun t16 w => S.u P (Instr.storeAt 36 t16 (Go.Value.slice none 0 0)) (fun w => K t13 w) w) w) w) w)) w) w) w) w) w)) w)) w
theorem F18_chk : chkFn Tryd.f18 (bodyOf Tryd.f18) [0, 2, 3, 5] [(3, { ord := (.step 0 true (.step 2 true (.step 3 true (.step 4 true (.step 5 true (.step 6 true (.step 1 false (.step 7 true (.step 8 true .fin))))))))), flags := [1], held := true, init := true })] 1 = true := by kernel_rfl
theorem F18_eq (a0 : Value) (K : Value → World → Prop) (w : World) : F18 Tryd.prog a0 K w = denFn Tryd.prog (has ents) [(3, { ord := (.step 0 true (.step 2 true (.step 3 true (.step 4 true (.step 5 true (.step 6 true (.step 1 false (.step 7 true (.step 8 true .fin))))))))), flags := [1], held := true, init := true })] [0, 2, 3, 5] (bodyOf Tryd.f18) Tryd.f18.results.toList [a0] K w := by kernel_rfl
theorem F18_link {a0 : Value} {K : Value → World → Prop} {w : World} (h : F18 Tryd.prog a0 K w) : S.call Tryd.prog 18 [a0] K w :=
  calls_of_den entOk mixOk Tryd.func18 rfl F18_chk (Eq.mp (F18_eq a0 K w) h)
/-- (*lanyard/macro.Queue).Clone -/
def F19 (P : Program) (a0 : Value) (K : Value → World → Prop) (w : World) : Prop :=
  S.call P 32 [a0] (fun t7 w => br t7 (K (Go.Value.pointer none) w) (S.drawn (fun w => ∃ H : World → Prop, H w ∧ (S.h P H (S.nilC a0) (fun t9 w => S.h P H
    (Instr.fieldAt 38 t9 0) (fun t10 w => S.h P H (Instr.loadAt 22 t10) (fun t11 w => S.h P H (S.nilC a0) (fun t14 w => S.h P H (Instr.fieldAt 38 t14 2) (fun
    t15 w => S.h P H (Instr.loadAt 3 t15) (fun t16 w => S.call P 35 [t11] (fun t12 w => H w ∧ (S.h P H (Instr.build 38 #[(0, t12), (2, t16), (3, (Go.Value.bool
    true))]) (fun t17 w => S.v P (Instr.box 38 t17) (fun t18 w => H w ∧ (S.v P (S.nilC a0) (fun t20 w => S.v P (Instr.fieldAt 38 t20 1) (fun t21 w => S.v P
    (Instr.loadAt 36 t21) (fun t22 w => S.v P (Builtin.len_ #[36] 3 #[t22]) (fun t23 w => S.loop (fun I => ∀ (x5 : Value) (x24 : Value) (x25 : Value) (w :
    World), (S.v P (S.bin Go.BinOp.lss 3 (Go.Operand.tmp 24) (Go.Operand.tmp 23) x24 t23) (fun t25 w => br t25 (S.v P (Instr.indexAt 36 t22 x24) (fun t26 w =>
    S.v P (Instr.loadAt 22 t26) (fun t27 w => S.drawn (fun w => ∃ H_1 : World → Prop, H_1 w ∧ (S.h P H_1 (S.nilC t18) (fun t30 w => S.h P H_1 (Instr.fieldAt 38
    t30 1) (fun t31 w => S.h P H_1 (Instr.loadAt 36 t31) (fun t32 w => S.call P 35 [t27] (fun t34 w => H_1 w ∧ (S.v P (Instr.buildSlice 36 1 #[(0, t34)]) (fun
    t35 w => H_1 w ∧ (S.v P (Builtin.append_ #[36, 36] 36 #[t32, t35]) (fun t36 w => H_1 w ∧ (S.v P (S.nilC t18) (fun t37 w => S.v P (Instr.fieldAt 38 t37 1)
    (fun t38 w => S.u P (Instr.storeAt 36 t38 t36) (fun w => S.v P (S.bin Go.BinOp.add 3 (Go.Operand.tmp 24) (Go.Operand.const (Go.Value.int Go.IntKind.i64 1))
    x24 (Go.Value.int Go.IntKind.i64 1)) (fun t39 w => I [t27, t39, t25] w) w) w) w) w)) w)) w)) w) w) w) w)) w) w) w) (K t18 w)) w) → I [x5, x24, x25] w)
    [undef, (Go.Value.int Go.IntKind.i64 0), undef] w) w) w) w) w)) w) w)) w) w) w) w) w) w) w)) w)) w
theorem F19_chk : chkFn Tryd.f19 (bodyOf Tryd.f19) [0, 2, 3, 5, 7, 22, 23, 24, 25] [(3, { ord := (.step 0 true (.step 1 true (.step 2 true (.step 3 true (.step 5 true (.step 6 true (.step 7 true (.step 8 true (.step 4 false (.step 9 true (.step 10 false (.step 11 true .fin)))))))))))), flags := [4, 10], held := true, init := true }), (7, { ord := (.step 0 true (.step 1 true (.step 2 true (.step 3 true (.step 4 true (.step 5 true (.step 6 false (.step 7 false (.step 8 false (.step 9 false (.step 10 false (.step 11 false .fin)))))))))))), flags := [6, 7, 8], held := true, init := true })] 1 = true := by kernel_rfl
theorem F19_eq (a0 : Value) (K : Value → World → Prop) (w : World) : F19 Tryd.prog a0 K w = denFn Tryd.prog (has ents) [(3, { ord := (.step 0 true (.step 1 true (.step 2 true (.step 3 true (.step 5 true (.step 6 true (.step 7 true (.step 8 true (.step 4 false (.step 9 true (.step 10 false (.step 11 true .fin)))))))))))), flags := [4, 10], held := true, init := true }), (7, { ord := (.step 0 true (.step 1 true (.step 2 true (.step 3 true (.step 4 true (.step 5 true (.step 6 false (.step 7 false (.step 8 false (.step 9 false (.step 10 false (.step 11 false .fin)))))))))))), flags := [6, 7, 8], held := true, init := true })] [0, 2, 3, 5, 7, 22, 23, 24, 25] (bodyOf Tryd.f19) Tryd.f19.results.toList [a0] K w := by kernel_rfl
theorem F19_link {a0 : Value} {K : Value → World → Prop} {w : World} (h : F19 Tryd.prog a0 K w) : S.call Tryd.prog 19 [a0] K w :=
  calls_of_den entOk mixOk Tryd.func19 rfl F19_chk (Eq.mp (F19_eq a0 K w) h)
/-- (*lanyard/macro.Recorder).Last -/
def F20 (P : Program) (a0 : Value) (K : Value → World → Prop) (w : World) : Prop :=
  S.call P 36 [a0] (fun t5 w => br t5 (K (.tuple #[(Go.Value.string { data := #[] }), (Go.Value.bool false)]) w) (S.drawn (fun w => S.p P (S.nilC a0) (fun t7 w
    => S.p P (Instr.fieldAt 47 t7 2) (fun t8 w => S.p P (Instr.loadAt 9 t8) (fun t9 w => S.p P (S.nilC a0) (fun t11 w => S.p P (Instr.fieldAt 47 t11 3) (fun
    t12 w => S.p P (Instr.loadAt 4 t12) (fun t13 w => K (.tuple #[t9, t13]) w) w) w) w) w) w) w) w)) w
theorem F20_chk : chkFn Tryd.f20 (bodyOf Tryd.f20) [0, 2, 3, 5] [(3, { ord := (.step 0 true (.step 1 true (.step 2 true (.step 3 true (.step 4 true (.step 5 true (.step 6 true (.step 7 true (.step 8 true (.step 9 true .fin)))))))))), flags := [], held := false, init := true })] 1 = true := by kernel_rfl
theorem F20_eq (a0 : Value) (K : Value → World → Prop) (w : World) : F20 Tryd.prog a0 K w = denFn Tryd.prog (has ents) [(3, { ord := (.step 0 true (.step 1 true (.step 2 true (.step 3 true (.step 4 true (.step 5 true (.step 6 true (.step 7 true (.step 8 true (.step 9 true .fin)))))))))), flags := [], held := false, init := true })] [0, 2, 3, 5] (bodyOf Tryd.f20) Tryd.f20.results.toList [a0] K w := by kernel_rfl
theorem F20_link {a0 : Value} {K : Value → World → Prop} {w : World} (h : F20 Tryd.prog a0 K w) : S.call Tryd.prog 20 [a0] K w :=
  calls_of_den entOk mixOk Tryd.func20 rfl F20_chk (Eq.mp (F20_eq a0 K w) h)
/-- (*lanyard/macro.Recorder).Start -/
def F21 (P : Program) (a0 : Value) (K : Value → World → Prop) (w : World) : Prop :=
  S.call P 36 [a0] (fun t4 w => br t4 (K (Go.Value.int Go.IntKind.i64 2) w) (S.v P (S.nilC a0) (fun t6 w => S.v P (Instr.fieldAt 47 t6 1) (fun t7 w => S.v P
    (Instr.loadAt 4 t7) (fun t8 w => br t8 (K (Go.Value.int Go.IntKind.i64 6) w) (S.v P (S.nilC a0) (fun t11 w => S.v P (Instr.fieldAt 47 t11 1) (fun t12 w =>
    S.u P (Instr.storeAt 4 t12 (Go.Value.bool true)) (fun w => S.v P (S.nilC a0) (fun t13 w => S.v P (Instr.fieldAt 47 t13 0) (fun t14 w => S.u P
    (Instr.storeAt 22 t14 (Go.Value.slice none 0 0)) (fun w => K (Go.Value.int Go.IntKind.i64 0) w) w) w) w) w) w) w)) w) w) w)) w
theorem F21_chk : chkFn Tryd.f21 (bodyOf Tryd.f21) [0, 2, 4, 8] [] 1 = true := by kernel_rfl
theorem F21_eq (a0 : Value) (K : Value → World → Prop) (w : World) : F21 Tryd.prog a0 K w = denFn Tryd.prog (has ents) [] [0, 2, 4, 8] (bodyOf Tryd.f21) Tryd.f21.results.toList [a0] K w := by kernel_rfl
theorem F21_link {a0 : Value} {K : Value → World → Prop} {w : World} (h : F21 Tryd.prog a0 K w) : S.call Tryd.prog 21 [a0] K w :=
  calls_of_den entOk mixOk Tryd.func21 rfl F21_chk (Eq.mp (F21_eq a0 K w) h)
/-- (*lanyard/macro.Recorder).End -/
def F22 (P : Program) (a0 : Value) (K : Value → World → Prop) (w : World) : Prop :=
  S.call P 37 [a0] (fun t5 w => S.v P (S.bin Go.BinOp.neq 29 (Go.Operand.tmp 6) (Go.Operand.const (Go.Value.int Go.IntKind.i64 0)) t5 (Go.Value.int
    Go.IntKind.i64 0)) (fun t7 w => br t7 (K t5 w) (S.v P (S.nilC a0) (fun t12 w => S.v P (Instr.fieldAt 47 t12 0) (fun t13 w => S.v P (Instr.loadAt 22 t13)
    (fun t14 w => S.v P (Go.convert 22 9 t14) (fun t15 w => S.v P (S.nilC a0) (fun t16 w => S.v P (Instr.fieldAt 47 t16 2) (fun t17 w => S.u P (Instr.storeAt 9
    t17 t15) (fun w => S.v P (S.nilC a0) (fun t18 w => S.v P (Instr.fieldAt 47 t18 3) (fun t19 w => S.u P (Instr.storeAt 4 t19 (Go.Value.bool true)) (fun w =>
    S.v P (S.nilC a0) (fun t22 w => S.v P (Instr.fieldAt 47 t22 1) (fun t23 w => S.u P (Instr.storeAt 4 t23 (Go.Value.bool false)) (fun w => S.v P (S.nilC a0)
    (fun t24 w => S.v P (Instr.fieldAt 47 t24 0) (fun t25 w => S.u P (Instr.storeAt 22 t25 (Go.Value.slice none 0 0)) (fun w => K (Go.Value.int Go.IntKind.i64
    0) w) w) w) w) w) w) w) w) w) w) w) w) w) w) w) w) w)) w) w
theorem F22_chk : chkFn Tryd.f22 (bodyOf Tryd.f22) [0, 2, 3, 7] [] 1 = true := by kernel_rfl
theorem F22_eq (a0 : Value) (K : Value → World → Prop) (w : World) : F22 Tryd.prog a0 K w = denFn Tryd.prog (has ents) [] [0, 2, 3, 7] (bodyOf Tryd.f22) Tryd.f22.results.toList [a0] K w := by kernel_rfl
theorem F22_link {a0 : Value} {K : Value → World → Prop} {w : World} (h : F22 Tryd.prog a0 K w) : S.call Tryd.prog 22 [a0] K w :=
  calls_of_den entOk mixOk Tryd.func22 rfl F22_chk (Eq.mp (F22_eq a0 K w) h)
/-- (*lanyard/macro.Recorder).Put -/
def F23 (P : Program) (a0 a1 : Value) (K : Value → World → Prop) (w : World) : Prop :=
  S.call P 37 [a0] (fun t7 w => S.v P (S.bin Go.BinOp.neq 29 (Go.Operand.tmp 8) (Go.Operand.const (Go.Value.int Go.IntKind.i64 0)) t7 (Go.Value.int
    Go.IntKind.i64 0)) (fun t9 w => br t9 (K t7 w) (S.v P (S.nilC a0) (fun t12 w => S.v P (Instr.fieldAt 47 t12 0) (fun t13 w => S.v P (Instr.loadAt 22 t13)
    (fun t14 w => S.v P (Builtin.len_ #[22] 3 #[t14]) (fun t15 w => S.v P (Builtin.len_ #[22] 3 #[a1]) (fun t17 w => S.v P (S.bin Go.BinOp.add 3
    (Go.Operand.tmp 15) (Go.Operand.tmp 17) t15 t17) (fun t18 w => S.v P (S.bin Go.BinOp.gtr 3 (Go.Operand.tmp 18) (Go.Operand.const (Go.Value.int
    Go.IntKind.i64 128)) t18 (Go.Value.int Go.IntKind.i64 128)) (fun t19 w => br t19 (S.v P (S.nilC a0) (fun t22 w => S.v P (Instr.fieldAt 47 t22 1) (fun t23 w
    => S.u P (Instr.storeAt 4 t23 (Go.Value.bool false)) (fun w => S.v P (S.nilC a0) (fun t24 w => S.v P (Instr.fieldAt 47 t24 0) (fun t25 w => S.u P
    (Instr.storeAt 22 t25 (Go.Value.slice none 0 0)) (fun w => K (Go.Value.int Go.IntKind.i64 3) w) w) w) w) w) w) w) (S.v P (S.nilC a0) (fun t28 w => S.v P
    (Instr.fieldAt 47 t28 0) (fun t29 w => S.v P (Instr.loadAt 22 t29) (fun t30 w => S.v P (Builtin.append_ #[22, 22] 22 #[t30, a1]) (fun t32 w => S.v P
    (S.nilC a0) (fun t33 w => S.v P (Instr.fieldAt 47 t33 0) (fun t34 w => S.u P (Instr.storeAt 22 t34 t32) (fun w => K (Go.Value.int Go.IntKind.i64 0) w) w)
    w) w) w) w) w) w)) w) w) w) w) w) w) w)) w) w
theorem F23_chk : chkFn Tryd.f23 (bodyOf Tryd.f23) [0, 1, 4, 5, 9, 19] [] 2 = true := by kernel_rfl
theorem F23_eq (a0 a1 : Value) (K : Value → World → Prop) (w : World) : F23 Tryd.prog a0 a1 K w = denFn Tryd.prog (has ents) [] [0, 1, 4, 5, 9, 19] (bodyOf Tryd.f23) Tryd.f23.results.toList [a0, a1] K w := by kernel_rfl
theorem F23_link {a0 a1 : Value} {K : Value → World → Prop} {w : World} (h : F23 Tryd.prog a0 a1 K w) : S.call Tryd.prog 23 [a0, a1] K w :=
  calls_of_den entOk mixOk Tryd.func23 rfl F23_chk (Eq.mp (F23_eq a0 a1 K w) h)
/-- (*lanyard/macro.Recorder).Cancel -/
def F24 (P : Program) (a0 : Value) (K : Value → World → Prop) (w : World) : Prop :=
  S.call P 37 [a0] (fun t5 w => S.v P (S.bin Go.BinOp.neq 29 (Go.Operand.tmp 6) (Go.Operand.const (Go.Value.int Go.IntKind.i64 0)) t5 (Go.Value.int
    Go.IntKind.i64 0)) (fun t7 w => br t7 (K t5 w) (S.v P (S.nilC a0) (fun t11 w => S.v P (Instr.fieldAt 47 t11 1) (fun t12 w => S.u P (Instr.storeAt 4 t12
    (Go.Value.bool false)) (fun w => S.v P (S.nilC a0) (fun t13 w => S.v P (Instr.fieldAt 47 t13 0) (fun t14 w => S.u P (Instr.storeAt 22 t14 (Go.Value.slice
    none 0 0)) (fun w => K (Go.Value.int Go.IntKind.i64 0) w) w) w) w) w) w) w)) w) w
theorem F24_chk : chkFn Tryd.f24 (bodyOf Tryd.f24) [0, 2, 3, 7] [] 1 = true := by kernel_rfl
theorem F24_eq (a0 : Value) (K : Value → World → Prop) (w : World) : F24 Tryd.prog a0 K w = denFn Tryd.prog (has ents) [] [0, 2, 3, 7] (bodyOf Tryd.f24) Tryd.f24.results.toList [a0] K w := by kernel_rfl
theorem F24_link {a0 : Value} {K : Value → World → Prop} {w : World} (h : F24 Tryd.prog a0 K w) : S.call Tryd.prog 24 [a0] K w :=
  calls_of_den entOk mixOk Tryd.func24 rfl F24_chk (Eq.mp (F24_eq a0 K w) h)
/-- (*lanyard/macro.Recorder).On -/
def F25 (P : Program) (a0 : Value) (K : Value → World → Prop) (w : World) : Prop :=
  S.call P 36 [a0] (fun t4 w => S.v P (Op.unary Go.UnOp.not t4) (fun t5 w => br t5 (S.v P (S.nilC a0) (fun t8 w => S.v P (Instr.fieldAt 47 t8 1) (fun t9 w => S.v
    P (Instr.loadAt 4 t9) (fun t10 w => K t10 w) w) w) w) (K (Go.Value.bool false) w)) w) w
theorem F25_chk : chkFn Tryd.f25 (bodyOf Tryd.f25) [0, 2] [] 1 = true := by kernel_rfl
theorem F25_eq (a0 : Value) (K : Value → World → Prop) (w : World) : F25 Tryd.prog a0 K w = denFn Tryd.prog (has ents) [] [0, 2] (bodyOf Tryd.f25) Tryd.f25.results.toList [a0] K w := by kernel_rfl
theorem F25_link {a0 : Value} {K : Value → World → Prop} {w : World} (h : F25 Tryd.prog a0 K w) : S.call Tryd.prog 25 [a0] K w :=
  calls_of_den entOk mixOk Tryd.func25 rfl F25_chk (Eq.mp (F25_eq a0 K w) h)
/-- (*lanyard/macro.Recorder).Clone -/
def F26 (P : Program) (a0 : Value) (K : Value → World → Prop) (w : World) : Prop :=
  S.call P 36 [a0] (fun t5 w => br t5 (K (Go.Value.pointer none) w) (S.v P (S.nilC a0) (fun t7 w => S.v P (Instr.loadAt 47 t7) (fun t8 w => S.v P (Instr.alloc 47
    true (.tuple #[])) (fun t3 w => S.u P (Instr.storeAt 47 t3 t8) (fun w => S.v P (S.nilC a0) (fun t10 w => S.v P (Instr.fieldAt 47 t10 0) (fun t11 w => S.v P
    (Instr.loadAt 22 t11) (fun t12 w => S.call P 35 [t12] (fun t13 w => S.v P (Instr.fieldAt 47 t3 0) (fun t14 w => S.u P (Instr.storeAt 22 t14 t13) (fun w =>
    K t3 w) w) w) w) w) w) w) w) w) w) w)) w
theorem F26_chk : chkFn Tryd.f26 (bodyOf Tryd.f26) [0, 2, 3, 5] [] 1 = true := by kernel_rfl
theorem F26_eq (a0 : Value) (K : Value → World → Prop) (w : World) : F26 Tryd.prog a0 K w = denFn Tryd.prog (has ents) [] [0, 2, 3, 5] (bodyOf Tryd.f26) Tryd.f26.results.toList [a0] K w := by kernel_rfl
theorem F26_link {a0 : Value} {K : Value → World → Prop} {w : World} (h : F26 Tryd.prog a0 K w) : S.call Tryd.prog 26 [a0] K w :=
  calls_of_den entOk mixOk Tryd.func26 rfl F26_chk (Eq.mp (F26_eq a0 K w) h)
/-- lanyard/macro.NewQueue -/
def F27 (P : Program) (K : Value → World → Prop) (w : World) : Prop :=
  S.v P (Instr.build 38 #[(3, (Go.Value.bool true))]) (fun t1 w => S.v P (Instr.box 38 t1) (fun t2 w => K t2 w) w) w
theorem F27_chk : chkFn Tryd.f27 (bodyOf Tryd.f27) [0] [] 0 = true := by kernel_rfl
theorem F27_eq (K : Value → World → Prop) (w : World) : F27 Tryd.prog K w = denFn Tryd.prog (has ents) [] [0] (bodyOf Tryd.f27) Tryd.f27.results.toList [] K w := by kernel_rfl
theorem F27_link {K : Value → World → Prop} {w : World} (h : F27 Tryd.prog K w) : S.call Tryd.prog 27 [] K w :=
  calls_of_den entOk mixOk Tryd.func27 rfl F27_chk (Eq.mp (F27_eq K w) h)
/-- bytes.HasSuffix -/
def F28 (P : Program) (a0 a1 : Value) (K : Value → World → Prop) (w : World) : Prop :=
  S.v P (Builtin.len_ #[22] 3 #[a0]) (fun t6 w => S.v P (Builtin.len_ #[22] 3 #[a1]) (fun t8 w => S.v P (S.bin Go.BinOp.geq 3 (Go.Operand.tmp 6) (Go.Operand.tmp
    8) t6 t8) (fun t9 w => br t9 (S.v P (Builtin.len_ #[22] 3 #[a0]) (fun t13 w => S.v P (Builtin.len_ #[22] 3 #[a1]) (fun t15 w => S.v P (S.bin Go.BinOp.sub 3
    (Go.Operand.tmp 13) (Go.Operand.tmp 15) t13 t15) (fun t16 w => S.v P (Instr.sliceAt 22 a0 (some t16) none none) (fun t17 w => S.call P 38 [t17, a1] (fun
    t19 w => K t19 w) w) w) w) w) w) (K (Go.Value.bool false) w)) w) w) w
theorem F28_chk : chkFn Tryd.f28 (bodyOf Tryd.f28) [0, 1, 4] [] 2 = true := by kernel_rfl
theorem F28_eq (a0 a1 : Value) (K : Value → World → Prop) (w : World) : F28 Tryd.prog a0 a1 K w = denFn Tryd.prog (has ents) [] [0, 1, 4] (bodyOf Tryd.f28) Tryd.f28.results.toList [a0, a1] K w := by kernel_rfl
theorem F28_link {a0 a1 : Value} {K : Value → World → Prop} {w : World} (h : F28 Tryd.prog a0 a1 K w) : S.call Tryd.prog 28 [a0, a1] K w :=
  calls_of_den entOk mixOk Tryd.func28 rfl F28_chk (Eq.mp (F28_eq a0 a1 K w) h)
/-- bytes.ReplaceAll -/
def F29 (P : Program) (a0 a1 a2 : Value) (K : Value → World → Prop) (w : World) : Prop :=
  S.call P 39 [a0, a1, a2, (Go.Value.int Go.IntKind.i64 (-1))] (fun t10 w => K t10 w) w
theorem F29_chk : chkFn Tryd.f29 (bodyOf Tryd.f29) [0, 1, 2, 6] [] 3 = true := by kernel_rfl
theorem F29_eq (a0 a1 a2 : Value) (K : Value → World → Prop) (w : World) : F29 Tryd.prog a0 a1 a2 K w = denFn Tryd.prog (has ents) [] [0, 1, 2, 6] (bodyOf Tryd.f29) Tryd.f29.results.toList [a0, a1, a2] K w := by kernel_rfl
theorem F29_link {a0 a1 a2 : Value} {K : Value → World → Prop} {w : World} (h : F29 Tryd.prog a0 a1 a2 K w) : S.call Tryd.prog 29 [a0, a1, a2] K w :=
  calls_of_den entOk mixOk Tryd.func29 rfl F29_chk (Eq.mp (F29_eq a0 a1 a2 K w) h)
/-- lanyard/ucell.Runes -/
def F30 (P : Program) (a0 : Value) (K : Value → World → Prop) (w : World) : Prop :=
  S.loop (fun I => ∀ (x0 : Value) (x3 : Value) (x4 : Value) (x5 : Value) (x8 : Value) (w : World), (S.v P (Builtin.len_ #[22] 3 #[x0]) (fun t7 w => S.v P (S.bin
    Go.BinOp.gtr 3 (Go.Operand.tmp 7) (Go.Operand.const (Go.Value.int Go.IntKind.i64 0)) t7 (Go.Value.int Go.IntKind.i64 0)) (fun t8 w => br t8 (S.call P 40
    [x0] (fun t11 w => S.v P (Instr.extract t11 0) (fun t12 w => S.v P (Instr.extract t11 1) (fun t13 w => S.v P (Instr.buildSlice 32 1 #[(0, t12)]) (fun t16 w
    => S.v P (Builtin.append_ #[32, 32] 32 #[x3, t16]) (fun t17 w => S.v P (Instr.sliceAt 22 x0 (some t13) none none) (fun t20 w => I [t20, t17, t12, t13, t8]
    w) w) w) w) w) w) w) (K x3 w)) w) w) → I [x0, x3, x4, x5, x8] w) [a0, (Go.Value.slice none 0 0), undef, undef, undef] w
theorem F30_chk : chkFn Tryd.f30 (bodyOf Tryd.f30) [0, 2, 3, 4, 5, 8] [] 1 = true := by kernel_rfl
theorem F30_eq (a0 : Value) (K : Value → World → Prop) (w : World) : F30 Tryd.prog a0 K w = denFn Tryd.prog (has ents) [] [0, 2, 3, 4, 5, 8] (bodyOf Tryd.f30) Tryd.f30.results.toList [a0] K w := by kernel_rfl
theorem F30_link {a0 : Value} {K : Value → World → Prop} {w : World} (h : F30 Tryd.prog a0 K w) : S.call Tryd.prog 30 [a0] K w :=
  calls_of_den entOk mixOk Tryd.func30 rfl F30_chk (Eq.mp (F30_eq a0 K w) h)
/-- lanyard/lanyardref01.Runes -/
def F31 (P : Program) (a0 : Value) (K : Value → World → Prop) (w : World) : Prop :=
  S.loop (fun I => ∀ (x0 : Value) (x3 : Value) (x4 : Value) (x5 : Value) (x8 : Value) (x20 : Value) (w : World), (S.v P (Builtin.len_ #[22] 3 #[x0]) (fun t7 w =>
    S.v P (S.bin Go.BinOp.gtr 3 (Go.Operand.tmp 7) (Go.Operand.const (Go.Value.int Go.IntKind.i64 0)) t7 (Go.Value.int Go.IntKind.i64 0)) (fun t8 w => br t8
    (S.call P 41 [x0] (fun t11 w => S.v P (Instr.extract t11 0) (fun t12 w => S.v P (Instr.extract t11 1) (fun t13 w => S.v P (S.bin Go.BinOp.eql 3
    (Go.Operand.tmp 14) (Go.Operand.tmp 15) t12 t13) (fun t16 w => br t16 (S.v P (S.bin Go.BinOp.gtr 3 (Go.Operand.tmp 18) (Go.Operand.const (Go.Value.int
    Go.IntKind.i64 0)) t13 (Go.Value.int Go.IntKind.i64 0)) (fun t19 w => br t19 (S.v P (Instr.sliceAt 22 x0 none (some t13) none) (fun t24 w => S.call P 42
    [t24] (fun t25 w => S.v P (Instr.buildSlice 32 1 #[(0, t25)]) (fun t26 w => S.v P (Builtin.append_ #[32, 32] 32 #[x3, t26]) (fun t27 w => S.v P
    (Instr.sliceAt 22 x0 (some t13) none none) (fun t30 w => I [t30, t27, t12, t13, t8, t19] w) w) w) w) w) w) (S.v P (Instr.buildSlice 32 1 #[(0,
    (Go.Value.int Go.IntKind.i32 65533))]) (fun t32 w => S.v P (Builtin.append_ #[32, 32] 32 #[x3, t32]) (fun t33 w => S.v P (Instr.sliceAt 22 x0 (some
    (Go.Value.int Go.IntKind.i64 1)) none none) (fun t35 w => I [t35, t33, t12, t13, t8, t19] w) w) w) w)) w) (S.v P (Instr.buildSlice 32 1 #[(0, (Go.Value.int
    Go.IntKind.i32 65533))]) (fun t32_1 w => S.v P (Builtin.append_ #[32, 32] 32 #[x3, t32_1]) (fun t33_1 w => S.v P (Instr.sliceAt 22 x0 (some (Go.Value.int
    Go.IntKind.i64 1)) none none) (fun t35_1 w => I [t35_1, t33_1, t12, t13, t8, (Go.Value.bool false)] w) w) w) w)) w) w) w) w) (K x3 w)) w) w) → I [x0, x3,
    x4, x5, x8, x20] w) [a0, (Go.Value.slice none 0 0), undef, undef, undef, undef] w
theorem F31_chk : chkFn Tryd.f31 (bodyOf Tryd.f31) [0, 2, 3, 4, 5, 8, 20] [] 1 = true := by kernel_rfl
theorem F31_eq (a0 : Value) (K : Value → World → Prop) (w : World) : F31 Tryd.prog a0 K w = denFn Tryd.prog (has ents) [] [0, 2, 3, 4, 5, 8, 20] (bodyOf Tryd.f31) Tryd.f31.results.toList [a0] K w := by kernel_rfl
theorem F31_link {a0 : Value} {K : Value → World → Prop} {w : World} (h : F31 Tryd.prog a0 K w) : S.call Tryd.prog 31 [a0] K w :=
  calls_of_den entOk mixOk Tryd.func31 rfl F31_chk (Eq.mp (F31_eq a0 K w) h)
/-- (*lanyard/macro.Queue).none -/
def F32 (P : Program) (a0 : Value) (K : Value → World → Prop) (w : World) : Prop :=
  S.v P (S.bin Go.BinOp.eql 35 (Go.Operand.tmp 3) (Go.Operand.const (Go.Value.pointer none)) a0 (Go.Value.pointer none)) (fun t4 w => br t4 (K (Go.Value.bool
    true) w) (S.v P (S.nilC a0) (fun t7 w => S.v P (Instr.fieldAt 38 t7 3) (fun t8 w => S.v P (Instr.loadAt 4 t8) (fun t9 w => S.v P (Op.unary Go.UnOp.not t9)
    (fun t10 w => K t10 w) w) w) w) w)) w
theorem F32_chk : chkFn Tryd.f32 (bodyOf Tryd.f32) [0, 2] [] 1 = true := by kernel_rfl
theorem F32_eq (a0 : Value) (K : Value → World → Prop) (w : World) : F32 Tryd.prog a0 K w = denFn Tryd.prog (has ents) [] [0, 2] (bodyOf Tryd.f32) Tryd.f32.results.toList [a0] K w := by kernel_rfl
theorem F32_link {a0 : Value} {K : Value → World → Prop} {w : World} (h : F32 Tryd.prog a0 K w) : S.call Tryd.prog 32 [a0] K w :=
  calls_of_den entOk mixOk Tryd.func32 rfl F32_chk (Eq.mp (F32_eq a0 K w) h)
/-- (*lanyard/macro.Queue).room -/
def F33 (P : Program) (a0 a1 : Value) (K : Value → World → Prop) (w : World) : Prop :=
  S.call P 32 [a0] (fun t6 w => br t6 (K (Go.Value.int Go.IntKind.i64 2) w) (S.v P (S.nilC a0) (fun t9 w => S.v P (Instr.fieldAt 38 t9 0) (fun t10 w => S.v P
    (Instr.loadAt 22 t10) (fun t11 w => S.v P (Builtin.len_ #[22] 3 #[t11]) (fun t12 w => S.v P (S.bin Go.BinOp.sub 3 (Go.Operand.const (Go.Value.int
    Go.IntKind.i64 65536)) (Go.Operand.tmp 12) (Go.Value.int Go.IntKind.i64 65536) t12) (fun t13 w => S.v P (S.bin Go.BinOp.gtr 3 (Go.Operand.tmp 7)
    (Go.Operand.tmp 13) a1 t13) (fun t14 w => br t14 (K (Go.Value.int Go.IntKind.i64 3) w) (K (Go.Value.int Go.IntKind.i64 0) w)) w) w) w) w) w) w)) w
theorem F33_chk : chkFn Tryd.f33 (bodyOf Tryd.f33) [0, 1, 4, 6, 14] [] 2 = true := by kernel_rfl
theorem F33_eq (a0 a1 : Value) (K : Value → World → Prop) (w : World) : F33 Tryd.prog a0 a1 K w = denFn Tryd.prog (has ents) [] [0, 1, 4, 6, 14] (bodyOf Tryd.f33) Tryd.f33.results.toList [a0, a1] K w := by kernel_rfl
theorem F33_link {a0 a1 : Value} {K : Value → World → Prop} {w : World} (h : F33 Tryd.prog a0 a1 K w) : S.call Tryd.prog 33 [a0, a1] K w :=
  calls_of_den entOk mixOk Tryd.func33 rfl F33_chk (Eq.mp (F33_eq a0 a1 K w) h)
/-- slices.Concat[[]byte,byte] -/
def F34 (P : Program) (a0 : Value) (K : Value → World → Prop) (w : World) : Prop :=
  S.v P (Builtin.len_ #[36] 3 #[a0]) (fun t10 w => S.loop (fun I => ∀ (x3 : Value) (x5 : Value) (x11 : Value) (x12 : Value) (x20 : Value) (w : World), (S.v P
    (S.bin Go.BinOp.lss 3 (Go.Operand.tmp 11) (Go.Operand.tmp 10) x11 t10) (fun t12 w => br t12 (S.seq (fun vs w => S.v P (S.bin Go.BinOp.add 3 (Go.Operand.tmp
    11) (Go.Operand.const (Go.Value.int Go.IntKind.i64 1)) x11 (Go.Value.int Go.IntKind.i64 1)) (fun t22 w => I [(nth vs 0), (nth vs 1), t22, t12, (nth vs 2)]
    w) w) (fun J => S.v P (Instr.indexAt 36 a0 x11) (fun t13 w => S.v P (Instr.loadAt 22 t13) (fun t14 w => S.v P (Builtin.len_ #[22] 3 #[t14]) (fun t17 w =>
    S.v P (S.bin Go.BinOp.add 3 (Go.Operand.tmp 15) (Go.Operand.tmp 17) x3 t17) (fun t18 w => S.v P (S.bin Go.BinOp.lss 3 (Go.Operand.tmp 19) (Go.Operand.const
    (Go.Value.int Go.IntKind.i64 0)) t18 (Go.Value.int Go.IntKind.i64 0)) (fun t20 w => br t20 (S.v P (Instr.makeInterface 9 (Go.Value.string { data := #[108,
    101, 110, 32, 111, 117, 116, 32, 111, 102, 32, 114, 97, 110, 103, 101] })) (fun t21 w => S.v P (Instr.panic t21) (fun _ w => J [t18, t14, t20] w) w) w) (J
    [t18, t14, t20] w)) w) w) w) w) w)) (S.call P 43 [(Go.Value.slice none 0 0), x3] (fun t24 w => S.v P (Builtin.len_ #[36] 3 #[a0]) (fun t26 w => S.loop (fun
    I_1 => ∀ (x6 : Value) (x8 : Value) (x27 : Value) (x28 : Value) (w : World), (S.v P (S.bin Go.BinOp.lss 3 (Go.Operand.tmp 27) (Go.Operand.tmp 26) x27 t26)
    (fun t28 w => br t28 (S.v P (Instr.indexAt 36 a0 x27) (fun t29 w => S.v P (Instr.loadAt 22 t29) (fun t30 w => S.v P (Builtin.append_ #[22, 22] 22 #[x6,
    t30]) (fun t33 w => S.v P (S.bin Go.BinOp.add 3 (Go.Operand.tmp 27) (Go.Operand.const (Go.Value.int Go.IntKind.i64 1)) x27 (Go.Value.int Go.IntKind.i64 1))
    (fun t34 w => I_1 [t33, t30, t34, t28] w) w) w) w) w) (K x6 w)) w) → I_1 [x6, x8, x27, x28] w) [t24, undef, (Go.Value.int Go.IntKind.i64 0), undef] w) w)
    w)) w) → I [x3, x5, x11, x12, x20] w) [(Go.Value.int Go.IntKind.i64 0), undef, (Go.Value.int Go.IntKind.i64 0), undef, undef] w) w
theorem F34_chk : chkFn Tryd.f34 (bodyOf Tryd.f34) [0, 2, 3, 5, 6, 8, 9, 10, 11, 12, 20, 25, 26, 27, 28] [] 1 = true := by kernel_rfl
theorem F34_eq (a0 : Value) (K : Value → World → Prop) (w : World) : F34 Tryd.prog a0 K w = denFn Tryd.prog (has ents) [] [0, 2, 3, 5, 6, 8, 9, 10, 11, 12, 20, 25, 26, 27, 28] (bodyOf Tryd.f34) Tryd.f34.results.toList [a0] K w := by kernel_rfl
theorem F34_link {a0 : Value} {K : Value → World → Prop} {w : World} (h : F34 Tryd.prog a0 K w) : S.call Tryd.prog 34 [a0] K w :=
  calls_of_den entOk mixOk Tryd.func34 rfl F34_chk (Eq.mp (F34_eq a0 K w) h)
/-- slices.Clone[[]byte,byte] -/
def F35 (P : Program) (a0 : Value) (K : Value → World → Prop) (w : World) : Prop :=
  S.v P (S.bin Go.BinOp.eql 22 (Go.Operand.tmp 3) (Go.Operand.const (Go.Value.slice none 0 0)) a0 (Go.Value.slice none 0 0)) (fun t4 w => br t4 (K
    (Go.Value.slice none 0 0) w) (S.v P (Instr.buildSlice 22 0 #[]) (fun t5 w => S.v P (Builtin.append_ #[22, 22] 22 #[t5, a0]) (fun t7 w => K t7 w) w) w)) w
theorem F35_chk : chkFn Tryd.f35 (bodyOf Tryd.f35) [0, 2, 4] [] 1 = true := by kernel_rfl
theorem F35_eq (a0 : Value) (K : Value → World → Prop) (w : World) : F35 Tryd.prog a0 K w = denFn Tryd.prog (has ents) [] [0, 2, 4] (bodyOf Tryd.f35) Tryd.f35.results.toList [a0] K w := by kernel_rfl
theorem F35_link {a0 : Value} {K : Value → World → Prop} {w : World} (h : F35 Tryd.prog a0 K w) : S.call Tryd.prog 35 [a0] K w :=
  calls_of_den entOk mixOk Tryd.func35 rfl F35_chk (Eq.mp (F35_eq a0 K w) h)
/-- (*lanyard/macro.Recorder).none -/
def F36 (P : Program) (a0 : Value) (K : Value → World → Prop) (w : World) : Prop :=
  S.v P (S.bin Go.BinOp.eql 45 (Go.Operand.tmp 3) (Go.Operand.const (Go.Value.pointer none)) a0 (Go.Value.pointer none)) (fun t4 w => br t4 (K (Go.Value.bool
    true) w) (S.v P (S.nilC a0) (fun t7 w => S.v P (Instr.fieldAt 47 t7 4) (fun t8 w => S.v P (Instr.loadAt 4 t8) (fun t9 w => S.v P (Op.unary Go.UnOp.not t9)
    (fun t10 w => K t10 w) w) w) w) w)) w
theorem F36_chk : chkFn Tryd.f36 (bodyOf Tryd.f36) [0, 2] [] 1 = true := by kernel_rfl
theorem F36_eq (a0 : Value) (K : Value → World → Prop) (w : World) : F36 Tryd.prog a0 K w = denFn Tryd.prog (has ents) [] [0, 2] (bodyOf Tryd.f36) Tryd.f36.results.toList [a0] K w := by kernel_rfl
theorem F36_link {a0 : Value} {K : Value → World → Prop} {w : World} (h : F36 Tryd.prog a0 K w) : S.call Tryd.prog 36 [a0] K w :=
  calls_of_den entOk mixOk Tryd.func36 rfl F36_chk (Eq.mp (F36_eq a0 K w) h)
/-- (*lanyard/macro.Recorder).wants -/
def F37 (P : Program) (a0 : Value) (K : Value → World → Prop) (w : World) : Prop :=
  S.call P 36 [a0] (fun t4 w => br t4 (K (Go.Value.int Go.IntKind.i64 2) w) (S.v P (S.nilC a0) (fun t6 w => S.v P (Instr.fieldAt 47 t6 1) (fun t7 w => S.v P
    (Instr.loadAt 4 t7) (fun t8 w => S.v P (Op.unary Go.UnOp.not t8) (fun t9 w => br t9 (K (Go.Value.int Go.IntKind.i64 6) w) (K (Go.Value.int Go.IntKind.i64
    0) w)) w) w) w) w)) w
theorem F37_chk : chkFn Tryd.f37 (bodyOf Tryd.f37) [0, 2, 4, 9] [] 1 = true := by kernel_rfl
theorem F37_eq (a0 : Value) (K : Value → World → Prop) (w : World) : F37 Tryd.prog a0 K w = denFn Tryd.prog (has ents) [] [0, 2, 4, 9] (bodyOf Tryd.f37) Tryd.f37.results.toList [a0] K w := by kernel_rfl
theorem F37_link {a0 : Value} {K : Value → World → Prop} {w : World} (h : F37 Tryd.prog a0 K w) : S.call Tryd.prog 37 [a0] K w :=
  calls_of_den entOk mixOk Tryd.func37 rfl F37_chk (Eq.mp (F37_eq a0 K w) h)
/-- bytes.Equal -/
def F38 (P : Program) (a0 a1 : Value) (K : Value → World → Prop) (w : World) : Prop :=
  S.v P (Go.convert 22 9 a0) (fun t6 w => S.v P (Go.convert 22 9 a1) (fun t8 w => S.v P (S.bin Go.BinOp.eql 9 (Go.Operand.tmp 6) (Go.Operand.tmp 8) t6 t8) (fun
    t9 w => K t9 w) w) w) w
theorem F38_chk : chkFn Tryd.f38 (bodyOf Tryd.f38) [0, 1, 4] [] 2 = true := by kernel_rfl
theorem F38_eq (a0 a1 : Value) (K : Value → World → Prop) (w : World) : F38 Tryd.prog a0 a1 K w = denFn Tryd.prog (has ents) [] [0, 1, 4] (bodyOf Tryd.f38) Tryd.f38.results.toList [a0, a1] K w := by kernel_rfl
theorem F38_link {a0 a1 : Value} {K : Value → World → Prop} {w : World} (h : F38 Tryd.prog a0 a1 K w) : S.call Tryd.prog 38 [a0, a1] K w :=
  calls_of_den entOk mixOk Tryd.func38 rfl F38_chk (Eq.mp (F38_eq a0 a1 K w) h)
/-- bytes.Replace -/
def F39 (P : Program) (a0 a1 a2 a3 : Value) (K : Value → World → Prop) (w : World) : Prop :=
  S.seq (fun vs w => S.v P (S.bin Go.BinOp.eql 3 (Go.Operand.tmp 22) (Go.Operand.const (Go.Value.int Go.IntKind.i64 0)) (nth vs 0) (Go.Value.int Go.IntKind.i64
    0)) (fun t23 w => br t23 (S.v P (Builtin.append_ #[22, 22] 22 #[(Go.Value.slice none 0 0), a0]) (fun t25 w => K t25 w) w) (S.seq (fun vs_1 w => S.v P
    (Builtin.len_ #[22] 3 #[a0]) (fun t35 w => S.v P (Builtin.len_ #[22] 3 #[a2]) (fun t38 w => S.v P (Builtin.len_ #[22] 3 #[a1]) (fun t40 w => S.v P (S.bin
    Go.BinOp.sub 3 (Go.Operand.tmp 38) (Go.Operand.tmp 40) t38 t40) (fun t41 w => S.v P (S.bin Go.BinOp.mul 3 (Go.Operand.tmp 36) (Go.Operand.tmp 41) (nth vs_1
    0) t41) (fun t42 w => S.v P (S.bin Go.BinOp.add 3 (Go.Operand.tmp 35) (Go.Operand.tmp 42) t35 t42) (fun t43 w => S.v P (Instr.makeSlice 22 t43 t43) (fun
    t44 w => S.seq (fun vs_2 w => S.drawn (fun w => ∃ H : World → Prop, H w ∧ (S.h P H (Instr.sliceAt 22 t44 (some (nth vs_2 0)) none none) (fun t123 w => S.h
    P H (Instr.sliceAt 22 a0 (some (nth vs_2 1)) none none) (fun t126 w => S.v P (Builtin.copy_ #[22, 22] 3 #[t123, t126]) (fun t127 w => H w ∧ (S.h P H (S.bin
    Go.BinOp.add 3 (Go.Operand.tmp 120) (Go.Operand.tmp 127) (nth vs_2 0) t127) (fun t128 w => S.v P (Instr.sliceAt 22 t44 (some (Go.Value.int Go.IntKind.i64
    0)) (some t128) none) (fun t131 w => K t131 w) w) w)) w) w) w)) w) (fun J_2 => S.v P (Builtin.len_ #[22] 3 #[a1]) (fun t46 w => S.v P (S.bin Go.BinOp.gtr 3
    (Go.Operand.tmp 46) (Go.Operand.const (Go.Value.int Go.IntKind.i64 0)) t46 (Go.Value.int Go.IntKind.i64 0)) (fun t47 w => br t47 (S.loop (fun I => ∀ (x11 :
    Value) (x12 : Value) (x13 : Value) (x49 : Value) (x50 : Value) (w : World), (S.v P (S.bin Go.BinOp.lss 3 (Go.Operand.tmp 49) (Go.Operand.tmp 48) x49 (nth
    vs_1 0)) (fun t50 w => br t50 (S.v P (Instr.sliceAt 22 a0 (some x12) none none) (fun t54 w => S.call P 45 [t54, a1] (fun t56 w => S.v P (S.bin Go.BinOp.add
    3 (Go.Operand.tmp 51) (Go.Operand.tmp 56) x12 t56) (fun t57 w => S.drawn (fun w => ∃ H_1 : World → Prop, H_1 w ∧ (S.h P H_1 (Instr.sliceAt 22 t44 (some
    x11) none none) (fun t61 w => S.h P H_1 (Instr.sliceAt 22 a0 (some x12) (some t57) none) (fun t65 w => S.v P (Builtin.copy_ #[22, 22] 3 #[t61, t65]) (fun
    t66 w => H_1 w ∧ (S.h P H_1 (S.bin Go.BinOp.add 3 (Go.Operand.tmp 58) (Go.Operand.tmp 66) x11 t66) (fun t67 w => S.v P (Instr.sliceAt 22 t44 (some t67)
    none none) (fun t71 w => S.v P (Builtin.copy_ #[22, 22] 3 #[t71, a2]) (fun t73 w => S.v P (S.bin Go.BinOp.add 3 (Go.Operand.tmp 68) (Go.Operand.tmp 73) t67
    t73) (fun t74 w => S.v P (Builtin.len_ #[22] 3 #[a1]) (fun t77 w => S.v P (S.bin Go.BinOp.add 3 (Go.Operand.tmp 75) (Go.Operand.tmp 77) t57 t77) (fun t78 w
    => S.v P (S.bin Go.BinOp.add 3 (Go.Operand.tmp 49) (Go.Operand.const (Go.Value.int Go.IntKind.i64 1)) x49 (Go.Value.int Go.IntKind.i64 1)) (fun t79 w => I
    [t74, t78, t57, t79, t50] w) w) w) w) w) w) w) w)) w) w) w)) w) w) w) w) (J_2 [x11, x12, x13, undef, undef, t47, (nth vs_1 0), x49, t50, undef, undef,
    undef] w)) w) → I [x11, x12, x13, x49, x50] w) [(Go.Value.int Go.IntKind.i64 0), (Go.Value.int Go.IntKind.i64 0), undef, (Go.Value.int Go.IntKind.i64 0),
    undef] w) (S.v P (Instr.sliceAt 22 t44 (some (Go.Value.int Go.IntKind.i64 0)) none none) (fun t83 w => S.v P (Builtin.copy_ #[22, 22] 3 #[t83, a2]) (fun
    t85 w => S.v P (S.bin Go.BinOp.add 3 (Go.Operand.tmp 80) (Go.Operand.tmp 85) (Go.Value.int Go.IntKind.i64 0) t85) (fun t86 w => S.v P (S.bin Go.BinOp.sub 3
    (Go.Operand.tmp 87) (Go.Operand.const (Go.Value.int Go.IntKind.i64 1)) (nth vs_1 0) (Go.Value.int Go.IntKind.i64 1)) (fun t88 w => S.loop (fun I_1 => ∀
    (x11_1 : Value) (x12_1 : Value) (x15 : Value) (x16 : Value) (x89 : Value) (x90 : Value) (w : World), (S.v P (S.bin Go.BinOp.lss 3 (Go.Operand.tmp 89)
    (Go.Operand.tmp 88) x89 t88) (fun t90 w => br t90 (S.v P (Instr.sliceAt 22 a0 (some x12_1) none none) (fun t94 w => S.call P 40 [t94] (fun t95 w => S.v P
    (Instr.extract t95 0) (fun t96 w => S.v P (Instr.extract t95 1) (fun t97 w => S.v P (S.bin Go.BinOp.add 3 (Go.Operand.tmp 98) (Go.Operand.tmp 99) x12_1
    t97) (fun t100 w => S.drawn (fun w => ∃ H_2 : World → Prop, H_2 w ∧ (S.h P H_2 (Instr.sliceAt 22 t44 (some x11_1) none none) (fun t104 w => S.h P H_2
    (Instr.sliceAt 22 a0 (some x12_1) (some t100) none) (fun t108 w => S.v P (Builtin.copy_ #[22, 22] 3 #[t104, t108]) (fun t109 w => H_2 w ∧ (S.h P H_2 (S.bin
    Go.BinOp.add 3 (Go.Operand.tmp 101) (Go.Operand.tmp 109) x11_1 t109) (fun t110 w => S.v P (Instr.sliceAt 22 t44 (some t110) none none) (fun t114 w => S.v P
    (Builtin.copy_ #[22, 22] 3 #[t114, a2]) (fun t116 w => S.v P (S.bin Go.BinOp.add 3 (Go.Operand.tmp 111) (Go.Operand.tmp 116) t110 t116) (fun t117 w => S.v
    P (S.bin Go.BinOp.add 3 (Go.Operand.tmp 89) (Go.Operand.const (Go.Value.int Go.IntKind.i64 1)) x89 (Go.Value.int Go.IntKind.i64 1)) (fun t119 w => I_1
    [t117, t100, t97, t100, t119, t90] w) w) w) w) w) w)) w) w) w)) w) w) w) w) w) w) (J_2 [x11_1, x12_1, undef, x15, x16, t47, undef, undef, undef, t88, x89,
    t90] w)) w) → I_1 [x11_1, x12_1, x15, x16, x89, x90] w) [t86, (Go.Value.int Go.IntKind.i64 0), undef, undef, (Go.Value.int Go.IntKind.i64 0), undef] w) w)
    w) w) w)) w) w)) w) w) w) w) w) w) w) (fun J_1 => S.v P (S.bin Go.BinOp.lss 3 (Go.Operand.tmp 26) (Go.Operand.const (Go.Value.int Go.IntKind.i64 0)) a3
    (Go.Value.int Go.IntKind.i64 0)) (fun t27 w => br t27 (J_1 [(nth vs 0), (Go.Value.bool true)] w) (S.v P (S.bin Go.BinOp.lss 3 (Go.Operand.tmp 29)
    (Go.Operand.tmp 30) (nth vs 0) a3) (fun t31 w => br t31 (J_1 [(nth vs 0), t31] w) (J_1 [a3, t31] w)) w)) w))) w) (fun J => S.v P (S.bin Go.BinOp.neq 3
    (Go.Operand.tmp 17) (Go.Operand.const (Go.Value.int Go.IntKind.i64 0)) a3 (Go.Value.int Go.IntKind.i64 0)) (fun t18 w => br t18 (S.call P 44 [a0, a1] (fun
    t21 w => J [t21, t18] w) w) (J [(Go.Value.int Go.IntKind.i64 0), t18] w)) w)
theorem F39_chk : chkFn Tryd.f39 (bodyOf Tryd.f39) [0, 1, 2, 3, 8, 9, 10, 11, 12, 13, 15, 16, 18, 23, 32, 47, 48, 49, 50, 88, 89, 90] [(15, { ord := (.step 0 true (.step 1 true (.step 2 true (.step 3 true (.step 4 true (.step 5 true (.step 6 true (.step 7 true (.step 8 false (.step 9 true (.step 10 true .fin))))))))))), flags := [8], held := true, init := true }), (24, { ord := (.step 0 true (.step 1 true (.step 2 true (.step 3 true (.step 4 true (.step 5 true (.step 6 true (.step 7 true (.step 8 false (.step 9 true (.step 10 true .fin))))))))))), flags := [8], held := true, init := true }), (28, { ord := (.step 0 true (.step 1 true (.step 2 true (.step 3 true (.step 4 true (.step 5 true (.step 6 true (.step 7 false (.step 8 true (.step 9 true .fin)))))))))), flags := [7], held := true, init := true })] 4 = true := by kernel_rfl
theorem F39_eq (a0 a1 a2 a3 : Value) (K : Value → World → Prop) (w : World) : F39 Tryd.prog a0 a1 a2 a3 K w = denFn Tryd.prog (has ents) [(15, { ord := (.step 0 true (.step 1 true (.step 2 true (.step 3 true (.step 4 true (.step 5 true (.step 6 true (.step 7 true (.step 8 false (.step 9 true (.step 10 true .fin))))))))))), flags := [8], held := true, init := true }), (24, { ord := (.step 0 true (.step 1 true (.step 2 true (.step 3 true (.step 4 true (.step 5 true (.step 6 true (.step 7 true (.step 8 false (.step 9 true (.step 10 true .fin))))))))))), flags := [8], held := true, init := true }), (28, { ord := (.step 0 true (.step 1 true (.step 2 true (.step 3 true (.step 4 true (.step 5 true (.step 6 true (.step 7 false (.step 8 true (.step 9 true .fin)))))))))), flags := [7], held := true, init := true })] [0, 1, 2, 3, 8, 9, 10, 11, 12, 13, 15, 16, 18, 23, 32, 47, 48, 49, 50, 88, 89, 90] (bodyOf Tryd.f39) Tryd.f39.results.toList [a0, a1, a2, a3] K w := by kernel_rfl
theorem F39_link {a0 a1 a2 a3 : Value} {K : Value → World → Prop} {w : World} (h : F39 Tryd.prog a0 a1 a2 a3 K w) : S.call Tryd.prog 39 [a0, a1, a2, a3] K w :=
  calls_of_den entOk mixOk Tryd.func39 rfl F39_chk (Eq.mp (F39_eq a0 a1 a2 a3 K w) h)
/-- unicode/utf8.DecodeRune -/
def F40 (P : Program) (a0 : Value) (K : Value → World → Prop) (w : World) : Prop :=
  S.seq (fun vs w => S.call P 46 [a0] (fun t19 w => S.v P (Instr.extract t19 0) (fun t20 w => S.v P (Instr.extract t19 1) (fun t21 w => K (.tuple #[t20, t21]) w)
    w) w) w) (fun J => S.v P (Builtin.len_ #[22] 3 #[a0]) (fun t7 w => S.loop (fun I => ∀ (x2 : Value) (x3 : Value) (x5 : Value) (x8 : Value) (x9 : Value) (x13
    : Value) (w : World), (S.v P (S.bin Go.BinOp.lss 3 (Go.Operand.tmp 8) (Go.Operand.tmp 7) x8 t7) (fun t9 w => br t9 (S.v P (Instr.indexAt 22 a0 x8) (fun t10
    w => S.v P (Instr.loadAt 5 t10) (fun t11 w => S.v P (S.bin Go.BinOp.lss 5 (Go.Operand.tmp 12) (Go.Operand.const (Go.Value.int Go.IntKind.u8 128)) t11
    (Go.Value.int Go.IntKind.u8 128)) (fun t13 w => br t13 (S.v P (Go.convert 5 21 t11) (fun t15 w => K (.tuple #[t15, (Go.Value.int Go.IntKind.i64 1)]) w) w)
    (J [x2, x3, t11, a0, t7, x8, t9, t13] w)) w) w) w) (J [x2, x3, x5, a0, t7, x8, t9, x13] w)) w) → I [x2, x3, x5, x8, x9, x13] w) [(Go.Value.int
    Go.IntKind.i32 0), (Go.Value.int Go.IntKind.i64 0), undef, (Go.Value.int Go.IntKind.i64 0), undef, undef] w) w)
theorem F40_chk : chkFn Tryd.f40 (bodyOf Tryd.f40) [0, 2, 3, 5, 6, 7, 8, 9, 13] [] 1 = true := by kernel_rfl
theorem F40_eq (a0 : Value) (K : Value → World → Prop) (w : World) : F40 Tryd.prog a0 K w = denFn Tryd.prog (has ents) [] [0, 2, 3, 5, 6, 7, 8, 9, 13] (bodyOf Tryd.f40) Tryd.f40.results.toList [a0] K w := by kernel_rfl
theorem F40_link {a0 : Value} {K : Value → World → Prop} {w : World} (h : F40 Tryd.prog a0 K w) : S.call Tryd.prog 40 [a0] K w :=
  calls_of_den entOk mixOk Tryd.func40 rfl F40_chk (Eq.mp (F40_eq a0 K w) h)
/-- lanyard/lanyardref01.Head -/
def F41 (P : Program) (a0 : Value) (K : Value → World → Prop) (w : World) : Prop :=
  S.v P (Builtin.len_ #[22] 3 #[a0]) (fun t7 w => S.v P (S.bin Go.BinOp.eql 3 (Go.Operand.tmp 7) (Go.Operand.const (Go.Value.int Go.IntKind.i64 0)) t7
    (Go.Value.int Go.IntKind.i64 0)) (fun t8 w => br t8 (K (.tuple #[(Go.Value.int Go.IntKind.i64 0), (Go.Value.int Go.IntKind.i64 0)]) w) (S.v P
    (Instr.indexAt 22 a0 (Go.Value.int Go.IntKind.i64 0)) (fun t10 w => S.v P (Instr.loadAt 5 t10) (fun t11 w => S.call P 47 [t11] (fun t12 w => S.v P (S.bin
    Go.BinOp.eql 3 (Go.Operand.tmp 13) (Go.Operand.const (Go.Value.int Go.IntKind.i64 0)) t12 (Go.Value.int Go.IntKind.i64 0)) (fun t14 w => br t14 (K (.tuple
    #[(Go.Value.int Go.IntKind.i64 0), (Go.Value.int Go.IntKind.i64 0)]) w) (S.loop (fun I => ∀ (x2 : Value) (x3 : Value) (x5 : Value) (x23 : Value) (x49 :
    Value) (w : World), (S.v P (S.bin Go.BinOp.lss 3 (Go.Operand.tmp 15) (Go.Operand.tmp 16) x5 t12) (fun t17 w => br t17 (S.v P (Builtin.len_ #[22] 3 #[a0])
    (fun t21 w => S.v P (S.bin Go.BinOp.lss 3 (Go.Operand.tmp 19) (Go.Operand.tmp 21) x5 t21) (fun t22 w => br t22 (S.seq (fun vs w => br (nth vs 0) (K (.tuple
    #[(Go.Value.int Go.IntKind.i64 0), t12]) w) (S.v P (S.bin Go.BinOp.add 3 (Go.Operand.tmp 51) (Go.Operand.const (Go.Value.int Go.IntKind.i64 1)) x5
    (Go.Value.int Go.IntKind.i64 1)) (fun t52 w => I [x2, x3, t52, t22, (nth vs 0)] w) w)) (fun J => S.drawn (fun w => S.v P (S.bin Go.BinOp.eql 3
    (Go.Operand.tmp 24) (Go.Operand.const (Go.Value.int Go.IntKind.i64 1)) x5 (Go.Value.int Go.IntKind.i64 1)) (fun t25 w => br t25 ((S.v P (Instr.indexAt 22
    a0 (Go.Value.int Go.IntKind.i64 0)) (fun t28 w => (S.v P (Instr.loadAt 5 t28) (fun t29 w => S.v P (Instr.indexAt 22 a0 (Go.Value.int Go.IntKind.i64 1))
    (fun t31 w => S.v P (Instr.loadAt 5 t31) (fun t32 w => S.call P 48 [t29, t32] (fun t33 w => S.v P (Op.unary Go.UnOp.not t33) (fun t34 w => br t34 (J
    [(Go.Value.bool true)] w) (S.v P (Instr.indexAt 22 a0 x5) (fun t39 w => S.v P (Instr.loadAt 5 t39) (fun t40 w => S.v P (S.bin Go.BinOp.lss 5
    (Go.Operand.tmp 40) (Go.Operand.const (Go.Value.int Go.IntKind.u8 128)) t40 (Go.Value.int Go.IntKind.u8 128)) (fun t41 w => br t41 (J [(Go.Value.bool
    true)] w) (S.v P (Instr.indexAt 22 a0 x5) (fun t46 w => S.v P (Instr.loadAt 5 t46) (fun t47 w => S.v P (S.bin Go.BinOp.gtr 5 (Go.Operand.tmp 47)
    (Go.Operand.const (Go.Value.int Go.IntKind.u8 191)) t47 (Go.Value.int Go.IntKind.u8 191)) (fun t48 w => J [t48] w) w) w) w)) w) w) w)) w) w) w) w) w) ∧
    (S.v P (Instr.indexAt 22 a0 (Go.Value.int Go.IntKind.i64 1)) (fun t31_1 w => (S.v P (Instr.loadAt 5 t28) (fun t29_1 w => S.v P (Instr.loadAt 5 t31_1) (fun
    t32_1 w => S.call P 48 [t29_1, t32_1] (fun t33_1 w => S.v P (Op.unary Go.UnOp.not t33_1) (fun t34_1 w => br t34_1 (J [(Go.Value.bool true)] w) (S.v P
    (Instr.indexAt 22 a0 x5) (fun t39_1 w => S.v P (Instr.loadAt 5 t39_1) (fun t40_1 w => S.v P (S.bin Go.BinOp.lss 5 (Go.Operand.tmp 40) (Go.Operand.const
    (Go.Value.int Go.IntKind.u8 128)) t40_1 (Go.Value.int Go.IntKind.u8 128)) (fun t41_1 w => br t41_1 (J [(Go.Value.bool true)] w) (S.v P (Instr.indexAt 22 a0
    x5) (fun t46_1 w => S.v P (Instr.loadAt 5 t46_1) (fun t47_1 w => S.v P (S.bin Go.BinOp.gtr 5 (Go.Operand.tmp 47) (Go.Operand.const (Go.Value.int
    Go.IntKind.u8 191)) t47_1 (Go.Value.int Go.IntKind.u8 191)) (fun t48_1 w => J [t48_1] w) w) w) w)) w) w) w)) w) w) w) w) ∧ (S.v P (Instr.loadAt 5 t31_1)
    (fun t32_2 w => S.v P (Instr.loadAt 5 t28) (fun t29_2 w => S.call P 48 [t29_2, t32_2] (fun t33_2 w => S.v P (Op.unary Go.UnOp.not t33_2) (fun t34_2 w => br
    t34_2 (J [(Go.Value.bool true)] w) (S.v P (Instr.indexAt 22 a0 x5) (fun t39_2 w => S.v P (Instr.loadAt 5 t39_2) (fun t40_2 w => S.v P (S.bin Go.BinOp.lss 5
    (Go.Operand.tmp 40) (Go.Operand.const (Go.Value.int Go.IntKind.u8 128)) t40_2 (Go.Value.int Go.IntKind.u8 128)) (fun t41_2 w => br t41_2 (J [(Go.Value.bool
    true)] w) (S.v P (Instr.indexAt 22 a0 x5) (fun t46_2 w => S.v P (Instr.loadAt 5 t46_2) (fun t47_2 w => S.v P (S.bin Go.BinOp.gtr 5 (Go.Operand.tmp 47)
    (Go.Operand.const (Go.Value.int Go.IntKind.u8 191)) t47_2 (Go.Value.int Go.IntKind.u8 191)) (fun t48_2 w => J [t48_2] w) w) w) w)) w) w) w)) w) w) w) w))
    w)) w) ∧ (S.v P (Instr.indexAt 22 a0 (Go.Value.int Go.IntKind.i64 1)) (fun t31_2 w => (S.v P (Instr.indexAt 22 a0 (Go.Value.int Go.IntKind.i64 0)) (fun
    t28_1 w => (S.v P (Instr.loadAt 5 t28_1) (fun t29_3 w => S.v P (Instr.loadAt 5 t31_2) (fun t32_3 w => S.call P 48 [t29_3, t32_3] (fun t33_3 w => S.v P
    (Op.unary Go.UnOp.not t33_3) (fun t34_3 w => br t34_3 (J [(Go.Value.bool true)] w) (S.v P (Instr.indexAt 22 a0 x5) (fun t39_3 w => S.v P (Instr.loadAt 5
    t39_3) (fun t40_3 w => S.v P (S.bin Go.BinOp.lss 5 (Go.Operand.tmp 40) (Go.Operand.const (Go.Value.int Go.IntKind.u8 128)) t40_3 (Go.Value.int
    Go.IntKind.u8 128)) (fun t41_3 w => br t41_3 (J [(Go.Value.bool true)] w) (S.v P (Instr.indexAt 22 a0 x5) (fun t46_3 w => S.v P (Instr.loadAt 5 t46_3) (fun
    t47_3 w => S.v P (S.bin Go.BinOp.gtr 5 (Go.Operand.tmp 47) (Go.Operand.const (Go.Value.int Go.IntKind.u8 191)) t47_3 (Go.Value.int Go.IntKind.u8 191)) (fun
    t48_3 w => J [t48_3] w) w) w) w)) w) w) w)) w) w) w) w) ∧ (S.v P (Instr.loadAt 5 t31_2) (fun t32_4 w => S.v P (Instr.loadAt 5 t28_1) (fun t29_4 w => S.call
    P 48 [t29_4, t32_4] (fun t33_4 w => S.v P (Op.unary Go.UnOp.not t33_4) (fun t34_4 w => br t34_4 (J [(Go.Value.bool true)] w) (S.v P (Instr.indexAt 22 a0
    x5) (fun t39_4 w => S.v P (Instr.loadAt 5 t39_4) (fun t40_4 w => S.v P (S.bin Go.BinOp.lss 5 (Go.Operand.tmp 40) (Go.Operand.const (Go.Value.int
    Go.IntKind.u8 128)) t40_4 (Go.Value.int Go.IntKind.u8 128)) (fun t41_4 w => br t41_4 (J [(Go.Value.bool true)] w) (S.v P (Instr.indexAt 22 a0 x5) (fun
    t46_4 w => S.v P (Instr.loadAt 5 t46_4) (fun t47_4 w => S.v P (S.bin Go.BinOp.gtr 5 (Go.Operand.tmp 47) (Go.Operand.const (Go.Value.int Go.IntKind.u8 191))
    t47_4 (Go.Value.int Go.IntKind.u8 191)) (fun t48_4 w => J [t48_4] w) w) w) w)) w) w) w)) w) w) w) w)) w) ∧ (S.v P (Instr.loadAt 5 t31_2) (fun t32_5 w =>
    S.v P (Instr.indexAt 22 a0 (Go.Value.int Go.IntKind.i64 0)) (fun t28_2 w => S.v P (Instr.loadAt 5 t28_2) (fun t29_5 w => S.call P 48 [t29_5, t32_5] (fun
    t33_5 w => S.v P (Op.unary Go.UnOp.not t33_5) (fun t34_5 w => br t34_5 (J [(Go.Value.bool true)] w) (S.v P (Instr.indexAt 22 a0 x5) (fun t39_5 w => S.v P
    (Instr.loadAt 5 t39_5) (fun t40_5 w => S.v P (S.bin Go.BinOp.lss 5 (Go.Operand.tmp 40) (Go.Operand.const (Go.Value.int Go.IntKind.u8 128)) t40_5
    (Go.Value.int Go.IntKind.u8 128)) (fun t41_5 w => br t41_5 (J [(Go.Value.bool true)] w) (S.v P (Instr.indexAt 22 a0 x5) (fun t46_5 w => S.v P (Instr.loadAt
    5 t46_5) (fun t47_5 w => S.v P (S.bin Go.BinOp.gtr 5 (Go.Operand.tmp 47) (Go.Operand.const (Go.Value.int Go.IntKind.u8 191)) t47_5 (Go.Value.int
    Go.IntKind.u8 191)) (fun t48_5 w => J [t48_5] w) w) w) w)) w) w) w)) w) w) w) w) w)) w)) (((S.v P (Instr.indexAt 22 a0 x5) (fun t39_6 w => S.v P
    (Instr.loadAt 5 t39_6) (fun t40_6 w => S.v P (S.bin Go.BinOp.lss 5 (Go.Operand.tmp 40) (Go.Operand.const (Go.Value.int Go.IntKind.u8 128)) t40_6
    (Go.Value.int Go.IntKind.u8 128)) (fun t41_6 w => br t41_6 (J [(Go.Value.bool true)] w) (S.v P (Instr.indexAt 22 a0 x5) (fun t46_6 w => S.v P (Instr.loadAt
    5 t46_6) (fun t47_6 w => S.v P (S.bin Go.BinOp.gtr 5 (Go.Operand.tmp 47) (Go.Operand.const (Go.Value.int Go.IntKind.u8 191)) t47_6 (Go.Value.int
    Go.IntKind.u8 191)) (fun t48_6 w => J [t48_6] w) w) w) w)) w) w) w) ∧ ((S.v P (Instr.indexAt 22 a0 x5) (fun t39_7 w => S.v P (Instr.loadAt 5 t39_7) (fun
    t40_7 w => S.v P (S.bin Go.BinOp.lss 5 (Go.Operand.tmp 40) (Go.Operand.const (Go.Value.int Go.IntKind.u8 128)) t40_7 (Go.Value.int Go.IntKind.u8 128)) (fun
    t41_7 w => br t41_7 (J [(Go.Value.bool true)] w) (S.v P (Instr.indexAt 22 a0 x5) (fun t46_7 w => S.v P (Instr.loadAt 5 t46_7) (fun t47_7 w => S.v P (S.bin
    Go.BinOp.gtr 5 (Go.Operand.tmp 47) (Go.Operand.const (Go.Value.int Go.IntKind.u8 191)) t47_7 (Go.Value.int Go.IntKind.u8 191)) (fun t48_7 w => J [t48_7] w)
    w) w) w)) w) w) w) ∧ (S.v P (Instr.indexAt 22 a0 x5) (fun t39_8 w => S.v P (Instr.loadAt 5 t39_8) (fun t40_8 w => S.v P (S.bin Go.BinOp.lss 5
    (Go.Operand.tmp 40) (Go.Operand.const (Go.Value.int Go.IntKind.u8 128)) t40_8 (Go.Value.int Go.IntKind.u8 128)) (fun t41_8 w => br t41_8 (J [(Go.Value.bool
    true)] w) (S.v P (Instr.indexAt 22 a0 x5) (fun t46_8 w => S.v P (Instr.loadAt 5 t46_8) (fun t47_8 w => S.v P (S.bin Go.BinOp.gtr 5 (Go.Operand.tmp 47)
    (Go.Operand.const (Go.Value.int Go.IntKind.u8 191)) t47_8 (Go.Value.int Go.IntKind.u8 191)) (fun t48_8 w => J [t48_8] w) w) w) w)) w) w) w))) ∧ (((S.v P
    (Instr.indexAt 22 a0 x5) (fun t39_9 w => S.v P (Instr.loadAt 5 t39_9) (fun t40_9 w => S.v P (S.bin Go.BinOp.lss 5 (Go.Operand.tmp 40) (Go.Operand.const
    (Go.Value.int Go.IntKind.u8 128)) t40_9 (Go.Value.int Go.IntKind.u8 128)) (fun t41_9 w => br t41_9 (J [(Go.Value.bool true)] w) (S.v P (Instr.indexAt 22 a0
    x5) (fun t46_9 w => S.v P (Instr.loadAt 5 t46_9) (fun t47_9 w => S.v P (S.bin Go.BinOp.gtr 5 (Go.Operand.tmp 47) (Go.Operand.const (Go.Value.int
    Go.IntKind.u8 191)) t47_9 (Go.Value.int Go.IntKind.u8 191)) (fun t48_9 w => J [t48_9] w) w) w) w)) w) w) w) ∧ (S.v P (Instr.indexAt 22 a0 x5) (fun t39_10 w
    => S.v P (Instr.loadAt 5 t39_10) (fun t40_10 w => S.v P (S.bin Go.BinOp.lss 5 (Go.Operand.tmp 40) (Go.Operand.const (Go.Value.int Go.IntKind.u8 128))
    t40_10 (Go.Value.int Go.IntKind.u8 128)) (fun t41_10 w => br t41_10 (J [(Go.Value.bool true)] w) (S.v P (Instr.indexAt 22 a0 x5) (fun t46_10 w => S.v P
    (Instr.loadAt 5 t46_10) (fun t47_10 w => S.v P (S.bin Go.BinOp.gtr 5 (Go.Operand.tmp 47) (Go.Operand.const (Go.Value.int Go.IntKind.u8 191)) t47_10
    (Go.Value.int Go.IntKind.u8 191)) (fun t48_10 w => J [t48_10] w) w) w) w)) w) w) w)) ∧ (S.v P (Instr.indexAt 22 a0 x5) (fun t39_11 w => S.v P (Instr.loadAt
    5 t39_11) (fun t40_11 w => S.v P (S.bin Go.BinOp.lss 5 (Go.Operand.tmp 40) (Go.Operand.const (Go.Value.int Go.IntKind.u8 128)) t40_11 (Go.Value.int
    Go.IntKind.u8 128)) (fun t41_11 w => br t41_11 (J [(Go.Value.bool true)] w) (S.v P (Instr.indexAt 22 a0 x5) (fun t46_11 w => S.v P (Instr.loadAt 5 t46_11)
    (fun t47_11 w => S.v P (S.bin Go.BinOp.gtr 5 (Go.Operand.tmp 47) (Go.Operand.const (Go.Value.int Go.IntKind.u8 191)) t47_11 (Go.Value.int Go.IntKind.u8
    191)) (fun t48_11 w => J [t48_11] w) w) w) w)) w) w) w)))) w) w)) (K (.tuple #[x5, t12]) w)) w) w) (K (.tuple #[x5, t12]) w)) w) → I [x2, x3, x5, x23, x49]
    w) [(Go.Value.int Go.IntKind.i64 0), (Go.Value.int Go.IntKind.i64 0), (Go.Value.int Go.IntKind.i64 1), undef, undef] w)) w) w) w) w)) w) w
theorem F41_chk : chkFn Tryd.f41 (bodyOf Tryd.f41) [0, 2, 3, 4, 5, 8, 14, 23, 49] [(8, { ord := (.step 0 true (.step 1 false (.step 2 true (.step 3 true (.step 6 true (.fork (.step 4 false (.fork (.step 5 false (.step 7 false (.step 8 false (.step 9 false (.step 10 false (.step 11 false (.step 12 true (.step 13 true (.step 14 true (.step 15 false (.step 16 false (.step 17 false (.step 18 false (.step 19 true (.step 20 true (.step 21 true (.step 22 false (.step 23 false (.step 24 false (.step 25 false .fin)))))))))))))))))))) (.step 7 false (.fork (.step 5 false (.step 8 false (.step 9 false (.step 10 false (.step 11 false (.step 12 true (.step 13 true (.step 14 true (.step 15 false (.step 16 false (.step 17 false (.step 18 false (.step 19 true (.step 20 true (.step 21 true (.step 22 false (.step 23 false (.step 24 false (.step 25 false .fin))))))))))))))))))) (.step 8 false (.step 5 false (.step 9 false (.step 10 false (.step 11 false (.step 12 true (.step 13 true (.step 14 true (.step 15 false (.step 16 false (.step 17 false (.step 18 false (.step 19 true (.step 20 true (.step 21 true (.step 22 false (.step 23 false (.step 24 false (.step 25 false .fin))))))))))))))))))))))) (.step 7 false (.fork (.step 4 false (.fork (.step 5 false (.step 8 false (.step 9 false (.step 10 false (.step 11 false (.step 12 true (.step 13 true (.step 14 true (.step 15 false (.step 16 false (.step 17 false (.step 18 false (.step 19 true (.step 20 true (.step 21 true (.step 22 false (.step 23 false (.step 24 false (.step 25 false .fin))))))))))))))))))) (.step 8 false (.step 5 false (.step 9 false (.step 10 false (.step 11 false (.step 12 true (.step 13 true (.step 14 true (.step 15 false (.step 16 false (.step 17 false (.step 18 false (.step 19 true (.step 20 true (.step 21 true (.step 22 false (.step 23 false (.step 24 false (.step 25 false .fin))))))))))))))))))))) (.step 8 false (.step 4 false (.step 5 false (.step 9 false (.step 10 false (.step 11 false (.step 12 true (.step 13 true (.step 14 true (.step 15 false (.step 16 false (.step 17 false (.step 18 false (.step 19 true (.step 20 true (.step 21 true (.step 22 false (.step 23 false (.step 24 false (.step 25 false .fin)))))))))))))))))))))))))))), flags := [], held := false, init := true })] 1 = true := by kernel_rfl
theorem F41_eq (a0 : Value) (K : Value → World → Prop) (w : World) : F41 Tryd.prog a0 K w = denFn Tryd.prog (has ents) [(8, { ord := (.step 0 true (.step 1 false (.step 2 true (.step 3 true (.step 6 true (.fork (.step 4 false (.fork (.step 5 false (.step 7 false (.step 8 false (.step 9 false (.step 10 false (.step 11 false (.step 12 true (.step 13 true (.step 14 true (.step 15 false (.step 16 false (.step 17 false (.step 18 false (.step 19 true (.step 20 true (.step 21 true (.step 22 false (.step 23 false (.step 24 false (.step 25 false .fin)))))))))))))))))))) (.step 7 false (.fork (.step 5 false (.step 8 false (.step 9 false (.step 10 false (.step 11 false (.step 12 true (.step 13 true (.step 14 true (.step 15 false (.step 16 false (.step 17 false (.step 18 false (.step 19 true (.step 20 true (.step 21 true (.step 22 false (.step 23 false (.step 24 false (.step 25 false .fin))))))))))))))))))) (.step 8 false (.step 5 false (.step 9 false (.step 10 false (.step 11 false (.step 12 true (.step 13 true (.step 14 true (.step 15 false (.step 16 false (.step 17 false (.step 18 false (.step 19 true (.step 20 true (.step 21 true (.step 22 false (.step 23 false (.step 24 false (.step 25 false .fin))))))))))))))))))))))) (.step 7 false (.fork (.step 4 false (.fork (.step 5 false (.step 8 false (.step 9 false (.step 10 false (.step 11 false (.step 12 true (.step 13 true (.step 14 true (.step 15 false (.step 16 false (.step 17 false (.step 18 false (.step 19 true (.step 20 true (.step 21 true (.step 22 false (.step 23 false (.step 24 false (.step 25 false .fin))))))))))))))))))) (.step 8 false (.step 5 false (.step 9 false (.step 10 false (.step 11 false (.step 12 true (.step 13 true (.step 14 true (.step 15 false (.step 16 false (.step 17 false (.step 18 false (.step 19 true (.step 20 true (.step 21 true (.step 22 false (.step 23 false (.step 24 false (.step 25 false .fin))))))))))))))))))))) (.step 8 false (.step 4 false (.step 5 false (.step 9 false (.step 10 false (.step 11 false (.step 12 true (.step 13 true (.step 14 true (.step 15 false (.step 16 false (.step 17 false (.step 18 false (.step 19 true (.step 20 true (.step 21 true (.step 22 false (.step 23 false (.step 24 false (.step 25 false .fin)))))))))))))))))))))))))))), flags := [], held := false, init := true })] [0, 2, 3, 4, 5, 8, 14, 23, 49] (bodyOf Tryd.f41) Tryd.f41.results.toList [a0] K w := by kernel_rfl
theorem F41_link {a0 : Value} {K : Value → World → Prop} {w : World} (h : F41 Tryd.prog a0 K w) : S.call Tryd.prog 41 [a0] K w :=
  calls_of_den entOk mixOk Tryd.func41 rfl F41_chk (Eq.mp (F41_eq a0 K w) h)
/-- lanyard/lanyardref01.value -/
def F42 (P : Program) (a0 : Value) (K : Value → World → Prop) (w : World) : Prop :=
  S.v P (Builtin.len_ #[22] 3 #[a0]) (fun t4 w => S.v P (S.bin Go.BinOp.eql 3 (Go.Operand.tmp 4) (Go.Operand.const (Go.Value.int Go.IntKind.i64 1)) t4
    (Go.Value.int Go.IntKind.i64 1)) (fun t6 w => br t6 (S.v P (Instr.indexAt 22 a0 (Go.Value.int Go.IntKind.i64 0)) (fun t8 w => S.v P (Instr.loadAt 5 t8)
    (fun t9 w => S.v P (Go.convert 5 21 t9) (fun t10 w => K t10 w) w) w) w) (S.v P (S.bin Go.BinOp.eql 3 (Go.Operand.tmp 4) (Go.Operand.const (Go.Value.int
    Go.IntKind.i64 2)) t4 (Go.Value.int Go.IntKind.i64 2)) (fun t12 w => br t12 (S.seq (fun vs w => K (nth vs 0) w) (fun J => S.drawn (fun w => ∃ H : World →
    Prop, H w ∧ (S.h P H (Instr.indexAt 22 a0 (Go.Value.int Go.IntKind.i64 0)) (fun t14 w => S.h P H (Instr.loadAt 5 t14) (fun t15 w => S.h P H (S.bin
    Go.BinOp.and 5 (Go.Operand.tmp 15) (Go.Operand.const (Go.Value.int Go.IntKind.u8 31)) t15 (Go.Value.int Go.IntKind.u8 31)) (fun t16 w => S.h P H
    (Instr.indexAt 22 a0 (Go.Value.int Go.IntKind.i64 1)) (fun t20 w => S.h P H (Instr.loadAt 5 t20) (fun t21 w => S.h P H (S.bin Go.BinOp.and 5
    (Go.Operand.tmp 21) (Go.Operand.const (Go.Value.int Go.IntKind.u8 63)) t21 (Go.Value.int Go.IntKind.u8 63)) (fun t22 w => (S.v P (Go.convert 5 21 t16) (fun
    t17 w => H w ∧ (S.h P H (S.bin Go.BinOp.shl 21 (Go.Operand.tmp 17) (Go.Operand.const (Go.Value.int Go.IntKind.u64 6)) t17 (Go.Value.int Go.IntKind.u64 6))
    (fun t18 w => S.v P (Go.convert 5 21 t22) (fun t23 w => H w ∧ (S.h P H (S.bin Go.BinOp.or 21 (Go.Operand.tmp 18) (Go.Operand.tmp 23) t18 t23) (fun t24 w =>
    J [t24] w) w)) w) w)) w) ∧ (S.v P (Go.convert 5 21 t22) (fun t23_1 w => H w ∧ (S.v P (Go.convert 5 21 t16) (fun t17_1 w => H w ∧ (S.h P H (S.bin
    Go.BinOp.shl 21 (Go.Operand.tmp 17) (Go.Operand.const (Go.Value.int Go.IntKind.u64 6)) t17_1 (Go.Value.int Go.IntKind.u64 6)) (fun t18_1 w => S.h P H
    (S.bin Go.BinOp.or 21 (Go.Operand.tmp 18) (Go.Operand.tmp 23) t18_1 t23_1) (fun t24_1 w => J [t24_1] w) w) w)) w)) w)) w) w) w) w) w) w)) w)) (S.v P (S.bin
    Go.BinOp.eql 3 (Go.Operand.tmp 4) (Go.Operand.const (Go.Value.int Go.IntKind.i64 3)) t4 (Go.Value.int Go.IntKind.i64 3)) (fun t26 w => br t26 (S.seq (fun
    vs_1 w => K (nth vs_1 0) w) (fun J_1 => S.drawn (fun w => ∃ H_1 : World → Prop, H_1 w ∧ (S.h P H_1 (Instr.indexAt 22 a0 (Go.Value.int Go.IntKind.i64 0))
    (fun t28 w => S.h P H_1 (Instr.loadAt 5 t28) (fun t29 w => S.h P H_1 (S.bin Go.BinOp.and 5 (Go.Operand.tmp 29) (Go.Operand.const (Go.Value.int
    Go.IntKind.u8 15)) t29 (Go.Value.int Go.IntKind.u8 15)) (fun t30 w => S.h P H_1 (Instr.indexAt 22 a0 (Go.Value.int Go.IntKind.i64 1)) (fun t34 w => S.h P
    H_1 (Instr.loadAt 5 t34) (fun t35 w => S.h P H_1 (S.bin Go.BinOp.and 5 (Go.Operand.tmp 35) (Go.Operand.const (Go.Value.int Go.IntKind.u8 63)) t35
    (Go.Value.int Go.IntKind.u8 63)) (fun t36 w => S.h P H_1 (Instr.indexAt 22 a0 (Go.Value.int Go.IntKind.i64 2)) (fun t41 w => S.h P H_1 (Instr.loadAt 5 t41)
    (fun t42 w => S.h P H_1 (S.bin Go.BinOp.and 5 (Go.Operand.tmp 42) (Go.Operand.const (Go.Value.int Go.IntKind.u8 63)) t42 (Go.Value.int Go.IntKind.u8 63))
    (fun t43 w => (S.v P (Go.convert 5 21 t30) (fun t31 w => H_1 w ∧ (S.h P H_1 (S.bin Go.BinOp.shl 21 (Go.Operand.tmp 31) (Go.Operand.const (Go.Value.int
    Go.IntKind.u64 12)) t31 (Go.Value.int Go.IntKind.u64 12)) (fun t32 w => (S.v P (Go.convert 5 21 t36) (fun t37 w => H_1 w ∧ (S.h P H_1 (S.bin Go.BinOp.shl
    21 (Go.Operand.tmp 37) (Go.Operand.const (Go.Value.int Go.IntKind.u64 6)) t37 (Go.Value.int Go.IntKind.u64 6)) (fun t38 w => S.h P H_1 (S.bin Go.BinOp.or
    21 (Go.Operand.tmp 32) (Go.Operand.tmp 38) t32 t38) (fun t39 w => S.v P (Go.convert 5 21 t43) (fun t44 w => H_1 w ∧ (S.h P H_1 (S.bin Go.BinOp.or 21
    (Go.Operand.tmp 39) (Go.Operand.tmp 44) t39 t44) (fun t45 w => J_1 [t45] w) w)) w) w) w)) w) ∧ (S.v P (Go.convert 5 21 t43) (fun t44_1 w => H_1 w ∧ (S.v P
    (Go.convert 5 21 t36) (fun t37_1 w => H_1 w ∧ (S.h P H_1 (S.bin Go.BinOp.shl 21 (Go.Operand.tmp 37) (Go.Operand.const (Go.Value.int Go.IntKind.u64 6))
    t37_1 (Go.Value.int Go.IntKind.u64 6)) (fun t38_1 w => S.h P H_1 (S.bin Go.BinOp.or 21 (Go.Operand.tmp 32) (Go.Operand.tmp 38) t32 t38_1) (fun t39_1 w =>
    S.h P H_1 (S.bin Go.BinOp.or 21 (Go.Operand.tmp 39) (Go.Operand.tmp 44) t39_1 t44_1) (fun t45_1 w => J_1 [t45_1] w) w) w) w)) w)) w)) w)) w) ∧ ((S.v P
    (Go.convert 5 21 t36) (fun t37_2 w => H_1 w ∧ (S.h P H_1 (S.bin Go.BinOp.shl 21 (Go.Operand.tmp 37) (Go.Operand.const (Go.Value.int Go.IntKind.u64 6))
    t37_2 (Go.Value.int Go.IntKind.u64 6)) (fun t38_2 w => (S.v P (Go.convert 5 21 t30) (fun t31_1 w => H_1 w ∧ (S.h P H_1 (S.bin Go.BinOp.shl 21
    (Go.Operand.tmp 31) (Go.Operand.const (Go.Value.int Go.IntKind.u64 12)) t31_1 (Go.Value.int Go.IntKind.u64 12)) (fun t32_1 w => S.h P H_1 (S.bin
    Go.BinOp.or 21 (Go.Operand.tmp 32) (Go.Operand.tmp 38) t32_1 t38_2) (fun t39_2 w => S.v P (Go.convert 5 21 t43) (fun t44_2 w => H_1 w ∧ (S.h P H_1 (S.bin
    Go.BinOp.or 21 (Go.Operand.tmp 39) (Go.Operand.tmp 44) t39_2 t44_2) (fun t45_2 w => J_1 [t45_2] w) w)) w) w) w)) w) ∧ (S.v P (Go.convert 5 21 t43) (fun
    t44_3 w => H_1 w ∧ (S.v P (Go.convert 5 21 t30) (fun t31_2 w => H_1 w ∧ (S.h P H_1 (S.bin Go.BinOp.shl 21 (Go.Operand.tmp 31) (Go.Operand.const
    (Go.Value.int Go.IntKind.u64 12)) t31_2 (Go.Value.int Go.IntKind.u64 12)) (fun t32_2 w => S.h P H_1 (S.bin Go.BinOp.or 21 (Go.Operand.tmp 32)
    (Go.Operand.tmp 38) t32_2 t38_2) (fun t39_3 w => S.h P H_1 (S.bin Go.BinOp.or 21 (Go.Operand.tmp 39) (Go.Operand.tmp 44) t39_3 t44_3) (fun t45_3 w => J_1
    [t45_3] w) w) w) w)) w)) w)) w)) w) ∧ (S.v P (Go.convert 5 21 t43) (fun t44_4 w => H_1 w ∧ ((S.v P (Go.convert 5 21 t30) (fun t31_3 w => H_1 w ∧ (S.h P H_1
    (S.bin Go.BinOp.shl 21 (Go.Operand.tmp 31) (Go.Operand.const (Go.Value.int Go.IntKind.u64 12)) t31_3 (Go.Value.int Go.IntKind.u64 12)) (fun t32_3 w => S.v
    P (Go.convert 5 21 t36) (fun t37_3 w => H_1 w ∧ (S.h P H_1 (S.bin Go.BinOp.shl 21 (Go.Operand.tmp 37) (Go.Operand.const (Go.Value.int Go.IntKind.u64 6))
    t37_3 (Go.Value.int Go.IntKind.u64 6)) (fun t38_3 w => S.h P H_1 (S.bin Go.BinOp.or 21 (Go.Operand.tmp 32) (Go.Operand.tmp 38) t32_3 t38_3) (fun t39_4 w =>
    S.h P H_1 (S.bin Go.BinOp.or 21 (Go.Operand.tmp 39) (Go.Operand.tmp 44) t39_4 t44_4) (fun t45_4 w => J_1 [t45_4] w) w) w) w)) w) w)) w) ∧ (S.v P
    (Go.convert 5 21 t36) (fun t37_4 w => H_1 w ∧ (S.h P H_1 (S.bin Go.BinOp.shl 21 (Go.Operand.tmp 37) (Go.Operand.const (Go.Value.int Go.IntKind.u64 6))
    t37_4 (Go.Value.int Go.IntKind.u64 6)) (fun t38_4 w => S.v P (Go.convert 5 21 t30) (fun t31_4 w => H_1 w ∧ (S.h P H_1 (S.bin Go.BinOp.shl 21
    (Go.Operand.tmp 31) (Go.Operand.const (Go.Value.int Go.IntKind.u64 12)) t31_4 (Go.Value.int Go.IntKind.u64 12)) (fun t32_4 w => S.h P H_1 (S.bin
    Go.BinOp.or 21 (Go.Operand.tmp 32) (Go.Operand.tmp 38) t32_4 t38_4) (fun t39_5 w => S.h P H_1 (S.bin Go.BinOp.or 21 (Go.Operand.tmp 39) (Go.Operand.tmp 44)
    t39_5 t44_4) (fun t45_5 w => J_1 [t45_5] w) w) w) w)) w) w)) w))) w))) w) w) w) w) w) w) w) w) w)) w)) (S.seq (fun vs_2 w => K (nth vs_2 0) w) (fun J_2 =>
    S.drawn (fun w => ∃ H_2 : World → Prop, H_2 w ∧ (S.h P H_2 (Instr.indexAt 22 a0 (Go.Value.int Go.IntKind.i64 0)) (fun t47 w => S.h P H_2 (Instr.loadAt 5
    t47) (fun t48 w => S.h P H_2 (S.bin Go.BinOp.and 5 (Go.Operand.tmp 48) (Go.Operand.const (Go.Value.int Go.IntKind.u8 7)) t48 (Go.Value.int Go.IntKind.u8
    7)) (fun t49 w => S.h P H_2 (Instr.indexAt 22 a0 (Go.Value.int Go.IntKind.i64 1)) (fun t53 w => S.h P H_2 (Instr.loadAt 5 t53) (fun t54 w => S.h P H_2
    (S.bin Go.BinOp.and 5 (Go.Operand.tmp 54) (Go.Operand.const (Go.Value.int Go.IntKind.u8 63)) t54 (Go.Value.int Go.IntKind.u8 63)) (fun t55 w => S.h P H_2
    (Instr.indexAt 22 a0 (Go.Value.int Go.IntKind.i64 2)) (fun t60 w => S.h P H_2 (Instr.loadAt 5 t60) (fun t61 w => S.h P H_2 (S.bin Go.BinOp.and 5
    (Go.Operand.tmp 61) (Go.Operand.const (Go.Value.int Go.IntKind.u8 63)) t61 (Go.Value.int Go.IntKind.u8 63)) (fun t62 w => S.h P H_2 (Instr.indexAt 22 a0
    (Go.Value.int Go.IntKind.i64 3)) (fun t67 w => S.h P H_2 (Instr.loadAt 5 t67) (fun t68 w => S.h P H_2 (S.bin Go.BinOp.and 5 (Go.Operand.tmp 68)
    (Go.Operand.const (Go.Value.int Go.IntKind.u8 63)) t68 (Go.Value.int Go.IntKind.u8 63)) (fun t69 w => (S.v P (Go.convert 5 21 t49) (fun t50 w => H_2 w ∧
    (S.h P H_2 (S.bin Go.BinOp.shl 21 (Go.Operand.tmp 50) (Go.Operand.const (Go.Value.int Go.IntKind.u64 18)) t50 (Go.Value.int Go.IntKind.u64 18)) (fun t51 w
    => (S.v P (Go.convert 5 21 t55) (fun t56 w => H_2 w ∧ (S.h P H_2 (S.bin Go.BinOp.shl 21 (Go.Operand.tmp 56) (Go.Operand.const (Go.Value.int Go.IntKind.u64
    12)) t56 (Go.Value.int Go.IntKind.u64 12)) (fun t57 w => S.h P H_2 (S.bin Go.BinOp.or 21 (Go.Operand.tmp 51) (Go.Operand.tmp 57) t51 t57) (fun t58 w =>
    (S.v P (Go.convert 5 21 t62) (fun t63 w => H_2 w ∧ (S.h P H_2 (S.bin Go.BinOp.shl 21 (Go.Operand.tmp 63) (Go.Operand.const (Go.Value.int Go.IntKind.u64 6))
    t63 (Go.Value.int Go.IntKind.u64 6)) (fun t64 w => S.h P H_2 (S.bin Go.BinOp.or 21 (Go.Operand.tmp 58) (Go.Operand.tmp 64) t58 t64) (fun t65 w => S.v P
    (Go.convert 5 21 t69) (fun t70 w => H_2 w ∧ (S.h P H_2 (S.bin Go.BinOp.or 21 (Go.Operand.tmp 65) (Go.Operand.tmp 70) t65 t70) (fun t71 w => J_2 [t71] w)
    w)) w) w) w)) w) ∧ (S.v P (Go.convert 5 21 t69) (fun t70_1 w => H_2 w ∧ (S.v P (Go.convert 5 21 t62) (fun t63_1 w => H_2 w ∧ (S.h P H_2 (S.bin Go.BinOp.shl
    21 (Go.Operand.tmp 63) (Go.Operand.const (Go.Value.int Go.IntKind.u64 6)) t63_1 (Go.Value.int Go.IntKind.u64 6)) (fun t64_1 w => S.h P H_2 (S.bin
    Go.BinOp.or 21 (Go.Operand.tmp 58) (Go.Operand.tmp 64) t58 t64_1) (fun t65_1 w => S.h P H_2 (S.bin Go.BinOp.or 21 (Go.Operand.tmp 65) (Go.Operand.tmp 70)
    t65_1 t70_1) (fun t71_1 w => J_2 [t71_1] w) w) w) w)) w)) w)) w) w)) w) ∧ ((S.v P (Go.convert 5 21 t62) (fun t63_2 w => H_2 w ∧ (S.h P H_2 (S.bin
    Go.BinOp.shl 21 (Go.Operand.tmp 63) (Go.Operand.const (Go.Value.int Go.IntKind.u64 6)) t63_2 (Go.Value.int Go.IntKind.u64 6)) (fun t64_2 w => (S.v P
    (Go.convert 5 21 t55) (fun t56_1 w => H_2 w ∧ (S.h P H_2 (S.bin Go.BinOp.shl 21 (Go.Operand.tmp 56) (Go.Operand.const (Go.Value.int Go.IntKind.u64 12))
    t56_1 (Go.Value.int Go.IntKind.u64 12)) (fun t57_1 w => S.h P H_2 (S.bin Go.BinOp.or 21 (Go.Operand.tmp 51) (Go.Operand.tmp 57) t51 t57_1) (fun t58_1 w =>
    S.h P H_2 (S.bin Go.BinOp.or 21 (Go.Operand.tmp 58) (Go.Operand.tmp 64) t58_1 t64_2) (fun t65_2 w => S.v P (Go.convert 5 21 t69) (fun t70_2 w => H_2 w ∧
    (S.h P H_2 (S.bin Go.BinOp.or 21 (Go.Operand.tmp 65) (Go.Operand.tmp 70) t65_2 t70_2) (fun t71_2 w => J_2 [t71_2] w) w)) w) w) w) w)) w) ∧ (S.v P
    (Go.convert 5 21 t69) (fun t70_3 w => H_2 w ∧ (S.v P (Go.convert 5 21 t55) (fun t56_2 w => H_2 w ∧ (S.h P H_2 (S.bin Go.BinOp.shl 21 (Go.Operand.tmp 56)
    (Go.Operand.const (Go.Value.int Go.IntKind.u64 12)) t56_2 (Go.Value.int Go.IntKind.u64 12)) (fun t57_2 w => S.h P H_2 (S.bin Go.BinOp.or 21 (Go.Operand.tmp
    51) (Go.Operand.tmp 57) t51 t57_2) (fun t58_2 w => S.h P H_2 (S.bin Go.BinOp.or 21 (Go.Operand.tmp 58) (Go.Operand.tmp 64) t58_2 t64_2) (fun t65_3 w => S.h
    P H_2 (S.bin Go.BinOp.or 21 (Go.Operand.tmp 65) (Go.Operand.tmp 70) t65_3 t70_3) (fun t71_3 w => J_2 [t71_3] w) w) w) w) w)) w)) w)) w)) w) ∧ (S.v P
    (Go.convert 5 21 t69) (fun t70_4 w => H_2 w ∧ ((S.v P (Go.convert 5 21 t55) (fun t56_3 w => H_2 w ∧ (S.h P H_2 (S.bin Go.BinOp.shl 21 (Go.Operand.tmp 56)
    (Go.Operand.const (Go.Value.int Go.IntKind.u64 12)) t56_3 (Go.Value.int Go.IntKind.u64 12)) (fun t57_3 w => S.h P H_2 (S.bin Go.BinOp.or 21 (Go.Operand.tmp
    51) (Go.Operand.tmp 57) t51 t57_3) (fun t58_3 w => S.v P (Go.convert 5 21 t62) (fun t63_3 w => H_2 w ∧ (S.h P H_2 (S.bin Go.BinOp.shl 21 (Go.Operand.tmp
    63) (Go.Operand.const (Go.Value.int Go.IntKind.u64 6)) t63_3 (Go.Value.int Go.IntKind.u64 6)) (fun t64_3 w => S.h P H_2 (S.bin Go.BinOp.or 21
    (Go.Operand.tmp 58) (Go.Operand.tmp 64) t58_3 t64_3) (fun t65_4 w => S.h P H_2 (S.bin Go.BinOp.or 21 (Go.Operand.tmp 65) (Go.Operand.tmp 70) t65_4 t70_4)
    (fun t71_4 w => J_2 [t71_4] w) w) w) w)) w) w) w)) w) ∧ (S.v P (Go.convert 5 21 t62) (fun t63_4 w => H_2 w ∧ (S.h P H_2 (S.bin Go.BinOp.shl 21
    (Go.Operand.tmp 63) (Go.Operand.const (Go.Value.int Go.IntKind.u64 6)) t63_4 (Go.Value.int Go.IntKind.u64 6)) (fun t64_4 w => S.v P (Go.convert 5 21 t55)
    (fun t56_4 w => H_2 w ∧ (S.h P H_2 (S.bin Go.BinOp.shl 21 (Go.Operand.tmp 56) (Go.Operand.const (Go.Value.int Go.IntKind.u64 12)) t56_4 (Go.Value.int
    Go.IntKind.u64 12)) (fun t57_4 w => S.h P H_2 (S.bin Go.BinOp.or 21 (Go.Operand.tmp 51) (Go.Operand.tmp 57) t51 t57_4) (fun t58_4 w => S.h P H_2 (S.bin
    Go.BinOp.or 21 (Go.Operand.tmp 58) (Go.Operand.tmp 64) t58_4 t64_4) (fun t65_5 w => S.h P H_2 (S.bin Go.BinOp.or 21 (Go.Operand.tmp 65) (Go.Operand.tmp 70)
    t65_5 t70_4) (fun t71_5 w => J_2 [t71_5] w) w) w) w) w)) w) w)) w))) w))) w)) w) ∧ ((S.v P (Go.convert 5 21 t55) (fun t56_5 w => H_2 w ∧ (S.h P H_2 (S.bin
    Go.BinOp.shl 21 (Go.Operand.tmp 56) (Go.Operand.const (Go.Value.int Go.IntKind.u64 12)) t56_5 (Go.Value.int Go.IntKind.u64 12)) (fun t57_5 w => (S.v P
    (Go.convert 5 21 t49) (fun t50_1 w => H_2 w ∧ (S.h P H_2 (S.bin Go.BinOp.shl 21 (Go.Operand.tmp 50) (Go.Operand.const (Go.Value.int Go.IntKind.u64 18))
    t50_1 (Go.Value.int Go.IntKind.u64 18)) (fun t51_1 w => S.h P H_2 (S.bin Go.BinOp.or 21 (Go.Operand.tmp 51) (Go.Operand.tmp 57) t51_1 t57_5) (fun t58_5 w
    => (S.v P (Go.convert 5 21 t62) (fun t63_5 w => H_2 w ∧ (S.h P H_2 (S.bin Go.BinOp.shl 21 (Go.Operand.tmp 63) (Go.Operand.const (Go.Value.int
    Go.IntKind.u64 6)) t63_5 (Go.Value.int Go.IntKind.u64 6)) (fun t64_5 w => S.h P H_2 (S.bin Go.BinOp.or 21 (Go.Operand.tmp 58) (Go.Operand.tmp 64) t58_5
    t64_5) (fun t65_6 w => S.v P (Go.convert 5 21 t69) (fun t70_5 w => H_2 w ∧ (S.h P H_2 (S.bin Go.BinOp.or 21 (Go.Operand.tmp 65) (Go.Operand.tmp 70) t65_6
    t70_5) (fun t71_6 w => J_2 [t71_6] w) w)) w) w) w)) w) ∧ (S.v P (Go.convert 5 21 t69) (fun t70_6 w => H_2 w ∧ (S.v P (Go.convert 5 21 t62) (fun t63_6 w =>
    H_2 w ∧ (S.h P H_2 (S.bin Go.BinOp.shl 21 (Go.Operand.tmp 63) (Go.Operand.const (Go.Value.int Go.IntKind.u64 6)) t63_6 (Go.Value.int Go.IntKind.u64 6))
    (fun t64_6 w => S.h P H_2 (S.bin Go.BinOp.or 21 (Go.Operand.tmp 58) (Go.Operand.tmp 64) t58_5 t64_6) (fun t65_7 w => S.h P H_2 (S.bin Go.BinOp.or 21
    (Go.Operand.tmp 65) (Go.Operand.tmp 70) t65_7 t70_6) (fun t71_7 w => J_2 [t71_7] w) w) w) w)) w)) w)) w) w)) w) ∧ ((S.v P (Go.convert 5 21 t62) (fun t63_7
    w => H_2 w ∧ (S.h P H_2 (S.bin Go.BinOp.shl 21 (Go.Operand.tmp 63) (Go.Operand.const (Go.Value.int Go.IntKind.u64 6)) t63_7 (Go.Value.int Go.IntKind.u64
    6)) (fun t64_7 w => (S.v P (Go.convert 5 21 t49) (fun t50_2 w => H_2 w ∧ (S.h P H_2 (S.bin Go.BinOp.shl 21 (Go.Operand.tmp 50) (Go.Operand.const
    (Go.Value.int Go.IntKind.u64 18)) t50_2 (Go.Value.int Go.IntKind.u64 18)) (fun t51_2 w => S.h P H_2 (S.bin Go.BinOp.or 21 (Go.Operand.tmp 51)
    (Go.Operand.tmp 57) t51_2 t57_5) (fun t58_6 w => S.h P H_2 (S.bin Go.BinOp.or 21 (Go.Operand.tmp 58) (Go.Operand.tmp 64) t58_6 t64_7) (fun t65_8 w => S.v P
    (Go.convert 5 21 t69) (fun t70_7 w => H_2 w ∧ (S.h P H_2 (S.bin Go.BinOp.or 21 (Go.Operand.tmp 65) (Go.Operand.tmp 70) t65_8 t70_7) (fun t71_8 w => J_2
    [t71_8] w) w)) w) w) w) w)) w) ∧ (S.v P (Go.convert 5 21 t69) (fun t70_8 w => H_2 w ∧ (S.v P (Go.convert 5 21 t49) (fun t50_3 w => H_2 w ∧ (S.h P H_2
    (S.bin Go.BinOp.shl 21 (Go.Operand.tmp 50) (Go.Operand.const (Go.Value.int Go.IntKind.u64 18)) t50_3 (Go.Value.int Go.IntKind.u64 18)) (fun t51_3 w => S.h
    P H_2 (S.bin Go.BinOp.or 21 (Go.Operand.tmp 51) (Go.Operand.tmp 57) t51_3 t57_5) (fun t58_7 w => S.h P H_2 (S.bin Go.BinOp.or 21 (Go.Operand.tmp 58)
    (Go.Operand.tmp 64) t58_7 t64_7) (fun t65_9 w => S.h P H_2 (S.bin Go.BinOp.or 21 (Go.Operand.tmp 65) (Go.Operand.tmp 70) t65_9 t70_8) (fun t71_9 w => J_2
    [t71_9] w) w) w) w) w)) w)) w)) w)) w) ∧ (S.v P (Go.convert 5 21 t69) (fun t70_9 w => H_2 w ∧ ((S.v P (Go.convert 5 21 t49) (fun t50_4 w => H_2 w ∧ (S.h P
    H_2 (S.bin Go.BinOp.shl 21 (Go.Operand.tmp 50) (Go.Operand.const (Go.Value.int Go.IntKind.u64 18)) t50_4 (Go.Value.int Go.IntKind.u64 18)) (fun t51_4 w =>
    S.h P H_2 (S.bin Go.BinOp.or 21 (Go.Operand.tmp 51) (Go.Operand.tmp 57) t51_4 t57_5) (fun t58_8 w => S.v P (Go.convert 5 21 t62) (fun t63_8 w => H_2 w ∧
    (S.h P H_2 (S.bin Go.BinOp.shl 21 (Go.Operand.tmp 63) (Go.Operand.const (Go.Value.int Go.IntKind.u64 6)) t63_8 (Go.Value.int Go.IntKind.u64 6)) (fun t64_8
    w => S.h P H_2 (S.bin Go.BinOp.or 21 (Go.Operand.tmp 58) (Go.Operand.tmp 64) t58_8 t64_8) (fun t65_10 w => S.h P H_2 (S.bin Go.BinOp.or 21 (Go.Operand.tmp
    65) (Go.Operand.tmp 70) t65_10 t70_9) (fun t71_10 w => J_2 [t71_10] w) w) w) w)) w) w) w)) w) ∧ (S.v P (Go.convert 5 21 t62) (fun t63_9 w => H_2 w ∧ (S.h P
    H_2 (S.bin Go.BinOp.shl 21 (Go.Operand.tmp 63) (Go.Operand.const (Go.Value.int Go.IntKind.u64 6)) t63_9 (Go.Value.int Go.IntKind.u64 6)) (fun t64_9 w =>
    S.v P (Go.convert 5 21 t49) (fun t50_5 w => H_2 w ∧ (S.h P H_2 (S.bin Go.BinOp.shl 21 (Go.Operand.tmp 50) (Go.Operand.const (Go.Value.int Go.IntKind.u64
    18)) t50_5 (Go.Value.int Go.IntKind.u64 18)) (fun t51_5 w => S.h P H_2 (S.bin Go.BinOp.or 21 (Go.Operand.tmp 51) (Go.Operand.tmp 57) t51_5 t57_5) (fun
    t58_9 w => S.h P H_2 (S.bin Go.BinOp.or 21 (Go.Operand.tmp 58) (Go.Operand.tmp 64) t58_9 t64_9) (fun t65_11 w => S.h P H_2 (S.bin Go.BinOp.or 21
    (Go.Operand.tmp 65) (Go.Operand.tmp 70) t65_11 t70_9) (fun t71_11 w => J_2 [t71_11] w) w) w) w) w)) w) w)) w))) w))) w)) w) ∧ ((S.v P (Go.convert 5 21 t62)
    (fun t63_10 w => H_2 w ∧ (S.h P H_2 (S.bin Go.BinOp.shl 21 (Go.Operand.tmp 63) (Go.Operand.const (Go.Value.int Go.IntKind.u64 6)) t63_10 (Go.Value.int
    Go.IntKind.u64 6)) (fun t64_10 w => (S.v P (Go.convert 5 21 t49) (fun t50_6 w => H_2 w ∧ (S.h P H_2 (S.bin Go.BinOp.shl 21 (Go.Operand.tmp 50)
    (Go.Operand.const (Go.Value.int Go.IntKind.u64 18)) t50_6 (Go.Value.int Go.IntKind.u64 18)) (fun t51_6 w => (S.v P (Go.convert 5 21 t55) (fun t56_6 w =>
    H_2 w ∧ (S.h P H_2 (S.bin Go.BinOp.shl 21 (Go.Operand.tmp 56) (Go.Operand.const (Go.Value.int Go.IntKind.u64 12)) t56_6 (Go.Value.int Go.IntKind.u64 12))
    (fun t57_6 w => S.h P H_2 (S.bin Go.BinOp.or 21 (Go.Operand.tmp 51) (Go.Operand.tmp 57) t51_6 t57_6) (fun t58_10 w => S.h P H_2 (S.bin Go.BinOp.or 21
    (Go.Operand.tmp 58) (Go.Operand.tmp 64) t58_10 t64_10) (fun t65_12 w => S.v P (Go.convert 5 21 t69) (fun t70_10 w => H_2 w ∧ (S.h P H_2 (S.bin Go.BinOp.or
    21 (Go.Operand.tmp 65) (Go.Operand.tmp 70) t65_12 t70_10) (fun t71_12 w => J_2 [t71_12] w) w)) w) w) w) w)) w) ∧ (S.v P (Go.convert 5 21 t69) (fun t70_11 w
    => H_2 w ∧ (S.v P (Go.convert 5 21 t55) (fun t56_7 w => H_2 w ∧ (S.h P H_2 (S.bin Go.BinOp.shl 21 (Go.Operand.tmp 56) (Go.Operand.const (Go.Value.int
    Go.IntKind.u64 12)) t56_7 (Go.Value.int Go.IntKind.u64 12)) (fun t57_7 w => S.h P H_2 (S.bin Go.BinOp.or 21 (Go.Operand.tmp 51) (Go.Operand.tmp 57) t51_6
    t57_7) (fun t58_11 w => S.h P H_2 (S.bin Go.BinOp.or 21 (Go.Operand.tmp 58) (Go.Operand.tmp 64) t58_11 t64_10) (fun t65_13 w => S.h P H_2 (S.bin
    Go.BinOp.or 21 (Go.Operand.tmp 65) (Go.Operand.tmp 70) t65_13 t70_11) (fun t71_13 w => J_2 [t71_13] w) w) w) w) w)) w)) w)) w)) w) ∧ ((S.v P (Go.convert 5
    21 t55) (fun t56_8 w => H_2 w ∧ (S.h P H_2 (S.bin Go.BinOp.shl 21 (Go.Operand.tmp 56) (Go.Operand.const (Go.Value.int Go.IntKind.u64 12)) t56_8
    (Go.Value.int Go.IntKind.u64 12)) (fun t57_8 w => (S.v P (Go.convert 5 21 t49) (fun t50_7 w => H_2 w ∧ (S.h P H_2 (S.bin Go.BinOp.shl 21 (Go.Operand.tmp
    50) (Go.Operand.const (Go.Value.int Go.IntKind.u64 18)) t50_7 (Go.Value.int Go.IntKind.u64 18)) (fun t51_7 w => S.h P H_2 (S.bin Go.BinOp.or 21
    (Go.Operand.tmp 51) (Go.Operand.tmp 57) t51_7 t57_8) (fun t58_12 w => S.h P H_2 (S.bin Go.BinOp.or 21 (Go.Operand.tmp 58) (Go.Operand.tmp 64) t58_12
    t64_10) (fun t65_14 w => S.v P (Go.convert 5 21 t69) (fun t70_12 w => H_2 w ∧ (S.h P H_2 (S.bin Go.BinOp.or 21 (Go.Operand.tmp 65) (Go.Operand.tmp 70)
    t65_14 t70_12) (fun t71_14 w => J_2 [t71_14] w) w)) w) w) w) w)) w) ∧ (S.v P (Go.convert 5 21 t69) (fun t70_13 w => H_2 w ∧ (S.v P (Go.convert 5 21 t49)
    (fun t50_8 w => H_2 w ∧ (S.h P H_2 (S.bin Go.BinOp.shl 21 (Go.Operand.tmp 50) (Go.Operand.const (Go.Value.int Go.IntKind.u64 18)) t50_8 (Go.Value.int
    Go.IntKind.u64 18)) (fun t51_8 w => S.h P H_2 (S.bin Go.BinOp.or 21 (Go.Operand.tmp 51) (Go.Operand.tmp 57) t51_8 t57_8) (fun t58_13 w => S.h P H_2 (S.bin
    Go.BinOp.or 21 (Go.Operand.tmp 58) (Go.Operand.tmp 64) t58_13 t64_10) (fun t65_15 w => S.h P H_2 (S.bin Go.BinOp.or 21 (Go.Operand.tmp 65) (Go.Operand.tmp
    70) t65_15 t70_13) (fun t71_15 w => J_2 [t71_15] w) w) w) w) w)) w)) w)) w)) w) ∧ (S.v P (Go.convert 5 21 t69) (fun t70_14 w => H_2 w ∧ ((S.v P (Go.convert
    5 21 t49) (fun t50_9 w => H_2 w ∧ (S.h P H_2 (S.bin Go.BinOp.shl 21 (Go.Operand.tmp 50) (Go.Operand.const (Go.Value.int Go.IntKind.u64 18)) t50_9
    (Go.Value.int Go.IntKind.u64 18)) (fun t51_9 w => S.v P (Go.convert 5 21 t55) (fun t56_9 w => H_2 w ∧ (S.h P H_2 (S.bin Go.BinOp.shl 21 (Go.Operand.tmp 56)
    (Go.Operand.const (Go.Value.int Go.IntKind.u64 12)) t56_9 (Go.Value.int Go.IntKind.u64 12)) (fun t57_9 w => S.h P H_2 (S.bin Go.BinOp.or 21 (Go.Operand.tmp
    51) (Go.Operand.tmp 57) t51_9 t57_9) (fun t58_14 w => S.h P H_2 (S.bin Go.BinOp.or 21 (Go.Operand.tmp 58) (Go.Operand.tmp 64) t58_14 t64_10) (fun t65_16 w
    => S.h P H_2 (S.bin Go.BinOp.or 21 (Go.Operand.tmp 65) (Go.Operand.tmp 70) t65_16 t70_14) (fun t71_16 w => J_2 [t71_16] w) w) w) w) w)) w) w)) w) ∧ (S.v P
    (Go.convert 5 21 t55) (fun t56_10 w => H_2 w ∧ (S.h P H_2 (S.bin Go.BinOp.shl 21 (Go.Operand.tmp 56) (Go.Operand.const (Go.Value.int Go.IntKind.u64 12))
    t56_10 (Go.Value.int Go.IntKind.u64 12)) (fun t57_10 w => S.v P (Go.convert 5 21 t49) (fun t50_10 w => H_2 w ∧ (S.h P H_2 (S.bin Go.BinOp.shl 21
    (Go.Operand.tmp 50) (Go.Operand.const (Go.Value.int Go.IntKind.u64 18)) t50_10 (Go.Value.int Go.IntKind.u64 18)) (fun t51_10 w => S.h P H_2 (S.bin
    Go.BinOp.or 21 (Go.Operand.tmp 51) (Go.Operand.tmp 57) t51_10 t57_10) (fun t58_15 w => S.h P H_2 (S.bin Go.BinOp.or 21 (Go.Operand.tmp 58) (Go.Operand.tmp
    64) t58_15 t64_10) (fun t65_17 w => S.h P H_2 (S.bin Go.BinOp.or 21 (Go.Operand.tmp 65) (Go.Operand.tmp 70) t65_17 t70_14) (fun t71_17 w => J_2 [t71_17] w)
    w) w) w) w)) w) w)) w))) w))) w)) w) ∧ (S.v P (Go.convert 5 21 t69) (fun t70_15 w => H_2 w ∧ ((S.v P (Go.convert 5 21 t49) (fun t50_11 w => H_2 w ∧ (S.h P
    H_2 (S.bin Go.BinOp.shl 21 (Go.Operand.tmp 50) (Go.Operand.const (Go.Value.int Go.IntKind.u64 18)) t50_11 (Go.Value.int Go.IntKind.u64 18)) (fun t51_11 w
    => (S.v P (Go.convert 5 21 t55) (fun t56_11 w => H_2 w ∧ (S.h P H_2 (S.bin Go.BinOp.shl 21 (Go.Operand.tmp 56) (Go.Operand.const (Go.Value.int
    Go.IntKind.u64 12)) t56_11 (Go.Value.int Go.IntKind.u64 12)) (fun t57_11 w => S.h P H_2 (S.bin Go.BinOp.or 21 (Go.Operand.tmp 51) (Go.Operand.tmp 57)
    t51_11 t57_11) (fun t58_16 w => S.v P (Go.convert 5 21 t62) (fun t63_11 w => H_2 w ∧ (S.h P H_2 (S.bin Go.BinOp.shl 21 (Go.Operand.tmp 63)
    (Go.Operand.const (Go.Value.int Go.IntKind.u64 6)) t63_11 (Go.Value.int Go.IntKind.u64 6)) (fun t64_11 w => S.h P H_2 (S.bin Go.BinOp.or 21 (Go.Operand.tmp
    58) (Go.Operand.tmp 64) t58_16 t64_11) (fun t65_18 w => S.h P H_2 (S.bin Go.BinOp.or 21 (Go.Operand.tmp 65) (Go.Operand.tmp 70) t65_18 t70_15) (fun t71_18
    w => J_2 [t71_18] w) w) w) w)) w) w) w)) w) ∧ (S.v P (Go.convert 5 21 t62) (fun t63_12 w => H_2 w ∧ (S.h P H_2 (S.bin Go.BinOp.shl 21 (Go.Operand.tmp 63)
    (Go.Operand.const (Go.Value.int Go.IntKind.u64 6)) t63_12 (Go.Value.int Go.IntKind.u64 6)) (fun t64_12 w => S.v P (Go.convert 5 21 t55) (fun t56_12 w =>
    H_2 w ∧ (S.h P H_2 (S.bin Go.BinOp.shl 21 (Go.Operand.tmp 56) (Go.Operand.const (Go.Value.int Go.IntKind.u64 12)) t56_12 (Go.Value.int Go.IntKind.u64 12))
    (fun t57_12 w => S.h P H_2 (S.bin Go.BinOp.or 21 (Go.Operand.tmp 51) (Go.Operand.tmp 57) t51_11 t57_12) (fun t58_17 w => S.h P H_2 (S.bin Go.BinOp.or 21
    (Go.Operand.tmp 58) (Go.Operand.tmp 64) t58_17 t64_12) (fun t65_19 w => S.h P H_2 (S.bin Go.BinOp.or 21 (Go.Operand.tmp 65) (Go.Operand.tmp 70) t65_19
    t70_15) (fun t71_19 w => J_2 [t71_19] w) w) w) w) w)) w) w)) w)) w)) w) ∧ ((S.v P (Go.convert 5 21 t55) (fun t56_13 w => H_2 w ∧ (S.h P H_2 (S.bin
    Go.BinOp.shl 21 (Go.Operand.tmp 56) (Go.Operand.const (Go.Value.int Go.IntKind.u64 12)) t56_13 (Go.Value.int Go.IntKind.u64 12)) (fun t57_13 w => (S.v P
    (Go.convert 5 21 t49) (fun t50_12 w => H_2 w ∧ (S.h P H_2 (S.bin Go.BinOp.shl 21 (Go.Operand.tmp 50) (Go.Operand.const (Go.Value.int Go.IntKind.u64 18))
    t50_12 (Go.Value.int Go.IntKind.u64 18)) (fun t51_12 w => S.h P H_2 (S.bin Go.BinOp.or 21 (Go.Operand.tmp 51) (Go.Operand.tmp 57) t51_12 t57_13) (fun
    t58_18 w => S.v P (Go.convert 5 21 t62) (fun t63_13 w => H_2 w ∧ (S.h P H_2 (S.bin Go.BinOp.shl 21 (Go.Operand.tmp 63) (Go.Operand.const (Go.Value.int
    Go.IntKind.u64 6)) t63_13 (Go.Value.int Go.IntKind.u64 6)) (fun t64_13 w => S.h P H_2 (S.bin Go.BinOp.or 21 (Go.Operand.tmp 58) (Go.Operand.tmp 64) t58_18
    t64_13) (fun t65_20 w => S.h P H_2 (S.bin Go.BinOp.or 21 (Go.Operand.tmp 65) (Go.Operand.tmp 70) t65_20 t70_15) (fun t71_20 w => J_2 [t71_20] w) w) w) w))
    w) w) w)) w) ∧ (S.v P (Go.convert 5 21 t62) (fun t63_14 w => H_2 w ∧ (S.h P H_2 (S.bin Go.BinOp.shl 21 (Go.Operand.tmp 63) (Go.Operand.const (Go.Value.int
    Go.IntKind.u64 6)) t63_14 (Go.Value.int Go.IntKind.u64 6)) (fun t64_14 w => S.v P (Go.convert 5 21 t49) (fun t50_13 w => H_2 w ∧ (S.h P H_2 (S.bin
    Go.BinOp.shl 21 (Go.Operand.tmp 50) (Go.Operand.const (Go.Value.int Go.IntKind.u64 18)) t50_13 (Go.Value.int Go.IntKind.u64 18)) (fun t51_13 w => S.h P H_2
    (S.bin Go.BinOp.or 21 (Go.Operand.tmp 51) (Go.Operand.tmp 57) t51_13 t57_13) (fun t58_19 w => S.h P H_2 (S.bin Go.BinOp.or 21 (Go.Operand.tmp 58)
    (Go.Operand.tmp 64) t58_19 t64_14) (fun t65_21 w => S.h P H_2 (S.bin Go.BinOp.or 21 (Go.Operand.tmp 65) (Go.Operand.tmp 70) t65_21 t70_15) (fun t71_21 w =>
    J_2 [t71_21] w) w) w) w) w)) w) w)) w)) w)) w) ∧ (S.v P (Go.convert 5 21 t62) (fun t63_15 w => H_2 w ∧ (S.h P H_2 (S.bin Go.BinOp.shl 21 (Go.Operand.tmp
    63) (Go.Operand.const (Go.Value.int Go.IntKind.u64 6)) t63_15 (Go.Value.int Go.IntKind.u64 6)) (fun t64_15 w => (S.v P (Go.convert 5 21 t49) (fun t50_14 w
    => H_2 w ∧ (S.h P H_2 (S.bin Go.BinOp.shl 21 (Go.Operand.tmp 50) (Go.Operand.const (Go.Value.int Go.IntKind.u64 18)) t50_14 (Go.Value.int Go.IntKind.u64
    18)) (fun t51_14 w => S.v P (Go.convert 5 21 t55) (fun t56_14 w => H_2 w ∧ (S.h P H_2 (S.bin Go.BinOp.shl 21 (Go.Operand.tmp 56) (Go.Operand.const
    (Go.Value.int Go.IntKind.u64 12)) t56_14 (Go.Value.int Go.IntKind.u64 12)) (fun t57_14 w => S.h P H_2 (S.bin Go.BinOp.or 21 (Go.Operand.tmp 51)
    (Go.Operand.tmp 57) t51_14 t57_14) (fun t58_20 w => S.h P H_2 (S.bin Go.BinOp.or 21 (Go.Operand.tmp 58) (Go.Operand.tmp 64) t58_20 t64_15) (fun t65_22 w =>
    S.h P H_2 (S.bin Go.BinOp.or 21 (Go.Operand.tmp 65) (Go.Operand.tmp 70) t65_22 t70_15) (fun t71_22 w => J_2 [t71_22] w) w) w) w) w)) w) w)) w) ∧ (S.v P
    (Go.convert 5 21 t55) (fun t56_15 w => H_2 w ∧ (S.h P H_2 (S.bin Go.BinOp.shl 21 (Go.Operand.tmp 56) (Go.Operand.const (Go.Value.int Go.IntKind.u64 12))
    t56_15 (Go.Value.int Go.IntKind.u64 12)) (fun t57_15 w => S.v P (Go.convert 5 21 t49) (fun t50_15 w => H_2 w ∧ (S.h P H_2 (S.bin Go.BinOp.shl 21
    (Go.Operand.tmp 50) (Go.Operand.const (Go.Value.int Go.IntKind.u64 18)) t50_15 (Go.Value.int Go.IntKind.u64 18)) (fun t51_15 w => S.h P H_2 (S.bin
    Go.BinOp.or 21 (Go.Operand.tmp 51) (Go.Operand.tmp 57) t51_15 t57_15) (fun t58_21 w => S.h P H_2 (S.bin Go.BinOp.or 21 (Go.Operand.tmp 58) (Go.Operand.tmp
    64) t58_21 t64_15) (fun t65_23 w => S.h P H_2 (S.bin Go.BinOp.or 21 (Go.Operand.tmp 65) (Go.Operand.tmp 70) t65_23 t70_15) (fun t71_23 w => J_2 [t71_23] w)
    w) w) w) w)) w) w)) w)) w)) w)))) w)))) w) w) w) w) w) w) w) w) w) w) w) w)) w))) w)) w)) w) w
theorem F42_chk : chkFn Tryd.f42 (bodyOf Tryd.f42) [0, 2, 4, 5, 11, 25] [(5, { ord := (.step 0 true (.step 1 true (.step 2 true (.step 3 true (.step 6 true (.step 7 true (.step 8 true (.step 9 true (.fork (.step 4 false (.step 5 true (.step 10 false (.step 11 true (.step 12 true .fin))))) (.step 10 false (.step 4 false (.step 5 true (.step 11 true (.step 12 true .fin)))))))))))))), flags := [4, 10], held := true, init := true }), (7, { ord := (.step 0 true (.step 1 true (.step 2 true (.step 3 true (.step 6 true (.step 7 true (.step 8 true (.step 9 true (.step 13 true (.step 14 true (.step 15 true (.step 16 true (.fork (.step 4 false (.step 5 true (.fork (.step 10 false (.step 11 true (.step 12 true (.step 17 false (.step 18 true (.step 19 true .fin)))))) (.step 17 false (.step 10 false (.step 11 true (.step 12 true (.step 18 true (.step 19 true .fin))))))))) (.fork (.step 10 false (.step 11 true (.fork (.step 4 false (.step 5 true (.step 12 true (.step 17 false (.step 18 true (.step 19 true .fin)))))) (.step 17 false (.step 4 false (.step 5 true (.step 12 true (.step 18 true (.step 19 true .fin))))))))) (.step 17 false (.fork (.step 4 false (.step 5 true (.step 10 false (.step 11 true (.step 12 true (.step 18 true (.step 19 true .fin))))))) (.step 10 false (.step 11 true (.step 4 false (.step 5 true (.step 12 true (.step 18 true (.step 19 true .fin))))))))))))))))))))))), flags := [4, 10, 17], held := true, init := true }), (8, { ord := (.step 0 true (.step 1 true (.step 2 true (.step 3 true (.step 6 true (.step 7 true (.step 8 true (.step 9 true (.step 13 true (.step 14 true (.step 15 true (.step 16 true (.step 20 true (.step 21 true (.step 22 true (.step 23 true (.fork (.step 4 false (.step 5 true (.fork (.step 10 false (.step 11 true (.step 12 true (.fork (.step 17 false (.step 18 true (.step 19 true (.step 24 false (.step 25 true (.step 26 true .fin)))))) (.step 24 false (.step 17 false (.step 18 true (.step 19 true (.step 25 true (.step 26 true .fin)))))))))) (.fork (.step 17 false (.step 18 true (.fork (.step 10 false (.step 11 true (.step 12 true (.step 19 true (.step 24 false (.step 25 true (.step 26 true .fin))))))) (.step 24 false (.step 10 false (.step 11 true (.step 12 true (.step 19 true (.step 25 true (.step 26 true .fin)))))))))) (.step 24 false (.fork (.step 10 false (.step 11 true (.step 12 true (.step 17 false (.step 18 true (.step 19 true (.step 25 true (.step 26 true .fin)))))))) (.step 17 false (.step 18 true (.step 10 false (.step 11 true (.step 12 true (.step 19 true (.step 25 true (.step 26 true .fin)))))))))))))) (.fork (.step 10 false (.step 11 true (.fork (.step 4 false (.step 5 true (.step 12 true (.fork (.step 17 false (.step 18 true (.step 19 true (.step 24 false (.step 25 true (.step 26 true .fin)))))) (.step 24 false (.step 17 false (.step 18 true (.step 19 true (.step 25 true (.step 26 true .fin)))))))))) (.fork (.step 17 false (.step 18 true (.fork (.step 4 false (.step 5 true (.step 12 true (.step 19 true (.step 24 false (.step 25 true (.step 26 true .fin))))))) (.step 24 false (.step 4 false (.step 5 true (.step 12 true (.step 19 true (.step 25 true (.step 26 true .fin)))))))))) (.step 24 false (.fork (.step 4 false (.step 5 true (.step 12 true (.step 17 false (.step 18 true (.step 19 true (.step 25 true (.step 26 true .fin)))))))) (.step 17 false (.step 18 true (.step 4 false (.step 5 true (.step 12 true (.step 19 true (.step 25 true (.step 26 true .fin)))))))))))))) (.fork (.step 17 false (.step 18 true (.fork (.step 4 false (.step 5 true (.fork (.step 10 false (.step 11 true (.step 12 true (.step 19 true (.step 24 false (.step 25 true (.step 26 true .fin))))))) (.step 24 false (.step 10 false (.step 11 true (.step 12 true (.step 19 true (.step 25 true (.step 26 true .fin)))))))))) (.fork (.step 10 false (.step 11 true (.fork (.step 4 false (.step 5 true (.step 12 true (.step 19 true (.step 24 false (.step 25 true (.step 26 true .fin))))))) (.step 24 false (.step 4 false (.step 5 true (.step 12 true (.step 19 true (.step 25 true (.step 26 true .fin)))))))))) (.step 24 false (.fork (.step 4 false (.step 5 true (.step 10 false (.step 11 true (.step 12 true (.step 19 true (.step 25 true (.step 26 true .fin)))))))) (.step 10 false (.step 11 true (.step 4 false (.step 5 true (.step 12 true (.step 19 true (.step 25 true (.step 26 true .fin)))))))))))))) (.step 24 false (.fork (.step 4 false (.step 5 true (.fork (.step 10 false (.step 11 true (.step 12 true (.step 17 false (.step 18 true (.step 19 true (.step 25 true (.step 26 true .fin)))))))) (.step 17 false (.step 18 true (.step 10 false (.step 11 true (.step 12 true (.step 19 true (.step 25 true (.step 26 true .fin))))))))))) (.fork (.step 10 false (.step 11 true (.fork (.step 4 false (.step 5 true (.step 12 true (.step 17 false (.step 18 true (.step 19 true (.step 25 true (.step 26 true .fin)))))))) (.step 17 false (.step 18 true (.step 4 false (.step 5 true (.step 12 true (.step 19 true (.step 25 true (.step 26 true .fin))))))))))) (.step 17 false (.step 18 true (.fork (.step 4 false (.step 5 true (.step 10 false (.step 11 true (.step 12 true (.step 19 true (.step 25 true (.step 26 true .fin)))))))) (.step 10 false (.step 11 true (.step 4 false (.step 5 true (.step 12 true (.step 19 true (.step 25 true (.step 26 true .fin))))))))))))))))))))))))))))))))), flags := [4, 10, 17, 24], held := true, init := true })] 1 = true := by kernel_rfl
theorem F42_eq (a0 : Value) (K : Value → World → Prop) (w : World) : F42 Tryd.prog a0 K w = denFn Tryd.prog (has ents) [(5, { ord := (.step 0 true (.step 1 true (.step 2 true (.step 3 true (.step 6 true (.step 7 true (.step 8 true (.step 9 true (.fork (.step 4 false (.step 5 true (.step 10 false (.step 11 true (.step 12 true .fin))))) (.step 10 false (.step 4 false (.step 5 true (.step 11 true (.step 12 true .fin)))))))))))))), flags := [4, 10], held := true, init := true }), (7, { ord := (.step 0 true (.step 1 true (.step 2 true (.step 3 true (.step 6 true (.step 7 true (.step 8 true (.step 9 true (.step 13 true (.step 14 true (.step 15 true (.step 16 true (.fork (.step 4 false (.step 5 true (.fork (.step 10 false (.step 11 true (.step 12 true (.step 17 false (.step 18 true (.step 19 true .fin)))))) (.step 17 false (.step 10 false (.step 11 true (.step 12 true (.step 18 true (.step 19 true .fin))))))))) (.fork (.step 10 false (.step 11 true (.fork (.step 4 false (.step 5 true (.step 12 true (.step 17 false (.step 18 true (.step 19 true .fin)))))) (.step 17 false (.step 4 false (.step 5 true (.step 12 true (.step 18 true (.step 19 true .fin))))))))) (.step 17 false (.fork (.step 4 false (.step 5 true (.step 10 false (.step 11 true (.step 12 true (.step 18 true (.step 19 true .fin))))))) (.step 10 false (.step 11 true (.step 4 false (.step 5 true (.step 12 true (.step 18 true (.step 19 true .fin))))))))))))))))))))))), flags := [4, 10, 17], held := true, init := true }), (8, { ord := (.step 0 true (.step 1 true (.step 2 true (.step 3 true (.step 6 true (.step 7 true (.step 8 true (.step 9 true (.step 13 true (.step 14 true (.step 15 true (.step 16 true (.step 20 true (.step 21 true (.step 22 true (.step 23 true (.fork (.step 4 false (.step 5 true (.fork (.step 10 false (.step 11 true (.step 12 true (.fork (.step 17 false (.step 18 true (.step 19 true (.step 24 false (.step 25 true (.step 26 true .fin)))))) (.step 24 false (.step 17 false (.step 18 true (.step 19 true (.step 25 true (.step 26 true .fin)))))))))) (.fork (.step 17 false (.step 18 true (.fork (.step 10 false (.step 11 true (.step 12 true (.step 19 true (.step 24 false (.step 25 true (.step 26 true .fin))))))) (.step 24 false (.step 10 false (.step 11 true (.step 12 true (.step 19 true (.step 25 true (.step 26 true .fin)))))))))) (.step 24 false (.fork (.step 10 false (.step 11 true (.step 12 true (.step 17 false (.step 18 true (.step 19 true (.step 25 true (.step 26 true .fin)))))))) (.step 17 false (.step 18 true (.step 10 false (.step 11 true (.step 12 true (.step 19 true (.step 25 true (.step 26 true .fin)))))))))))))) (.fork (.step 10 false (.step 11 true (.fork (.step 4 false (.step 5 true (.step 12 true (.fork (.step 17 false (.step 18 true (.step 19 true (.step 24 false (.step 25 true (.step 26 true .fin)))))) (.step 24 false (.step 17 false (.step 18 true (.step 19 true (.step 25 true (.step 26 true .fin)))))))))) (.fork (.step 17 false (.step 18 true (.fork (.step 4 false (.step 5 true (.step 12 true (.step 19 true (.step 24 false (.step 25 true (.step 26 true .fin))))))) (.step 24 false (.step 4 false (.step 5 true (.step 12 true (.step 19 true (.step 25 true (.step 26 true .fin)))))))))) (.step 24 false (.fork (.step 4 false (.step 5 true (.step 12 true (.step 17 false (.step 18 true (.step 19 true (.step 25 true (.step 26 true .fin)))))))) (.step 17 false (.step 18 true (.step 4 false (.step 5 true (.step 12 true (.step 19 true (.step 25 true (.step 26 true .fin)))))))))))))) (.fork (.step 17 false (.step 18 true (.fork (.step 4 false (.step 5 true (.fork (.step 10 false (.step 11 true (.step 12 true (.step 19 true (.step 24 false (.step 25 true (.step 26 true .fin))))))) (.step 24 false (.step 10 false (.step 11 true (.step 12 true (.step 19 true (.step 25 true (.step 26 true .fin)))))))))) (.fork (.step 10 false (.step 11 true (.fork (.step 4 false (.step 5 true (.step 12 true (.step 19 true (.step 24 false (.step 25 true (.step 26 true .fin))))))) (.step 24 false (.step 4 false (.step 5 true (.step 12 true (.step 19 true (.step 25 true (.step 26 true .fin)))))))))) (.step 24 false (.fork (.step 4 false (.step 5 true (.step 10 false (.step 11 true (.step 12 true (.step 19 true (.step 25 true (.step 26 true .fin)))))))) (.step 10 false (.step 11 true (.step 4 false (.step 5 true (.step 12 true (.step 19 true (.step 25 true (.step 26 true .fin)))))))))))))) (.step 24 false (.fork (.step 4 false (.step 5 true (.fork (.step 10 false (.step 11 true (.step 12 true (.step 17 false (.step 18 true (.step 19 true (.step 25 true (.step 26 true .fin)))))))) (.step 17 false (.step 18 true (.step 10 false (.step 11 true (.step 12 true (.step 19 true (.step 25 true (.step 26 true .fin))))))))))) (.fork (.step 10 false (.step 11 true (.fork (.step 4 false (.step 5 true (.step 12 true (.step 17 false (.step 18 true (.step 19 true (.step 25 true (.step 26 true .fin)))))))) (.step 17 false (.step 18 true (.step 4 false (.step 5 true (.step 12 true (.step 19 true (.step 25 true (.step 26 true .fin))))))))))) (.step 17 false (.step 18 true (.fork (.step 4 false (.step 5 true (.step 10 false (.step 11 true (.step 12 true (.step 19 true (.step 25 true (.step 26 true .fin)))))))) (.step 10 false (.step 11 true (.step 4 false (.step 5 true (.step 12 true (.step 19 true (.step 25 true (.step 26 true .fin))))))))))))))))))))))))))))))))), flags := [4, 10, 17, 24], held := true, init := true })] [0, 2, 4, 5, 11, 25] (bodyOf Tryd.f42) Tryd.f42.results.toList [a0] K w := by kernel_rfl
theorem F42_link {a0 : Value} {K : Value → World → Prop} {w : World} (h : F42 Tryd.prog a0 K w) : S.call Tryd.prog 42 [a0] K w :=
  calls_of_den entOk mixOk Tryd.func42 rfl F42_chk (Eq.mp (F42_eq a0 K w) h)
/-- slices.Grow[[]byte,byte] -/
def F43 (P : Program) (a0 a1 : Value) (K : Value → World → Prop) (w : World) : Prop :=
  S.seq (fun vs w => S.seq (fun vs_1 w => K (nth vs_1 0) w) (fun J_1 => S.v P (Builtin.cap_ #[22] 3 #[a0]) (fun t10 w => S.v P (Builtin.len_ #[22] 3 #[a0]) (fun
    t12 w => S.v P (S.bin Go.BinOp.sub 3 (Go.Operand.tmp 10) (Go.Operand.tmp 12) t10 t12) (fun t13 w => S.v P (S.bin Go.BinOp.sub 3 (Go.Operand.tmp 8)
    (Go.Operand.tmp 13) a1 t13) (fun t14 w => S.v P (S.bin Go.BinOp.gtr 3 (Go.Operand.tmp 15) (Go.Operand.const (Go.Value.int Go.IntKind.i64 0)) t14
    (Go.Value.int Go.IntKind.i64 0)) (fun t16 w => br t16 (S.v P (Builtin.cap_ #[22] 3 #[a0]) (fun t19 w => S.v P (Instr.sliceAt 22 a0 none (some t19) none)
    (fun t20 w => S.v P (Builtin.append_ #[22, 3] 22 #[t20, t14]) (fun t22 w => S.v P (Builtin.len_ #[22] 3 #[a0]) (fun t24 w => S.v P (Instr.sliceAt 22 t22
    none (some t24) none) (fun t25 w => J_1 [t25, t14, t16] w) w) w) w) w) w) (J_1 [a0, t14, t16] w)) w) w) w) w) w)) (fun J => S.v P (S.bin Go.BinOp.lss 3
    (Go.Operand.tmp 5) (Go.Operand.const (Go.Value.int Go.IntKind.i64 0)) a1 (Go.Value.int Go.IntKind.i64 0)) (fun t6 w => br t6 (S.v P (Instr.makeInterface 9
    (Go.Value.string { data := #[99, 97, 110, 110, 111, 116, 32, 98, 101, 32, 110, 101, 103, 97, 116, 105, 118, 101] })) (fun t7 w => S.v P (Instr.panic t7)
    (fun _ w => J [t6] w) w) w) (J [t6] w)) w)
theorem F43_chk : chkFn Tryd.f43 (bodyOf Tryd.f43) [0, 1, 4, 6, 16] [] 2 = true := by kernel_rfl
theorem F43_eq (a0 a1 : Value) (K : Value → World → Prop) (w : World) : F43 Tryd.prog a0 a1 K w = denFn Tryd.prog (has ents) [] [0, 1, 4, 6, 16] (bodyOf Tryd.f43) Tryd.f43.results.toList [a0, a1] K w := by kernel_rfl
theorem F43_link {a0 a1 : Value} {K : Value → World → Prop} {w : World} (h : F43 Tryd.prog a0 a1 K w) : S.call Tryd.prog 43 [a0, a1] K w :=
  calls_of_den entOk mixOk Tryd.func43 rfl F43_chk (Eq.mp (F43_eq a0 a1 K w) h)
/-- bytes.Count -/
def F44 (P : Program) (a0 a1 : Value) (K : Value → World → Prop) (w : World) : Prop :=
  S.v P (Builtin.len_ #[22] 3 #[a1]) (fun t8 w => S.v P (S.bin Go.BinOp.eql 3 (Go.Operand.tmp 8) (Go.Operand.const (Go.Value.int Go.IntKind.i64 0)) t8
    (Go.Value.int Go.IntKind.i64 0)) (fun t9 w => br t9 (S.call P 49 [a0] (fun t11 w => S.v P (S.bin Go.BinOp.add 3 (Go.Operand.tmp 11) (Go.Operand.const
    (Go.Value.int Go.IntKind.i64 1)) t11 (Go.Value.int Go.IntKind.i64 1)) (fun t12 w => K t12 w) w) w) (S.v P (Builtin.len_ #[22] 3 #[a1]) (fun t14 w => S.v P
    (S.bin Go.BinOp.eql 3 (Go.Operand.tmp 14) (Go.Operand.const (Go.Value.int Go.IntKind.i64 1)) t14 (Go.Value.int Go.IntKind.i64 1)) (fun t15 w => br t15 (S.v
    P (Instr.indexAt 22 a1 (Go.Value.int Go.IntKind.i64 0)) (fun t18 w => S.v P (Instr.loadAt 5 t18) (fun t19 w => S.nx P (callFunc 50 #[a0, t19]) (fun t20 w
    => K t20 w) w) w) w) (S.loop (fun I => ∀ (x0 : Value) (x4 : Value) (x5 : Value) (x6 : Value) (x25 : Value) (w : World), (S.call P 45 [x0, a1] (fun t23 w =>
    S.v P (S.bin Go.BinOp.eql 3 (Go.Operand.tmp 24) (Go.Operand.const (Go.Value.int Go.IntKind.i64 (-1))) t23 (Go.Value.int Go.IntKind.i64 (-1))) (fun t25 w =>
    br t25 (K x5 w) (S.v P (S.bin Go.BinOp.add 3 (Go.Operand.tmp 27) (Go.Operand.const (Go.Value.int Go.IntKind.i64 1)) x5 (Go.Value.int Go.IntKind.i64 1))
    (fun t28 w => S.v P (Builtin.len_ #[22] 3 #[a1]) (fun t32 w => S.v P (S.bin Go.BinOp.add 3 (Go.Operand.tmp 30) (Go.Operand.tmp 32) t23 t32) (fun t33 w =>
    S.v P (Instr.sliceAt 22 x0 (some t33) none none) (fun t34 w => I [t34, x4, t28, t23, t25] w) w) w) w) w)) w) w) → I [x0, x4, x5, x6, x25] w) [a0,
    (Go.Value.int Go.IntKind.i64 0), (Go.Value.int Go.IntKind.i64 0), undef, undef] w)) w) w)) w) w
theorem F44_chk : chkFn Tryd.f44 (bodyOf Tryd.f44) [0, 1, 4, 5, 6, 9, 15, 25] [] 2 = true := by kernel_rfl
theorem F44_eq (a0 a1 : Value) (K : Value → World → Prop) (w : World) : F44 Tryd.prog a0 a1 K w = denFn Tryd.prog (has ents) [] [0, 1, 4, 5, 6, 9, 15, 25] (bodyOf Tryd.f44) Tryd.f44.results.toList [a0, a1] K w := by kernel_rfl
theorem F44_link {a0 a1 : Value} {K : Value → World → Prop} {w : World} (h : F44 Tryd.prog a0 a1 K w) : S.call Tryd.prog 44 [a0, a1] K w :=
  calls_of_den entOk mixOk Tryd.func44 rfl F44_chk (Eq.mp (F44_eq a0 a1 K w) h)
/-- bytes.Index -/
def F45 (P : Program) (a0 a1 : Value) (K : Value → World → Prop) (w : World) : Prop :=
  S.v P (Builtin.len_ #[22] 3 #[a1]) (fun t21 w => S.v P (S.bin Go.BinOp.eql 3 (Go.Operand.tmp 23) (Go.Operand.const (Go.Value.int Go.IntKind.i64 0)) t21
    (Go.Value.int Go.IntKind.i64 0)) (fun t24 w => br t24 (K (Go.Value.int Go.IntKind.i64 0) w) (S.v P (S.bin Go.BinOp.eql 3 (Go.Operand.tmp 26)
    (Go.Operand.const (Go.Value.int Go.IntKind.i64 1)) t21 (Go.Value.int Go.IntKind.i64 1)) (fun t27 w => br t27 (S.v P (Instr.indexAt 22 a1 (Go.Value.int
    Go.IntKind.i64 0)) (fun t30 w => S.v P (Instr.loadAt 5 t30) (fun t31 w => S.call P 51 [a0, t31] (fun t32 w => K t32 w) w) w) w) (S.v P (Builtin.len_ #[22]
    3 #[a0]) (fun t36 w => S.v P (S.bin Go.BinOp.eql 3 (Go.Operand.tmp 34) (Go.Operand.tmp 36) t21 t36) (fun t37 w => br t37 (S.call P 38 [a1, a0] (fun t40 w
    => br t40 (K (Go.Value.int Go.IntKind.i64 0) w) (K (Go.Value.int Go.IntKind.i64 (-1)) w)) w) (S.v P (Builtin.len_ #[22] 3 #[a0]) (fun t44 w => S.v P (S.bin
    Go.BinOp.gtr 3 (Go.Operand.tmp 42) (Go.Operand.tmp 44) t21 t44) (fun t45 w => br t45 (K (Go.Value.int Go.IntKind.i64 (-1)) w) (S.v P (Instr.loadAt 3
    (Go.Value.pointer (some ⟨0, 0, none⟩))) (fun t48 w => S.v P (S.bin Go.BinOp.leq 3 (Go.Operand.tmp 47) (Go.Operand.tmp 48) t21 t48) (fun t49 w => br t49
    (S.v P (Builtin.len_ #[22] 3 #[a0]) (fun t51 w => S.v P (S.bin Go.BinOp.leq 3 (Go.Operand.tmp 51) (Go.Operand.const (Go.Value.int Go.IntKind.i64 64)) t51
    (Go.Value.int Go.IntKind.i64 64)) (fun t52 w => br t52 (S.nx P (callFunc 52 #[a0, a1]) (fun t55 w => K t55 w) w) (S.v P (Instr.indexAt 22 a1 (Go.Value.int
    Go.IntKind.i64 0)) (fun t57 w => S.v P (Instr.loadAt 5 t57) (fun t58 w => S.v P (Instr.indexAt 22 a1 (Go.Value.int Go.IntKind.i64 1)) (fun t60 w => S.v P
    (Instr.loadAt 5 t60) (fun t61 w => S.v P (Builtin.len_ #[22] 3 #[a0]) (fun t63 w => S.v P (S.bin Go.BinOp.sub 3 (Go.Operand.tmp 63) (Go.Operand.tmp 64) t63
    t21) (fun t65 w => S.v P (S.bin Go.BinOp.add 3 (Go.Operand.tmp 65) (Go.Operand.const (Go.Value.int Go.IntKind.i64 1)) t65 (Go.Value.int Go.IntKind.i64 1))
    (fun t66 w => S.loop (fun I => ∀ (x4 : Value) (x8 : Value) (x10 : Value) (x11 : Value) (x12 : Value) (x69 : Value) (x75 : Value) (x84 : Value) (x105 :
    Value) (x114 : Value) (x121 : Value) (w : World), (S.v P (S.bin Go.BinOp.lss 3 (Go.Operand.tmp 67) (Go.Operand.tmp 68) x8 t66) (fun t69 w => br t69 (S.seq
    (fun vs w => S.v P (S.bin Go.BinOp.add 3 (Go.Operand.tmp 90) (Go.Operand.const (Go.Value.int Go.IntKind.i64 1)) (nth vs 1) (Go.Value.int Go.IntKind.i64 1))
    (fun t91 w => S.v P (Instr.indexAt 22 a0 t91) (fun t92 w => S.v P (Instr.loadAt 5 t92) (fun t93 w => S.v P (S.bin Go.BinOp.eql 5 (Go.Operand.tmp 93)
    (Go.Operand.tmp 94) t93 t61) (fun t95 w => br t95 (S.v P (S.bin Go.BinOp.add 3 (Go.Operand.tmp 99) (Go.Operand.tmp 100) (nth vs 1) t21) (fun t101 w => S.v
    P (Instr.sliceAt 22 a0 (some (nth vs 1)) (some t101) none) (fun t102 w => S.call P 38 [t102, a1] (fun t104 w => br t104 (K (nth vs 1) w) (S.v P (S.bin
    Go.BinOp.add 3 (Go.Operand.tmp 107) (Go.Operand.const (Go.Value.int Go.IntKind.i64 1)) x10 (Go.Value.int Go.IntKind.i64 1)) (fun t108 w => S.v P (S.bin
    Go.BinOp.add 3 (Go.Operand.tmp 109) (Go.Operand.const (Go.Value.int Go.IntKind.i64 1)) (nth vs 1) (Go.Value.int Go.IntKind.i64 1)) (fun t110 w => S.call P
    53 [t110] (fun t113 w => S.v P (S.bin Go.BinOp.gtr 3 (Go.Operand.tmp 111) (Go.Operand.tmp 113) t108 t113) (fun t114 w => br t114 (S.v P (Instr.sliceAt 22
    a0 (some t110) none none) (fun t117 w => S.nx P (callFunc 52 #[t117, a1]) (fun t119 w => S.v P (S.bin Go.BinOp.geq 3 (Go.Operand.tmp 120) (Go.Operand.const
    (Go.Value.int Go.IntKind.i64 0)) t119 (Go.Value.int Go.IntKind.i64 0)) (fun t121 w => br t121 (S.v P (S.bin Go.BinOp.add 3 (Go.Operand.tmp 122)
    (Go.Operand.tmp 123) t119 t110) (fun t124 w => K t124 w) w) (K (Go.Value.int Go.IntKind.i64 (-1)) w)) w) w) w) (I [(nth vs 0), t110, t108, (nth vs 2), x12,
    t69, (nth vs 3), (nth vs 4), t104, t114, x121] w)) w) w) w) w)) w) w) w) (S.v P (S.bin Go.BinOp.add 3 (Go.Operand.tmp 107) (Go.Operand.const (Go.Value.int
    Go.IntKind.i64 1)) x10 (Go.Value.int Go.IntKind.i64 1)) (fun t108_1 w => S.v P (S.bin Go.BinOp.add 3 (Go.Operand.tmp 109) (Go.Operand.const (Go.Value.int
    Go.IntKind.i64 1)) (nth vs 1) (Go.Value.int Go.IntKind.i64 1)) (fun t110_1 w => S.call P 53 [t110_1] (fun t113_1 w => S.v P (S.bin Go.BinOp.gtr 3
    (Go.Operand.tmp 111) (Go.Operand.tmp 113) t108_1 t113_1) (fun t114_1 w => br t114_1 (S.v P (Instr.sliceAt 22 a0 (some t110_1) none none) (fun t117_1 w =>
    S.nx P (callFunc 52 #[t117_1, a1]) (fun t119_1 w => S.v P (S.bin Go.BinOp.geq 3 (Go.Operand.tmp 120) (Go.Operand.const (Go.Value.int Go.IntKind.i64 0))
    t119_1 (Go.Value.int Go.IntKind.i64 0)) (fun t121_1 w => br t121_1 (S.v P (S.bin Go.BinOp.add 3 (Go.Operand.tmp 122) (Go.Operand.tmp 123) t119_1 t110_1)
    (fun t124_1 w => K t124_1 w) w) (K (Go.Value.int Go.IntKind.i64 (-1)) w)) w) w) w) (I [(nth vs 0), t110_1, t108_1, (nth vs 2), x12, t69, (nth vs 3), (nth
    vs 4), (Go.Value.bool false), t114_1, x121] w)) w) w) w) w)) w) w) w) w) (fun J => S.v P (Instr.indexAt 22 a0 x8) (fun t72 w => S.v P (Instr.loadAt 5 t72)
    (fun t73 w => S.v P (S.bin Go.BinOp.neq 5 (Go.Operand.tmp 73) (Go.Operand.tmp 74) t73 t58) (fun t75 w => br t75 (S.v P (S.bin Go.BinOp.add 3
    (Go.Operand.tmp 77) (Go.Operand.const (Go.Value.int Go.IntKind.i64 1)) x8 (Go.Value.int Go.IntKind.i64 1)) (fun t78 w => S.v P (Instr.sliceAt 22 a0 (some
    t78) (some t66) none) (fun t80 w => S.call P 51 [t80, t58] (fun t82 w => S.v P (S.bin Go.BinOp.lss 3 (Go.Operand.tmp 83) (Go.Operand.const (Go.Value.int
    Go.IntKind.i64 0)) t82 (Go.Value.int Go.IntKind.i64 0)) (fun t84 w => br t84 (K (Go.Value.int Go.IntKind.i64 (-1)) w) (S.v P (S.bin Go.BinOp.add 3
    (Go.Operand.tmp 86) (Go.Operand.const (Go.Value.int Go.IntKind.i64 1)) t82 (Go.Value.int Go.IntKind.i64 1)) (fun t87 w => S.v P (S.bin Go.BinOp.add 3
    (Go.Operand.tmp 85) (Go.Operand.tmp 87) x8 t87) (fun t88 w => J [x4, t88, t82, t75, t84] w) w) w)) w) w) w) w) (J [x4, x8, x11, t75, x84] w)) w) w) w)) (K
    (Go.Value.int Go.IntKind.i64 (-1)) w)) w) → I [x4, x8, x10, x11, x12, x69, x75, x84, x105, x114, x121] w) [(Go.Value.int Go.IntKind.i64 0), (Go.Value.int
    Go.IntKind.i64 0), (Go.Value.int Go.IntKind.i64 0), undef, undef, undef, undef, undef, undef, undef, undef] w) w) w) w) w) w) w) w)) w) w) (S.v P
    (Instr.indexAt 22 a1 (Go.Value.int Go.IntKind.i64 0)) (fun t126 w => S.v P (Instr.loadAt 5 t126) (fun t127 w => S.v P (Instr.indexAt 22 a1 (Go.Value.int
    Go.IntKind.i64 1)) (fun t129 w => S.v P (Instr.loadAt 5 t129) (fun t130 w => S.v P (Builtin.len_ #[22] 3 #[a0]) (fun t132 w => S.v P (S.bin Go.BinOp.sub 3
    (Go.Operand.tmp 132) (Go.Operand.tmp 133) t132 t21) (fun t134 w => S.v P (S.bin Go.BinOp.add 3 (Go.Operand.tmp 134) (Go.Operand.const (Go.Value.int
    Go.IntKind.i64 1)) t134 (Go.Value.int Go.IntKind.i64 1)) (fun t135 w => S.seq (fun vs_1 w => K (Go.Value.int Go.IntKind.i64 (-1)) w) (fun J_1 => S.loop
    (fun I_1 => ∀ (x4_1 : Value) (x15 : Value) (x16 : Value) (x18 : Value) (x19 : Value) (x138 : Value) (x144 : Value) (x153 : Value) (x174 : Value) (x189 :
    Value) (x196 : Value) (w : World), (S.v P (S.bin Go.BinOp.lss 3 (Go.Operand.tmp 136) (Go.Operand.tmp 137) x15 t135) (fun t138 w => br t138 (S.seq (fun vs_2
    w => S.v P (S.bin Go.BinOp.add 3 (Go.Operand.tmp 159) (Go.Operand.const (Go.Value.int Go.IntKind.i64 1)) (nth vs_2 0) (Go.Value.int Go.IntKind.i64 1)) (fun
    t160 w => S.v P (Instr.indexAt 22 a0 t160) (fun t161 w => S.v P (Instr.loadAt 5 t161) (fun t162 w => S.v P (S.bin Go.BinOp.eql 5 (Go.Operand.tmp 162)
    (Go.Operand.tmp 163) t162 t130) (fun t164 w => br t164 (S.v P (S.bin Go.BinOp.add 3 (Go.Operand.tmp 168) (Go.Operand.tmp 169) (nth vs_2 0) t21) (fun t170 w
    => S.v P (Instr.sliceAt 22 a0 (some (nth vs_2 0)) (some t170) none) (fun t171 w => S.call P 38 [t171, a1] (fun t173 w => br t173 (K (nth vs_2 0) w) (S.v P
    (S.bin Go.BinOp.add 3 (Go.Operand.tmp 176) (Go.Operand.const (Go.Value.int Go.IntKind.i64 1)) (nth vs_2 0) (Go.Value.int Go.IntKind.i64 1)) (fun t177 w =>
    S.v P (S.bin Go.BinOp.add 3 (Go.Operand.tmp 178) (Go.Operand.const (Go.Value.int Go.IntKind.i64 1)) x16 (Go.Value.int Go.IntKind.i64 1)) (fun t179 w => S.v
    P (S.bin Go.BinOp.shr 3 (Go.Operand.tmp 181) (Go.Operand.const (Go.Value.int Go.IntKind.u64 4)) t177 (Go.Value.int Go.IntKind.u64 4)) (fun t182 w => S.v P
    (S.bin Go.BinOp.add 3 (Go.Operand.const (Go.Value.int Go.IntKind.i64 4)) (Go.Operand.tmp 182) (Go.Value.int Go.IntKind.i64 4) t182) (fun t183 w => S.v P
    (S.bin Go.BinOp.geq 3 (Go.Operand.tmp 180) (Go.Operand.tmp 183) t179 t183) (fun t184 w => br t184 (S.v P (S.bin Go.BinOp.lss 3 (Go.Operand.tmp 186)
    (Go.Operand.tmp 187) t177 t135) (fun t188 w => br t188 (S.v P (Instr.sliceAt 22 a0 (some t177) none none) (fun t192 w => S.call P 54 [t192, a1] (fun t194 w
    => S.v P (S.bin Go.BinOp.lss 3 (Go.Operand.tmp 195) (Go.Operand.const (Go.Value.int Go.IntKind.i64 0)) t194 (Go.Value.int Go.IntKind.i64 0)) (fun t196 w =>
    br t196 (K (Go.Value.int Go.IntKind.i64 (-1)) w) (S.v P (S.bin Go.BinOp.add 3 (Go.Operand.tmp 197) (Go.Operand.tmp 198) t177 t194) (fun t199 w => K t199 w)
    w)) w) w) w) (I_1 [x4_1, t177, t179, (nth vs_2 1), x19, t138, (nth vs_2 2), (nth vs_2 3), t173, t188, x196] w)) w) (I_1 [x4_1, t177, t179, (nth vs_2 1),
    x19, t138, (nth vs_2 2), (nth vs_2 3), t173, (Go.Value.bool false), x196] w)) w) w) w) w) w)) w) w) w) (S.v P (S.bin Go.BinOp.add 3 (Go.Operand.tmp 176)
    (Go.Operand.const (Go.Value.int Go.IntKind.i64 1)) (nth vs_2 0) (Go.Value.int Go.IntKind.i64 1)) (fun t177_1 w => S.v P (S.bin Go.BinOp.add 3
    (Go.Operand.tmp 178) (Go.Operand.const (Go.Value.int Go.IntKind.i64 1)) x16 (Go.Value.int Go.IntKind.i64 1)) (fun t179_1 w => S.v P (S.bin Go.BinOp.shr 3
    (Go.Operand.tmp 181) (Go.Operand.const (Go.Value.int Go.IntKind.u64 4)) t177_1 (Go.Value.int Go.IntKind.u64 4)) (fun t182_1 w => S.v P (S.bin Go.BinOp.add
    3 (Go.Operand.const (Go.Value.int Go.IntKind.i64 4)) (Go.Operand.tmp 182) (Go.Value.int Go.IntKind.i64 4) t182_1) (fun t183_1 w => S.v P (S.bin
    Go.BinOp.geq 3 (Go.Operand.tmp 180) (Go.Operand.tmp 183) t179_1 t183_1) (fun t184_1 w => br t184_1 (S.v P (S.bin Go.BinOp.lss 3 (Go.Operand.tmp 186)
    (Go.Operand.tmp 187) t177_1 t135) (fun t188_1 w => br t188_1 (S.v P (Instr.sliceAt 22 a0 (some t177_1) none none) (fun t192_1 w => S.call P 54 [t192_1, a1]
    (fun t194_1 w => S.v P (S.bin Go.BinOp.lss 3 (Go.Operand.tmp 195) (Go.Operand.const (Go.Value.int Go.IntKind.i64 0)) t194_1 (Go.Value.int Go.IntKind.i64
    0)) (fun t196_1 w => br t196_1 (K (Go.Value.int Go.IntKind.i64 (-1)) w) (S.v P (S.bin Go.BinOp.add 3 (Go.Operand.tmp 197) (Go.Operand.tmp 198) t177_1
    t194_1) (fun t199_1 w => K t199_1 w) w)) w) w) w) (I_1 [x4_1, t177_1, t179_1, (nth vs_2 1), x19, t138, (nth vs_2 2), (nth vs_2 3), (Go.Value.bool false),
    t188_1, x196] w)) w) (I_1 [x4_1, t177_1, t179_1, (nth vs_2 1), x19, t138, (nth vs_2 2), (nth vs_2 3), (Go.Value.bool false), (Go.Value.bool false), x196]
    w)) w) w) w) w) w)) w) w) w) w) (fun J_2 => S.v P (Instr.indexAt 22 a0 x15) (fun t141 w => S.v P (Instr.loadAt 5 t141) (fun t142 w => S.v P (S.bin
    Go.BinOp.neq 5 (Go.Operand.tmp 142) (Go.Operand.tmp 143) t142 t127) (fun t144 w => br t144 (S.v P (S.bin Go.BinOp.add 3 (Go.Operand.tmp 146)
    (Go.Operand.const (Go.Value.int Go.IntKind.i64 1)) x15 (Go.Value.int Go.IntKind.i64 1)) (fun t147 w => S.v P (Instr.sliceAt 22 a0 (some t147) (some t135)
    none) (fun t149 w => S.call P 51 [t149, t127] (fun t151 w => S.v P (S.bin Go.BinOp.lss 3 (Go.Operand.tmp 152) (Go.Operand.const (Go.Value.int
    Go.IntKind.i64 0)) t151 (Go.Value.int Go.IntKind.i64 0)) (fun t153 w => br t153 (J_1 [x4_1, x15, x16, t151, x19, t138, t144, t153, x174, x189, x196] w)
    (S.v P (S.bin Go.BinOp.add 3 (Go.Operand.tmp 155) (Go.Operand.const (Go.Value.int Go.IntKind.i64 1)) t151 (Go.Value.int Go.IntKind.i64 1)) (fun t156 w =>
    S.v P (S.bin Go.BinOp.add 3 (Go.Operand.tmp 154) (Go.Operand.tmp 156) x15 t156) (fun t157 w => J_2 [t157, t151, t144, t153] w) w) w)) w) w) w) w) (J_2
    [x15, x18, t144, x153] w)) w) w) w)) (J_1 [x4_1, x15, x16, x18, x19, t138, x144, x153, x174, x189, x196] w)) w) → I_1 [x4_1, x15, x16, x18, x19, x138,
    x144, x153, x174, x189, x196] w) [(Go.Value.int Go.IntKind.i64 0), (Go.Value.int Go.IntKind.i64 0), (Go.Value.int Go.IntKind.i64 0), undef, undef, undef,
    undef, undef, undef, undef, undef] w)) w) w) w) w) w) w) w)) w) w)) w) w)) w) w)) w)) w) w
theorem F45_chk : chkFn Tryd.f45 (bodyOf Tryd.f45) [0, 1, 4, 5, 6, 7, 8, 9, 10, 11, 12, 13, 14, 15, 16, 17, 18, 19, 22, 25, 33, 40, 41, 46, 52, 69, 75, 84, 105, 114, 121, 138, 144, 153, 174, 189, 196] [] 2 = true := by kernel_rfl
theorem F45_eq (a0 a1 : Value) (K : Value → World → Prop) (w : World) : F45 Tryd.prog a0 a1 K w = denFn Tryd.prog (has ents) [] [0, 1, 4, 5, 6, 7, 8, 9, 10, 11, 12, 13, 14, 15, 16, 17, 18, 19, 22, 25, 33, 40, 41, 46, 52, 69, 75, 84, 105, 114, 121, 138, 144, 153, 174, 189, 196] (bodyOf Tryd.f45) Tryd.f45.results.toList [a0, a1] K w := by kernel_rfl
theorem F45_link {a0 a1 : Value} {K : Value → World → Prop} {w : World} (h : F45 Tryd.prog a0 a1 K w) : S.call Tryd.prog 45 [a0, a1] K w :=
  calls_of_den entOk mixOk Tryd.func45 rfl F45_chk (Eq.mp (F45_eq a0 a1 K w) h)
/-- unicode/utf8.decodeRuneSlow -/
def F46 (P : Program) (a0 : Value) (K : Value → World → Prop) (w : World) : Prop :=
  S.v P (Builtin.len_ #[22] 3 #[a0]) (fun t14 w => S.v P (S.bin Go.BinOp.lss 3 (Go.Operand.tmp 15) (Go.Operand.const (Go.Value.int Go.IntKind.i64 1)) t14
    (Go.Value.int Go.IntKind.i64 1)) (fun t16 w => br t16 (K (.tuple #[(Go.Value.int Go.IntKind.i32 65533), (Go.Value.int Go.IntKind.i64 0)]) w) (S.v P
    (Instr.indexAt 22 a0 (Go.Value.int Go.IntKind.i64 0)) (fun t18 w => S.v P (Instr.loadAt 5 t18) (fun t19 w => S.v P (Instr.indexAt 76 (Go.Value.pointer
    (some ⟨1, 0, none⟩)) t19) (fun t21 w => S.v P (Instr.loadAt 5 t21) (fun t22 w => S.v P (S.bin Go.BinOp.geq 5 (Go.Operand.tmp 23) (Go.Operand.const
    (Go.Value.int Go.IntKind.u8 240)) t22 (Go.Value.int Go.IntKind.u8 240)) (fun t24 w => br t24 (S.v P (Go.convert 5 21 t22) (fun t26 w => S.v P (S.bin
    Go.BinOp.shl 21 (Go.Operand.tmp 26) (Go.Operand.const (Go.Value.int Go.IntKind.u64 31)) t26 (Go.Value.int Go.IntKind.u64 31)) (fun t27 w => S.v P (S.bin
    Go.BinOp.shr 21 (Go.Operand.tmp 27) (Go.Operand.const (Go.Value.int Go.IntKind.u64 31)) t27 (Go.Value.int Go.IntKind.u64 31)) (fun t28 w => S.v P
    (Instr.indexAt 22 a0 (Go.Value.int Go.IntKind.i64 0)) (fun t30 w => S.v P (Instr.loadAt 5 t30) (fun t31 w => S.v P (Go.convert 5 21 t31) (fun t32 w => S.v
    P (S.bin Go.BinOp.andNot 21 (Go.Operand.tmp 32) (Go.Operand.tmp 33) t32 t28) (fun t34 w => S.v P (S.bin Go.BinOp.and 21 (Go.Operand.const (Go.Value.int
    Go.IntKind.i32 65533)) (Go.Operand.tmp 35) (Go.Value.int Go.IntKind.i32 65533) t28) (fun t36 w => S.v P (S.bin Go.BinOp.or 21 (Go.Operand.tmp 34)
    (Go.Operand.tmp 36) t34 t36) (fun t37 w => K (.tuple #[t37, (Go.Value.int Go.IntKind.i64 1)]) w) w) w) w) w) w) w) w) w) w) (S.v P (S.bin Go.BinOp.and 5
    (Go.Operand.tmp 38) (Go.Operand.const (Go.Value.int Go.IntKind.u8 7)) t22 (Go.Value.int Go.IntKind.u8 7)) (fun t39 w => S.v P (Go.convert 5 3 t39) (fun t40
    w => S.v P (S.bin Go.BinOp.shr 5 (Go.Operand.tmp 41) (Go.Operand.const (Go.Value.int Go.IntKind.u64 4)) t22 (Go.Value.int Go.IntKind.u64 4)) (fun t42 w =>
    S.v P (Instr.indexAt 79 (Go.Value.pointer (some ⟨2, 0, none⟩)) t42) (fun t43 w => S.v P (Instr.loadAt 78 t43) (fun t44 w => S.v P (Instr.alloc 78 true
    (.tuple #[])) (fun t9 w => S.u P (Instr.storeAt 78 t9 t44) (fun w => S.v P (S.bin Go.BinOp.lss 3 (Go.Operand.tmp 45) (Go.Operand.tmp 46) t14 t40) (fun t47
    w => br t47 (K (.tuple #[(Go.Value.int Go.IntKind.i32 65533), (Go.Value.int Go.IntKind.i64 1)]) w) (S.v P (Instr.indexAt 22 a0 (Go.Value.int Go.IntKind.i64
    1)) (fun t49 w => S.v P (Instr.loadAt 5 t49) (fun t50 w => S.v P (Instr.fieldAt 78 t9 0) (fun t52 w => S.v P (Instr.loadAt 5 t52) (fun t53 w => S.v P
    (S.bin Go.BinOp.lss 5 (Go.Operand.tmp 51) (Go.Operand.tmp 53) t50 t53) (fun t54 w => br t54 (K (.tuple #[(Go.Value.int Go.IntKind.i32 65533), (Go.Value.int
    Go.IntKind.i64 1)]) w) (S.v P (Instr.fieldAt 78 t9 1) (fun t56 w => S.v P (Instr.loadAt 5 t56) (fun t57 w => S.v P (S.bin Go.BinOp.lss 5 (Go.Operand.tmp
    57) (Go.Operand.tmp 58) t57 t50) (fun t59 w => br t59 (K (.tuple #[(Go.Value.int Go.IntKind.i32 65533), (Go.Value.int Go.IntKind.i64 1)]) w) (S.v P (S.bin
    Go.BinOp.leq 3 (Go.Operand.tmp 61) (Go.Operand.const (Go.Value.int Go.IntKind.i64 2)) t40 (Go.Value.int Go.IntKind.i64 2)) (fun t62 w => br t62 (S.v P
    (S.bin Go.BinOp.and 5 (Go.Operand.tmp 63) (Go.Operand.const (Go.Value.int Go.IntKind.u8 31)) t19 (Go.Value.int Go.IntKind.u8 31)) (fun t64 w => S.v P
    (Go.convert 5 21 t64) (fun t65 w => S.v P (S.bin Go.BinOp.shl 21 (Go.Operand.tmp 65) (Go.Operand.const (Go.Value.int Go.IntKind.u64 6)) t65 (Go.Value.int
    Go.IntKind.u64 6)) (fun t66 w => S.v P (S.bin Go.BinOp.and 5 (Go.Operand.tmp 67) (Go.Operand.const (Go.Value.int Go.IntKind.u8 63)) t50 (Go.Value.int
    Go.IntKind.u8 63)) (fun t68 w => S.v P (Go.convert 5 21 t68) (fun t69 w => S.v P (S.bin Go.BinOp.or 21 (Go.Operand.tmp 66) (Go.Operand.tmp 69) t66 t69)
    (fun t70 w => K (.tuple #[t70, (Go.Value.int Go.IntKind.i64 2)]) w) w) w) w) w) w) w) (S.v P (Instr.indexAt 22 a0 (Go.Value.int Go.IntKind.i64 2)) (fun t72
    w => S.v P (Instr.loadAt 5 t72) (fun t73 w => S.v P (S.bin Go.BinOp.lss 5 (Go.Operand.tmp 74) (Go.Operand.const (Go.Value.int Go.IntKind.u8 128)) t73
    (Go.Value.int Go.IntKind.u8 128)) (fun t75 w => br t75 (K (.tuple #[(Go.Value.int Go.IntKind.i32 65533), (Go.Value.int Go.IntKind.i64 1)]) w) (S.v P (S.bin
    Go.BinOp.lss 5 (Go.Operand.const (Go.Value.int Go.IntKind.u8 191)) (Go.Operand.tmp 77) (Go.Value.int Go.IntKind.u8 191) t73) (fun t78 w => br t78 (K
    (.tuple #[(Go.Value.int Go.IntKind.i32 65533), (Go.Value.int Go.IntKind.i64 1)]) w) (S.v P (S.bin Go.BinOp.leq 3 (Go.Operand.tmp 80) (Go.Operand.const
    (Go.Value.int Go.IntKind.i64 3)) t40 (Go.Value.int Go.IntKind.i64 3)) (fun t81 w => br t81 (S.v P (S.bin Go.BinOp.and 5 (Go.Operand.tmp 82)
    (Go.Operand.const (Go.Value.int Go.IntKind.u8 15)) t19 (Go.Value.int Go.IntKind.u8 15)) (fun t83 w => S.v P (Go.convert 5 21 t83) (fun t84 w => S.v P
    (S.bin Go.BinOp.shl 21 (Go.Operand.tmp 84) (Go.Operand.const (Go.Value.int Go.IntKind.u64 12)) t84 (Go.Value.int Go.IntKind.u64 12)) (fun t85 w => S.v P
    (S.bin Go.BinOp.and 5 (Go.Operand.tmp 86) (Go.Operand.const (Go.Value.int Go.IntKind.u8 63)) t50 (Go.Value.int Go.IntKind.u8 63)) (fun t87 w => S.v P
    (Go.convert 5 21 t87) (fun t88 w => S.v P (S.bin Go.BinOp.shl 21 (Go.Operand.tmp 88) (Go.Operand.const (Go.Value.int Go.IntKind.u64 6)) t88 (Go.Value.int
    Go.IntKind.u64 6)) (fun t89 w => S.v P (S.bin Go.BinOp.or 21 (Go.Operand.tmp 85) (Go.Operand.tmp 89) t85 t89) (fun t90 w => S.v P (S.bin Go.BinOp.and 5
    (Go.Operand.tmp 91) (Go.Operand.const (Go.Value.int Go.IntKind.u8 63)) t73 (Go.Value.int Go.IntKind.u8 63)) (fun t92 w => S.v P (Go.convert 5 21 t92) (fun
    t93 w => S.v P (S.bin Go.BinOp.or 21 (Go.Operand.tmp 90) (Go.Operand.tmp 93) t90 t93) (fun t94 w => K (.tuple #[t94, (Go.Value.int Go.IntKind.i64 3)]) w)
    w) w) w) w) w) w) w) w) w) w) (S.v P (Instr.indexAt 22 a0 (Go.Value.int Go.IntKind.i64 3)) (fun t96 w => S.v P (Instr.loadAt 5 t96) (fun t97 w => S.v P
    (S.bin Go.BinOp.lss 5 (Go.Operand.tmp 98) (Go.Operand.const (Go.Value.int Go.IntKind.u8 128)) t97 (Go.Value.int Go.IntKind.u8 128)) (fun t99 w => br t99 (K
    (.tuple #[(Go.Value.int Go.IntKind.i32 65533), (Go.Value.int Go.IntKind.i64 1)]) w) (S.v P (S.bin Go.BinOp.lss 5 (Go.Operand.const (Go.Value.int
    Go.IntKind.u8 191)) (Go.Operand.tmp 101) (Go.Value.int Go.IntKind.u8 191) t97) (fun t102 w => br t102 (K (.tuple #[(Go.Value.int Go.IntKind.i32 65533),
    (Go.Value.int Go.IntKind.i64 1)]) w) (S.v P (S.bin Go.BinOp.and 5 (Go.Operand.tmp 104) (Go.Operand.const (Go.Value.int Go.IntKind.u8 7)) t19 (Go.Value.int
    Go.IntKind.u8 7)) (fun t105 w => S.v P (Go.convert 5 21 t105) (fun t106 w => S.v P (S.bin Go.BinOp.shl 21 (Go.Operand.tmp 106) (Go.Operand.const
    (Go.Value.int Go.IntKind.u64 18)) t106 (Go.Value.int Go.IntKind.u64 18)) (fun t107 w => S.v P (S.bin Go.BinOp.and 5 (Go.Operand.tmp 108) (Go.Operand.const
    (Go.Value.int Go.IntKind.u8 63)) t50 (Go.Value.int Go.IntKind.u8 63)) (fun t109 w => S.v P (Go.convert 5 21 t109) (fun t110 w => S.v P (S.bin Go.BinOp.shl
    21 (Go.Operand.tmp 110) (Go.Operand.const (Go.Value.int Go.IntKind.u64 12)) t110 (Go.Value.int Go.IntKind.u64 12)) (fun t111 w => S.v P (S.bin Go.BinOp.or
    21 (Go.Operand.tmp 107) (Go.Operand.tmp 111) t107 t111) (fun t112 w => S.v P (S.bin Go.BinOp.and 5 (Go.Operand.tmp 113) (Go.Operand.const (Go.Value.int
    Go.IntKind.u8 63)) t73 (Go.Value.int Go.IntKind.u8 63)) (fun t114 w => S.v P (Go.convert 5 21 t114) (fun t115 w => S.v P (S.bin Go.BinOp.shl 21
    (Go.Operand.tmp 115) (Go.Operand.const (Go.Value.int Go.IntKind.u64 6)) t115 (Go.Value.int Go.IntKind.u64 6)) (fun t116 w => S.v P (S.bin Go.BinOp.or 21
    (Go.Operand.tmp 112) (Go.Operand.tmp 116) t112 t116) (fun t117 w => S.v P (S.bin Go.BinOp.and 5 (Go.Operand.tmp 118) (Go.Operand.const (Go.Value.int
    Go.IntKind.u8 63)) t97 (Go.Value.int Go.IntKind.u8 63)) (fun t119 w => S.v P (Go.convert 5 21 t119) (fun t120 w => S.v P (S.bin Go.BinOp.or 21
    (Go.Operand.tmp 117) (Go.Operand.tmp 120) t117 t120) (fun t121 w => K (.tuple #[t121, (Go.Value.int Go.IntKind.i64 4)]) w) w) w) w) w) w) w) w) w) w) w) w)
    w) w) w)) w)) w) w) w)) w)) w)) w) w) w)) w)) w) w) w)) w) w) w) w) w)) w) w) w) w) w) w) w) w)) w) w) w) w) w)) w) w
theorem F46_chk : chkFn Tryd.f46 (bodyOf Tryd.f46) [0, 2, 3, 4, 5, 6, 7, 8, 9, 10, 11, 12, 16, 24, 47, 60, 62, 79, 81, 103] [] 1 = true := by kernel_rfl
theorem F46_eq (a0 : Value) (K : Value → World → Prop) (w : World) : F46 Tryd.prog a0 K w = denFn Tryd.prog (has ents) [] [0, 2, 3, 4, 5, 6, 7, 8, 9, 10, 11, 12, 16, 24, 47, 60, 62, 79, 81, 103] (bodyOf Tryd.f46) Tryd.f46.results.toList [a0] K w := by kernel_rfl
theorem F46_link {a0 : Value} {K : Value → World → Prop} {w : World} (h : F46 Tryd.prog a0 K w) : S.call Tryd.prog 46 [a0] K w :=
  calls_of_den entOk mixOk Tryd.func46 rfl F46_chk (Eq.mp (F46_eq a0 K w) h)
/-- lanyard/lanyardref01.need -/
def F47 (P : Program) (a0 : Value) (K : Value → World → Prop) (w : World) : Prop :=
  S.v P (S.bin Go.BinOp.lss 5 (Go.Operand.tmp 4) (Go.Operand.const (Go.Value.int Go.IntKind.u8 128)) a0 (Go.Value.int Go.IntKind.u8 128)) (fun t5 w => br t5 (K
    (Go.Value.int Go.IntKind.i64 1) w) (S.v P (S.bin Go.BinOp.geq 5 (Go.Operand.tmp 7) (Go.Operand.const (Go.Value.int Go.IntKind.u8 194)) a0 (Go.Value.int
    Go.IntKind.u8 194)) (fun t8 w => br t8 (S.v P (S.bin Go.BinOp.leq 5 (Go.Operand.tmp 10) (Go.Operand.const (Go.Value.int Go.IntKind.u8 223)) a0
    (Go.Value.int Go.IntKind.u8 223)) (fun t11 w => br t11 (K (Go.Value.int Go.IntKind.i64 2) w) (S.v P (S.bin Go.BinOp.geq 5 (Go.Operand.tmp 14)
    (Go.Operand.const (Go.Value.int Go.IntKind.u8 224)) a0 (Go.Value.int Go.IntKind.u8 224)) (fun t15 w => br t15 (S.v P (S.bin Go.BinOp.leq 5 (Go.Operand.tmp
    17) (Go.Operand.const (Go.Value.int Go.IntKind.u8 239)) a0 (Go.Value.int Go.IntKind.u8 239)) (fun t18 w => br t18 (K (Go.Value.int Go.IntKind.i64 3) w)
    (S.v P (S.bin Go.BinOp.geq 5 (Go.Operand.tmp 21) (Go.Operand.const (Go.Value.int Go.IntKind.u8 240)) a0 (Go.Value.int Go.IntKind.u8 240)) (fun t22 w => br
    t22 (S.v P (S.bin Go.BinOp.leq 5 (Go.Operand.tmp 24) (Go.Operand.const (Go.Value.int Go.IntKind.u8 244)) a0 (Go.Value.int Go.IntKind.u8 244)) (fun t25 w =>
    br t25 (K (Go.Value.int Go.IntKind.i64 4) w) (K (Go.Value.int Go.IntKind.i64 0) w)) w) (K (Go.Value.int Go.IntKind.i64 0) w)) w)) w) (S.v P (S.bin
    Go.BinOp.geq 5 (Go.Operand.tmp 21) (Go.Operand.const (Go.Value.int Go.IntKind.u8 240)) a0 (Go.Value.int Go.IntKind.u8 240)) (fun t22_1 w => br t22_1 (S.v P
    (S.bin Go.BinOp.leq 5 (Go.Operand.tmp 24) (Go.Operand.const (Go.Value.int Go.IntKind.u8 244)) a0 (Go.Value.int Go.IntKind.u8 244)) (fun t25_1 w => br t25_1
    (K (Go.Value.int Go.IntKind.i64 4) w) (K (Go.Value.int Go.IntKind.i64 0) w)) w) (K (Go.Value.int Go.IntKind.i64 0) w)) w)) w)) w) (S.v P (S.bin
    Go.BinOp.geq 5 (Go.Operand.tmp 14) (Go.Operand.const (Go.Value.int Go.IntKind.u8 224)) a0 (Go.Value.int Go.IntKind.u8 224)) (fun t15_1 w => br t15_1 (S.v P
    (S.bin Go.BinOp.leq 5 (Go.Operand.tmp 17) (Go.Operand.const (Go.Value.int Go.IntKind.u8 239)) a0 (Go.Value.int Go.IntKind.u8 239)) (fun t18_1 w => br t18_1
    (K (Go.Value.int Go.IntKind.i64 3) w) (S.v P (S.bin Go.BinOp.geq 5 (Go.Operand.tmp 21) (Go.Operand.const (Go.Value.int Go.IntKind.u8 240)) a0 (Go.Value.int
    Go.IntKind.u8 240)) (fun t22_2 w => br t22_2 (S.v P (S.bin Go.BinOp.leq 5 (Go.Operand.tmp 24) (Go.Operand.const (Go.Value.int Go.IntKind.u8 244)) a0
    (Go.Value.int Go.IntKind.u8 244)) (fun t25_2 w => br t25_2 (K (Go.Value.int Go.IntKind.i64 4) w) (K (Go.Value.int Go.IntKind.i64 0) w)) w) (K (Go.Value.int
    Go.IntKind.i64 0) w)) w)) w) (S.v P (S.bin Go.BinOp.geq 5 (Go.Operand.tmp 21) (Go.Operand.const (Go.Value.int Go.IntKind.u8 240)) a0 (Go.Value.int
    Go.IntKind.u8 240)) (fun t22_3 w => br t22_3 (S.v P (S.bin Go.BinOp.leq 5 (Go.Operand.tmp 24) (Go.Operand.const (Go.Value.int Go.IntKind.u8 244)) a0
    (Go.Value.int Go.IntKind.u8 244)) (fun t25_3 w => br t25_3 (K (Go.Value.int Go.IntKind.i64 4) w) (K (Go.Value.int Go.IntKind.i64 0) w)) w) (K (Go.Value.int
    Go.IntKind.i64 0) w)) w)) w)) w)) w
theorem F47_chk : chkFn Tryd.f47 (bodyOf Tryd.f47) [0, 2, 3, 6, 13, 20] [] 1 = true := by kernel_rfl
theorem F47_eq (a0 : Value) (K : Value → World → Prop) (w : World) : F47 Tryd.prog a0 K w = denFn Tryd.prog (has ents) [] [0, 2, 3, 6, 13, 20] (bodyOf Tryd.f47) Tryd.f47.results.toList [a0] K w := by kernel_rfl
theorem F47_link {a0 : Value} {K : Value → World → Prop} {w : World} (h : F47 Tryd.prog a0 K w) : S.call Tryd.prog 47 [a0] K w :=
  calls_of_den entOk mixOk Tryd.func47 rfl F47_chk (Eq.mp (F47_eq a0 K w) h)
/-- lanyard/lanyardref01.second -/
def F48 (P : Program) (a0 a1 : Value) (K : Value → World → Prop) (w : World) : Prop :=
  S.seq (fun vs w => S.v P (S.bin Go.BinOp.geq 5 (Go.Operand.tmp 16) (Go.Operand.tmp 17) a1 (nth vs 0)) (fun t18 w => br t18 (S.v P (S.bin Go.BinOp.leq 5
    (Go.Operand.tmp 20) (Go.Operand.tmp 21) a1 (nth vs 1)) (fun t22 w => K t22 w) w) (K (Go.Value.bool false) w)) w) (fun J => S.v P (S.bin Go.BinOp.eql 5
    (Go.Operand.tmp 7) (Go.Operand.const (Go.Value.int Go.IntKind.u8 224)) a0 (Go.Value.int Go.IntKind.u8 224)) (fun t9 w => br t9 (J [(Go.Value.int
    Go.IntKind.u8 160), (Go.Value.int Go.IntKind.u8 191), a0, t9, undef, undef, undef] w) (S.v P (S.bin Go.BinOp.eql 5 (Go.Operand.tmp 7) (Go.Operand.const
    (Go.Value.int Go.IntKind.u8 237)) a0 (Go.Value.int Go.IntKind.u8 237)) (fun t11 w => br t11 (J [(Go.Value.int Go.IntKind.u8 128), (Go.Value.int
    Go.IntKind.u8 159), a0, t9, t11, undef, undef] w) (S.v P (S.bin Go.BinOp.eql 5 (Go.Operand.tmp 7) (Go.Operand.const (Go.Value.int Go.IntKind.u8 240)) a0
    (Go.Value.int Go.IntKind.u8 240)) (fun t13 w => br t13 (J [(Go.Value.int Go.IntKind.u8 144), (Go.Value.int Go.IntKind.u8 191), a0, t9, t11, t13, undef] w)
    (S.v P (S.bin Go.BinOp.eql 5 (Go.Operand.tmp 7) (Go.Operand.const (Go.Value.int Go.IntKind.u8 244)) a0 (Go.Value.int Go.IntKind.u8 244)) (fun t15 w => br
    t15 (J [(Go.Value.int Go.IntKind.u8 128), (Go.Value.int Go.IntKind.u8 143), a0, t9, t11, t13, t15] w) (J [(Go.Value.int Go.IntKind.u8 128), (Go.Value.int
    Go.IntKind.u8 191), a0, t9, t11, t13, t15] w)) w)) w)) w)) w)
theorem F48_chk : chkFn Tryd.f48 (bodyOf Tryd.f48) [0, 1, 4, 5, 6, 7, 8, 10, 12, 14] [] 2 = true := by kernel_rfl
theorem F48_eq (a0 a1 : Value) (K : Value → World → Prop) (w : World) : F48 Tryd.prog a0 a1 K w = denFn Tryd.prog (has ents) [] [0, 1, 4, 5, 6, 7, 8, 10, 12, 14] (bodyOf Tryd.f48) Tryd.f48.results.toList [a0, a1] K w := by kernel_rfl
theorem F48_link {a0 a1 : Value} {K : Value → World → Prop} {w : World} (h : F48 Tryd.prog a0 a1 K w) : S.call Tryd.prog 48 [a0, a1] K w :=
  calls_of_den entOk mixOk Tryd.func48 rfl F48_chk (Eq.mp (F48_eq a0 a1 K w) h)
/-- unicode/utf8.RuneCount -/
def F49 (P : Program) (a0 : Value) (K : Value → World → Prop) (w : World) : Prop :=
  S.v P (Builtin.len_ #[22] 3 #[a0]) (fun t7 w => S.loop (fun I => ∀ (x2 : Value) (x4 : Value) (x5 : Value) (x10 : Value) (x18 : Value) (w : World), (S.v P
    (S.bin Go.BinOp.lss 3 (Go.Operand.tmp 8) (Go.Operand.tmp 9) x4 t7) (fun t10 w => br t10 (S.v P (Instr.indexAt 22 a0 x4) (fun t15 w => S.v P (Instr.loadAt 5
    t15) (fun t16 w => S.v P (S.bin Go.BinOp.geq 5 (Go.Operand.tmp 17) (Go.Operand.const (Go.Value.int Go.IntKind.u8 128)) t16 (Go.Value.int Go.IntKind.u8
    128)) (fun t18 w => br t18 (S.v P (Instr.sliceAt 22 a0 (some x4) none none) (fun t22 w => S.v P (Go.convert 22 9 t22) (fun t23 w => S.call P 55 [t23] (fun
    t24 w => S.v P (S.bin Go.BinOp.add 3 (Go.Operand.tmp 19) (Go.Operand.tmp 24) x4 t24) (fun t25 w => K t25 w) w) w) w) w) (S.v P (S.bin Go.BinOp.add 3
    (Go.Operand.tmp 11) (Go.Operand.const (Go.Value.int Go.IntKind.i64 1)) x4 (Go.Value.int Go.IntKind.i64 1)) (fun t12 w => I [x2, t12, t16, t10, t18] w) w))
    w) w) w) (K x4 w)) w) → I [x2, x4, x5, x10, x18] w) [(Go.Value.int Go.IntKind.i64 0), (Go.Value.int Go.IntKind.i64 0), undef, undef, undef] w) w
theorem F49_chk : chkFn Tryd.f49 (bodyOf Tryd.f49) [0, 2, 3, 4, 5, 10, 18] [] 1 = true := by kernel_rfl
theorem F49_eq (a0 : Value) (K : Value → World → Prop) (w : World) : F49 Tryd.prog a0 K w = denFn Tryd.prog (has ents) [] [0, 2, 3, 4, 5, 10, 18] (bodyOf Tryd.f49) Tryd.f49.results.toList [a0] K w := by kernel_rfl
theorem F49_link {a0 : Value} {K : Value → World → Prop} {w : World} (h : F49 Tryd.prog a0 K w) : S.call Tryd.prog 49 [a0] K w :=
  calls_of_den entOk mixOk Tryd.func49 rfl F49_chk (Eq.mp (F49_eq a0 K w) h)
/-- bytes.IndexByte -/
def F51 (P : Program) (a0 a1 : Value) (K : Value → World → Prop) (w : World) : Prop :=
  S.nx P (callFunc 56 #[a0, a1]) (fun t7 w => K t7 w) w
theorem F51_chk : chkFn Tryd.f51 (bodyOf Tryd.f51) [0, 1, 4] [] 2 = true := by kernel_rfl
theorem F51_eq (a0 a1 : Value) (K : Value → World → Prop) (w : World) : F51 Tryd.prog a0 a1 K w = denFn Tryd.prog (has ents) [] [0, 1, 4] (bodyOf Tryd.f51) Tryd.f51.results.toList [a0, a1] K w := by kernel_rfl
theorem F51_link {a0 a1 : Value} {K : Value → World → Prop} {w : World} (h : F51 Tryd.prog a0 a1 K w) : S.call Tryd.prog 51 [a0, a1] K w :=
  calls_of_den entOk mixOk Tryd.func51 rfl F51_chk (Eq.mp (F51_eq a0 a1 K w) h)
/-- internal/bytealg.Cutover -/
def F53 (P : Program) (a0 : Value) (K : Value → World → Prop) (w : World) : Prop :=
  S.v P (S.bin Go.BinOp.add 3 (Go.Operand.tmp 3) (Go.Operand.const (Go.Value.int Go.IntKind.i64 16)) a0 (Go.Value.int Go.IntKind.i64 16)) (fun t4 w => S.v P
    (S.bin Go.BinOp.quo 3 (Go.Operand.tmp 4) (Go.Operand.const (Go.Value.int Go.IntKind.i64 8)) t4 (Go.Value.int Go.IntKind.i64 8)) (fun t5 w => K t5 w) w) w
theorem F53_chk : chkFn Tryd.f53 (bodyOf Tryd.f53) [0, 2] [] 1 = true := by kernel_rfl
theorem F53_eq (a0 : Value) (K : Value → World → Prop) (w : World) : F53 Tryd.prog a0 K w = denFn Tryd.prog (has ents) [] [0, 2] (bodyOf Tryd.f53) Tryd.f53.results.toList [a0] K w := by kernel_rfl
theorem F53_link {a0 : Value} {K : Value → World → Prop} {w : World} (h : F53 Tryd.prog a0 K w) : S.call Tryd.prog 53 [a0] K w :=
  calls_of_den entOk mixOk Tryd.func53 rfl F53_chk (Eq.mp (F53_eq a0 K w) h)
/-- internal/bytealg.IndexRabinKarp[[]byte] -/
def F54 (P : Program) (a0 a1 : Value) (K : Value → World → Prop) (w : World) : Prop :=
  S.call P 57 [a1] (fun t13 w => S.v P (Instr.extract t13 0) (fun t14 w => S.v P (Instr.extract t13 1) (fun t15 w => S.v P (Builtin.len_ #[22] 3 #[a1]) (fun t17
    w => S.loop (fun I => ∀ (x8 : Value) (x9 : Value) (x20 : Value) (w : World), (S.v P (S.bin Go.BinOp.lss 3 (Go.Operand.tmp 18) (Go.Operand.tmp 19) x9 t17)
    (fun t20 w => br t20 (S.v P (S.bin Go.BinOp.mul 81 (Go.Operand.tmp 23) (Go.Operand.const (Go.Value.int Go.IntKind.u32 16777619)) x8 (Go.Value.int
    Go.IntKind.u32 16777619)) (fun t24 w => S.v P (Instr.indexAt 22 a0 x9) (fun t27 w => S.v P (Instr.loadAt 5 t27) (fun t28 w => S.v P (Go.convert 5 81 t28)
    (fun t29 w => S.v P (S.bin Go.BinOp.add 81 (Go.Operand.tmp 24) (Go.Operand.tmp 29) t24 t29) (fun t30 w => S.v P (S.bin Go.BinOp.add 3 (Go.Operand.tmp 21)
    (Go.Operand.const (Go.Value.int Go.IntKind.i64 1)) x9 (Go.Value.int Go.IntKind.i64 1)) (fun t22 w => I [t30, t22, t20] w) w) w) w) w) w) w) (S.seq (fun vs
    w => br (nth vs 0) (K (Go.Value.int Go.IntKind.i64 0) w) (S.loop (fun I_1 => ∀ (x4 : Value) (x8_1 : Value) (x10 : Value) (x47 : Value) (x84 : Value) (w :
    World), (S.v P (Builtin.len_ #[22] 3 #[a0]) (fun t46 w => S.v P (S.bin Go.BinOp.lss 3 (Go.Operand.tmp 44) (Go.Operand.tmp 46) x10 t46) (fun t47 w => br t47
    (S.v P (S.bin Go.BinOp.mul 81 (Go.Operand.tmp 48) (Go.Operand.const (Go.Value.int Go.IntKind.u32 16777619)) x8_1 (Go.Value.int Go.IntKind.u32 16777619))
    (fun t49 w => S.v P (Instr.indexAt 22 a0 x10) (fun t53 w => S.v P (Instr.loadAt 5 t53) (fun t54 w => S.v P (Go.convert 5 81 t54) (fun t55 w => S.v P (S.bin
    Go.BinOp.add 81 (Go.Operand.tmp 50) (Go.Operand.tmp 55) t49 t55) (fun t56 w => S.v P (S.bin Go.BinOp.sub 3 (Go.Operand.tmp 60) (Go.Operand.tmp 61) x10 t17)
    (fun t62 w => S.v P (Instr.indexAt 22 a0 t62) (fun t63 w => S.v P (Instr.loadAt 5 t63) (fun t64 w => S.v P (Go.convert 5 81 t64) (fun t65 w => S.v P (S.bin
    Go.BinOp.mul 81 (Go.Operand.tmp 58) (Go.Operand.tmp 65) t15 t65) (fun t66 w => S.v P (S.bin Go.BinOp.sub 81 (Go.Operand.tmp 57) (Go.Operand.tmp 66) t56
    t66) (fun t67 w => S.v P (S.bin Go.BinOp.add 3 (Go.Operand.tmp 68) (Go.Operand.const (Go.Value.int Go.IntKind.i64 1)) x10 (Go.Value.int Go.IntKind.i64 1))
    (fun t69 w => S.seq (fun vs_1 w => br (nth vs_1 0) (S.v P (S.bin Go.BinOp.sub 3 (Go.Operand.tmp 85) (Go.Operand.tmp 86) t69 t17) (fun t87 w => K t87 w) w)
    (I_1 [x4, t67, t69, t47, (nth vs_1 0)] w)) (fun J_1 => S.drawn (fun w => S.v P (S.bin Go.BinOp.eql 81 (Go.Operand.tmp 70) (Go.Operand.tmp 71) t67 t14) (fun
    t72 w => br t72 ((S.v P (S.bin Go.BinOp.sub 3 (Go.Operand.tmp 75) (Go.Operand.tmp 76) t69 t17) (fun t77 w => (S.v P (Instr.sliceAt 22 a0 (some t77) (some
    t69) none) (fun t79 w => (S.v P (Go.convert 22 9 t79) (fun t80 w => S.v P (Go.convert 22 9 a1) (fun t82 w => S.v P (S.bin Go.BinOp.eql 9 (Go.Operand.tmp
    80) (Go.Operand.tmp 82) t80 t82) (fun t83 w => J_1 [t83] w) w) w) w) ∧ (S.v P (Go.convert 22 9 a1) (fun t82_1 w => S.v P (Go.convert 22 9 t79) (fun t80_1 w
    => S.v P (S.bin Go.BinOp.eql 9 (Go.Operand.tmp 80) (Go.Operand.tmp 82) t80_1 t82_1) (fun t83_1 w => J_1 [t83_1] w) w) w) w)) w) ∧ (S.v P (Go.convert 22 9
    a1) (fun t82_2 w => S.v P (Instr.sliceAt 22 a0 (some t77) (some t69) none) (fun t79_1 w => S.v P (Go.convert 22 9 t79_1) (fun t80_2 w => S.v P (S.bin
    Go.BinOp.eql 9 (Go.Operand.tmp 80) (Go.Operand.tmp 82) t80_2 t82_2) (fun t83_2 w => J_1 [t83_2] w) w) w) w) w)) w) ∧ (S.v P (Go.convert 22 9 a1) (fun t82_3
    w => S.v P (S.bin Go.BinOp.sub 3 (Go.Operand.tmp 75) (Go.Operand.tmp 76) t69 t17) (fun t77_1 w => S.v P (Instr.sliceAt 22 a0 (some t77_1) (some t69) none)
    (fun t79_2 w => S.v P (Go.convert 22 9 t79_2) (fun t80_3 w => S.v P (S.bin Go.BinOp.eql 9 (Go.Operand.tmp 80) (Go.Operand.tmp 82) t80_3 t82_3) (fun t83_3 w
    => J_1 [t83_3] w) w) w) w) w) w)) ((((J_1 [(Go.Value.bool false)] w) ∧ (J_1 [(Go.Value.bool false)] w)) ∧ (J_1 [(Go.Value.bool false)] w)) ∧ (J_1
    [(Go.Value.bool false)] w))) w) w)) w) w) w) w) w) w) w) w) w) w) w) w) (K (Go.Value.int Go.IntKind.i64 (-1)) w)) w) w) → I_1 [x4, x8_1, x10, x47, x84] w)
    [(Go.Value.int Go.IntKind.i64 0), x8, t17, undef, undef] w)) (fun J => S.drawn (fun w => S.v P (S.bin Go.BinOp.eql 81 (Go.Operand.tmp 31) (Go.Operand.tmp
    32) x8 t14) (fun t33 w => br t33 ((S.v P (Instr.sliceAt 22 a0 none (some t17) none) (fun t37 w => (S.v P (Go.convert 22 9 t37) (fun t38 w => S.v P
    (Go.convert 22 9 a1) (fun t40 w => S.v P (S.bin Go.BinOp.eql 9 (Go.Operand.tmp 38) (Go.Operand.tmp 40) t38 t40) (fun t41 w => J [t41] w) w) w) w) ∧ (S.v P
    (Go.convert 22 9 a1) (fun t40_1 w => S.v P (Go.convert 22 9 t37) (fun t38_1 w => S.v P (S.bin Go.BinOp.eql 9 (Go.Operand.tmp 38) (Go.Operand.tmp 40) t38_1
    t40_1) (fun t41_1 w => J [t41_1] w) w) w) w)) w) ∧ (S.v P (Go.convert 22 9 a1) (fun t40_2 w => S.v P (Instr.sliceAt 22 a0 none (some t17) none) (fun t37_1
    w => S.v P (Go.convert 22 9 t37_1) (fun t38_2 w => S.v P (S.bin Go.BinOp.eql 9 (Go.Operand.tmp 38) (Go.Operand.tmp 40) t38_2 t40_2) (fun t41_2 w => J
    [t41_2] w) w) w) w) w)) (((J [(Go.Value.bool false)] w) ∧ (J [(Go.Value.bool false)] w)) ∧ (J [(Go.Value.bool false)] w))) w) w))) w) → I [x8, x9, x20] w)
    [(Go.Value.int Go.IntKind.u32 0), (Go.Value.int Go.IntKind.i64 0), undef] w) w) w) w) w
theorem F54_chk : chkFn Tryd.f54 (bodyOf Tryd.f54) [0, 1, 4, 5, 6, 7, 8, 9, 10, 20, 42, 47, 84] [(8, { ord := (.step 0 true (.step 1 true (.step 2 false (.step 3 true (.step 4 true (.step 5 true (.step 8 true (.fork (.step 6 false (.fork (.step 7 false (.step 9 false (.step 10 false (.step 11 false .fin)))) (.step 9 false (.step 7 false (.step 10 false (.step 11 false .fin)))))) (.step 9 false (.step 6 false (.step 7 false (.step 10 false (.step 11 false .fin))))))))))))), flags := [], held := false, init := true }), (16, { ord := (.step 0 true (.step 1 true (.step 2 false (.step 3 true (.step 4 true (.step 5 true (.step 6 true (.step 8 true (.step 11 true (.fork (.step 7 false (.fork (.step 9 false (.fork (.step 10 false (.step 12 false (.step 13 false (.step 14 false .fin)))) (.step 12 false (.step 10 false (.step 13 false (.step 14 false .fin)))))) (.step 12 false (.step 9 false (.step 10 false (.step 13 false (.step 14 false .fin))))))) (.step 12 false (.step 7 false (.step 9 false (.step 10 false (.step 13 false (.step 14 false .fin)))))))))))))))), flags := [], held := false, init := true })] 2 = true := by kernel_rfl
theorem F54_eq (a0 a1 : Value) (K : Value → World → Prop) (w : World) : F54 Tryd.prog a0 a1 K w = denFn Tryd.prog (has ents) [(8, { ord := (.step 0 true (.step 1 true (.step 2 false (.step 3 true (.step 4 true (.step 5 true (.step 8 true (.fork (.step 6 false (.fork (.step 7 false (.step 9 false (.step 10 false (.step 11 false .fin)))) (.step 9 false (.step 7 false (.step 10 false (.step 11 false .fin)))))) (.step 9 false (.step 6 false (.step 7 false (.step 10 false (.step 11 false .fin))))))))))))), flags := [], held := false, init := true }), (16, { ord := (.step 0 true (.step 1 true (.step 2 false (.step 3 true (.step 4 true (.step 5 true (.step 6 true (.step 8 true (.step 11 true (.fork (.step 7 false (.fork (.step 9 false (.fork (.step 10 false (.step 12 false (.step 13 false (.step 14 false .fin)))) (.step 12 false (.step 10 false (.step 13 false (.step 14 false .fin)))))) (.step 12 false (.step 9 false (.step 10 false (.step 13 false (.step 14 false .fin))))))) (.step 12 false (.step 7 false (.step 9 false (.step 10 false (.step 13 false (.step 14 false .fin)))))))))))))))), flags := [], held := false, init := true })] [0, 1, 4, 5, 6, 7, 8, 9, 10, 20, 42, 47, 84] (bodyOf Tryd.f54) Tryd.f54.results.toList [a0, a1] K w := by kernel_rfl
theorem F54_link {a0 a1 : Value} {K : Value → World → Prop} {w : World} (h : F54 Tryd.prog a0 a1 K w) : S.call Tryd.prog 54 [a0, a1] K w :=
  calls_of_den entOk mixOk Tryd.func54 rfl F54_chk (Eq.mp (F54_eq a0 a1 K w) h)
/-- unicode/utf8.RuneCountInString -/
def F55 (P : Program) (a0 : Value) (K : Value → World → Prop) (w : World) : Prop :=
  S.v P (Instr.range 9 a0) (fun t4 w => S.loop (fun I => ∀ (x2 : Value) (x6 : Value) (w : World), (S.v P (Instr.next t4 true 0) (fun t5 w => S.v P (Instr.extract
    t5 0) (fun t6 w => br t6 (S.v P (S.bin Go.BinOp.add 3 (Go.Operand.tmp 7) (Go.Operand.const (Go.Value.int Go.IntKind.i64 1)) x2 (Go.Value.int Go.IntKind.i64
    1)) (fun t8 w => I [t8, t6] w) w) (K x2 w)) w) w) → I [x2, x6] w) [(Go.Value.int Go.IntKind.i64 0), undef] w) w
theorem F55_chk : chkFn Tryd.f55 (bodyOf Tryd.f55) [0, 2, 4, 6] [] 1 = true := by kernel_rfl
theorem F55_eq (a0 : Value) (K : Value → World → Prop) (w : World) : F55 Tryd.prog a0 K w = denFn Tryd.prog (has ents) [] [0, 2, 4, 6] (bodyOf Tryd.f55) Tryd.f55.results.toList [a0] K w := by kernel_rfl
theorem F55_link {a0 : Value} {K : Value → World → Prop} {w : World} (h : F55 Tryd.prog a0 K w) : S.call Tryd.prog 55 [a0] K w :=
  calls_of_den entOk mixOk Tryd.func55 rfl F55_chk (Eq.mp (F55_eq a0 K w) h)
/-- internal/bytealg.hashStr[[]byte] -/
def F57 (P : Program) (a0 : Value) (K : Value → World → Prop) (w : World) : Prop :=
  S.loop (fun I => ∀ (x4 : Value) (x5 : Value) (x12 : Value) (w : World), (S.v P (Builtin.len_ #[22] 3 #[a0]) (fun t11 w => S.v P (S.bin Go.BinOp.lss 3
    (Go.Operand.tmp 9) (Go.Operand.tmp 11) x5 t11) (fun t12 w => br t12 (S.v P (S.bin Go.BinOp.mul 81 (Go.Operand.tmp 15) (Go.Operand.const (Go.Value.int
    Go.IntKind.u32 16777619)) x4 (Go.Value.int Go.IntKind.u32 16777619)) (fun t16 w => S.v P (Instr.indexAt 22 a0 x5) (fun t19 w => S.v P (Instr.loadAt 5 t19)
    (fun t20 w => S.v P (Go.convert 5 81 t20) (fun t21 w => S.v P (S.bin Go.BinOp.add 81 (Go.Operand.tmp 16) (Go.Operand.tmp 21) t16 t21) (fun t22 w => S.v P
    (S.bin Go.BinOp.add 3 (Go.Operand.tmp 13) (Go.Operand.const (Go.Value.int Go.IntKind.i64 1)) x5 (Go.Value.int Go.IntKind.i64 1)) (fun t14 w => I [t22, t14,
    t12] w) w) w) w) w) w) w) (S.v P (Builtin.len_ #[22] 3 #[a0]) (fun t24 w => S.loop (fun I_1 => ∀ (x6 : Value) (x7 : Value) (x8 : Value) (x26 : Value) (x31
    : Value) (w : World), (S.v P (S.bin Go.BinOp.gtr 3 (Go.Operand.tmp 25) (Go.Operand.const (Go.Value.int Go.IntKind.i64 0)) x8 (Go.Value.int Go.IntKind.i64
    0)) (fun t26 w => br t26 (S.seq (fun vs w => S.v P (S.bin Go.BinOp.mul 81 (Go.Operand.tmp 35) (Go.Operand.tmp 36) x7 x7) (fun t37 w => S.v P (S.bin
    Go.BinOp.shr 3 (Go.Operand.tmp 27) (Go.Operand.const (Go.Value.int Go.IntKind.u64 1)) x8 (Go.Value.int Go.IntKind.u64 1)) (fun t28 w => I_1 [(nth vs 0),
    t37, t28, t26, (nth vs 1)] w) w) w) (fun J => S.v P (S.bin Go.BinOp.and 3 (Go.Operand.tmp 29) (Go.Operand.const (Go.Value.int Go.IntKind.i64 1)) x8
    (Go.Value.int Go.IntKind.i64 1)) (fun t30 w => S.v P (S.bin Go.BinOp.neq 3 (Go.Operand.tmp 30) (Go.Operand.const (Go.Value.int Go.IntKind.i64 0)) t30
    (Go.Value.int Go.IntKind.i64 0)) (fun t31 w => br t31 (S.v P (S.bin Go.BinOp.mul 81 (Go.Operand.tmp 32) (Go.Operand.tmp 33) x6 x7) (fun t34 w => J [t34,
    t31] w) w) (J [x6, t31] w)) w) w)) (K (.tuple #[x4, x6]) w)) w) → I_1 [x6, x7, x8, x26, x31] w) [(Go.Value.int Go.IntKind.u32 1), (Go.Value.int
    Go.IntKind.u32 16777619), t24, undef, undef] w) w)) w) w) → I [x4, x5, x12] w) [(Go.Value.int Go.IntKind.u32 0), (Go.Value.int Go.IntKind.i64 0), undef] w
theorem F57_chk : chkFn Tryd.f57 (bodyOf Tryd.f57) [0, 2, 3, 4, 5, 6, 7, 8, 12, 26, 31] [] 1 = true := by kernel_rfl
theorem F57_eq (a0 : Value) (K : Value → World → Prop) (w : World) : F57 Tryd.prog a0 K w = denFn Tryd.prog (has ents) [] [0, 2, 3, 4, 5, 6, 7, 8, 12, 26, 31] (bodyOf Tryd.f57) Tryd.f57.results.toList [a0] K w := by kernel_rfl
theorem F57_link {a0 : Value} {K : Value → World → Prop} {w : World} (h : F57 Tryd.prog a0 K w) : S.call Tryd.prog 57 [a0] K w :=
  calls_of_den entOk mixOk Tryd.func57 rfl F57_chk (Eq.mp (F57_eq a0 K w) h)
/-- gosem.cut.vars -/
def F78 (P : Program) (K : Value → World → Prop) (w : World) : Prop :=
  S.v P (Instr.build 78 #[(0, (Go.Value.int Go.IntKind.u8 128)), (1, (Go.Value.int Go.IntKind.u8 191))]) (fun t0 w => S.v P (Instr.build 78 #[(0, (Go.Value.int
    Go.IntKind.u8 160)), (1, (Go.Value.int Go.IntKind.u8 191))]) (fun t1 w => S.v P (Instr.build 78 #[(0, (Go.Value.int Go.IntKind.u8 128)), (1, (Go.Value.int
    Go.IntKind.u8 159))]) (fun t2 w => S.v P (Instr.build 78 #[(0, (Go.Value.int Go.IntKind.u8 144)), (1, (Go.Value.int Go.IntKind.u8 191))]) (fun t3 w => S.v
    P (Instr.build 78 #[(0, (Go.Value.int Go.IntKind.u8 128)), (1, (Go.Value.int Go.IntKind.u8 143))]) (fun t4 w => S.v P (Instr.build 79 #[(0, t0), (1, t1),
    (2, t2), (3, t3), (4, t4)]) (fun t5 w => S.u P (Instr.storeAt 79 (Go.Value.pointer (some ⟨2, 0, none⟩)) t5) (fun w => K (.tuple #[]) w) w) w) w) w) w) w) w
theorem F78_chk : chkFn Tryd.f78 (bodyOf Tryd.f78) [] [] 0 = true := by kernel_rfl
theorem F78_eq (K : Value → World → Prop) (w : World) : F78 Tryd.prog K w = denFn Tryd.prog (has ents) [] [] (bodyOf Tryd.f78) Tryd.f78.results.toList [] K w := by kernel_rfl
theorem F78_link {K : Value → World → Prop} {w : World} (h : F78 Tryd.prog K w) : S.call Tryd.prog 78 [] K w :=
  calls_of_den entOk mixOk Tryd.func78 rfl F78_chk (Eq.mp (F78_eq K w) h)
end Go.Proofs.YthpbiliajcameaaDoor
