import Derived.Test.YthpbiliajcameaaFn
set_option linter.unusedVariables false
set_option maxRecDepth 100000
namespace Go.Proofs.Ythpbiliajcameaa
open Go Go.Fw Go.Proofs
/-- lanyard/lanyardlaw22.MacroOrder -/
def F3 (P : Program) (a0 a1 a2 : Value) (K : Value → World → Prop) (w : World) : Prop :=
  S.call P 6 [] (fun t28 w => S.call P 7 [] (fun t29 w => S.v P (Op.unary Go.UnOp.not t29) (fun t30 w => br t30 (K (Go.Value.bool false) w) (S.v P (S.bin
    Go.BinOp.eql 23 (Go.Operand.tmp 32) (Go.Operand.const (Go.Value.pointer none)) t28 (Go.Value.pointer none)) (fun t33 w => br t33 (K (Go.Value.bool false)
    w) (S.call P 8 [t28, a0] (fun t37 w => S.v P (S.bin Go.BinOp.neq 26 (Go.Operand.tmp 38) (Go.Operand.const (Go.Value.int Go.IntKind.i64 0)) t37
    (Go.Value.int Go.IntKind.i64 0)) (fun t39 w => br t39 (S.v P (S.bin Go.BinOp.eql 26 (Go.Operand.tmp 40) (Go.Operand.const (Go.Value.int Go.IntKind.i64 3))
    t37 (Go.Value.int Go.IntKind.i64 3)) (fun t41 w => br t41 (S.v P (Builtin.len_ #[22] 3 #[a0]) (fun t44 w => S.v P (S.bin Go.BinOp.gtr 3 (Go.Operand.tmp 44)
    (Go.Operand.const (Go.Value.int Go.IntKind.i64 65536)) t44 (Go.Value.int Go.IntKind.i64 65536)) (fun t45 w => K t45 w) w) w) (K (Go.Value.bool false) w))
    w) (S.seq (fun vs w => S.loop (fun I => ∀ (x6 : Value) (x10 : Value) (x11 : Value) (x12 : Value) (x13 : Value) (x59 : Value) (x60 : Value) (x81 : Value) (w
    : World), (S.v P (S.bin Go.BinOp.lss 3 (Go.Operand.tmp 59) (Go.Operand.tmp 58) x59 (nth vs 0)) (fun t60 w => br t60 (S.call P 9 [t28] (fun t64 w => S.v P
    (Instr.extract t64 0) (fun t65 w => S.v P (Instr.extract t64 1) (fun t66 w => S.v P (Instr.extract t64 2) (fun t67 w => S.v P (Instr.indexAt 22 a0 x59)
    (fun t71 w => S.v P (Instr.loadAt 5 t71) (fun t72 w => S.v P (S.bin Go.BinOp.neq 5 (Go.Operand.tmp 68) (Go.Operand.tmp 72) t65 t72) (fun t73 w => br t73 (K
    (Go.Value.bool false) w) (S.v P (Op.unary Go.UnOp.not t66) (fun t76 w => br t76 (K (Go.Value.bool false) w) (S.v P (Op.unary Go.UnOp.not t67) (fun t80 w =>
    br t80 (K (Go.Value.bool false) w) (S.v P (S.bin Go.BinOp.add 3 (Go.Operand.tmp 59) (Go.Operand.const (Go.Value.int Go.IntKind.i64 1)) x59 (Go.Value.int
    Go.IntKind.i64 1)) (fun t82 w => I [x6, x59, t65, t66, t67, t82, t60, t80] w) w)) w)) w)) w) w) w) w) w) w) w) (S.call P 10 [t28, a2] (fun t85 w => S.v P
    (S.bin Go.BinOp.neq 26 (Go.Operand.tmp 86) (Go.Operand.const (Go.Value.int Go.IntKind.i64 0)) t85 (Go.Value.int Go.IntKind.i64 0)) (fun t87 w => br t87
    (S.v P (S.bin Go.BinOp.eql 26 (Go.Operand.tmp 88) (Go.Operand.const (Go.Value.int Go.IntKind.i64 3)) t85 (Go.Value.int Go.IntKind.i64 3)) (fun t89 w => br
    t89 (S.v P (Builtin.len_ #[22] 3 #[a2]) (fun t92 w => S.v P (S.bin Go.BinOp.gtr 3 (Go.Operand.tmp 92) (Go.Operand.const (Go.Value.int Go.IntKind.i64 128))
    t92 (Go.Value.int Go.IntKind.i64 128)) (fun t93 w => K t93 w) w) w) (K (Go.Value.bool false) w)) w) (S.call P 11 [t28] (fun t96 w => S.v P (S.bin
    Go.BinOp.eql 3 (Go.Operand.tmp 96) (Go.Operand.const (Go.Value.int Go.IntKind.i64 1)) t96 (Go.Value.int Go.IntKind.i64 1)) (fun t97 w => S.v P
    (Builtin.len_ #[22] 3 #[a2]) (fun t99 w => S.v P (S.bin Go.BinOp.gtr 3 (Go.Operand.tmp 99) (Go.Operand.const (Go.Value.int Go.IntKind.i64 0)) t99
    (Go.Value.int Go.IntKind.i64 0)) (fun t100 w => S.v P (S.bin Go.BinOp.neq 4 (Go.Operand.tmp 97) (Go.Operand.tmp 100) t97 t100) (fun t101 w => br t101 (K
    (Go.Value.bool false) w) (S.call P 12 [t28] (fun t104 w => S.v P (Builtin.len_ #[22] 3 #[a0]) (fun t106 w => S.v P (S.bin Go.BinOp.sub 3 (Go.Operand.tmp
    106) (Go.Operand.tmp 107) t106 (nth vs 0)) (fun t108 w => S.v P (Builtin.len_ #[22] 3 #[a2]) (fun t110 w => S.v P (S.bin Go.BinOp.add 3 (Go.Operand.tmp
    108) (Go.Operand.tmp 110) t108 t110) (fun t111 w => S.v P (S.bin Go.BinOp.neq 3 (Go.Operand.tmp 104) (Go.Operand.tmp 111) t104 t111) (fun t112 w => br t112
    (K (Go.Value.bool false) w) (S.v P (Builtin.len_ #[22] 3 #[a2]) (fun t115 w => S.loop (fun I_1 => ∀ (x6_1 : Value) (x16 : Value) (x17 : Value) (x18 :
    Value) (x19 : Value) (x116 : Value) (x117 : Value) (x135 : Value) (w : World), (S.v P (S.bin Go.BinOp.lss 3 (Go.Operand.tmp 116) (Go.Operand.tmp 115) x116
    t115) (fun t117 w => br t117 (S.v P (Instr.indexAt 22 a2 x116) (fun t118 w => S.v P (Instr.loadAt 5 t118) (fun t119 w => S.call P 9 [t28] (fun t122 w =>
    S.v P (Instr.extract t122 0) (fun t123 w => S.v P (Instr.extract t122 1) (fun t124 w => S.v P (Instr.extract t122 2) (fun t125 w => S.v P (S.bin
    Go.BinOp.neq 5 (Go.Operand.tmp 126) (Go.Operand.tmp 127) t123 t119) (fun t128 w => br t128 (K (Go.Value.bool false) w) (S.v P (Op.unary Go.UnOp.not t124)
    (fun t131 w => br t131 (K (Go.Value.bool false) w) (br t125 (K (Go.Value.bool false) w) (S.v P (S.bin Go.BinOp.add 3 (Go.Operand.tmp 116) (Go.Operand.const
    (Go.Value.int Go.IntKind.i64 1)) x116 (Go.Value.int Go.IntKind.i64 1)) (fun t136 w => I_1 [x6_1, t119, t123, t124, t125, t136, t117, t125] w) w))) w)) w)
    w) w) w) w) w) w) (S.v P (Instr.sliceAt 22 a0 (some (nth vs 0)) none none) (fun t139 w => S.v P (Builtin.len_ #[22] 3 #[t139]) (fun t140 w => S.loop (fun
    I_2 => ∀ (x6_2 : Value) (x21 : Value) (x22 : Value) (x23 : Value) (x24 : Value) (x141 : Value) (x142 : Value) (x161 : Value) (w : World), (S.v P (S.bin
    Go.BinOp.lss 3 (Go.Operand.tmp 141) (Go.Operand.tmp 140) x141 t140) (fun t142 w => br t142 (S.v P (Instr.indexAt 22 t139 x141) (fun t143 w => S.v P
    (Instr.loadAt 5 t143) (fun t144 w => S.call P 9 [t28] (fun t147 w => S.v P (Instr.extract t147 0) (fun t148 w => S.v P (Instr.extract t147 1) (fun t149 w
    => S.v P (Instr.extract t147 2) (fun t150 w => S.v P (S.bin Go.BinOp.neq 5 (Go.Operand.tmp 151) (Go.Operand.tmp 152) t148 t144) (fun t153 w => br t153 (K
    (Go.Value.bool false) w) (S.v P (Op.unary Go.UnOp.not t149) (fun t156 w => br t156 (K (Go.Value.bool false) w) (S.v P (Op.unary Go.UnOp.not t150) (fun t160
    w => br t160 (K (Go.Value.bool false) w) (S.v P (S.bin Go.BinOp.add 3 (Go.Operand.tmp 141) (Go.Operand.const (Go.Value.int Go.IntKind.i64 1)) x141
    (Go.Value.int Go.IntKind.i64 1)) (fun t162 w => I_2 [x6_2, t144, t148, t149, t150, t162, t142, t160] w) w)) w)) w)) w) w) w) w) w) w) w) (S.call P 9 [t28]
    (fun t165 w => S.v P (Instr.extract t165 0) (fun t166 w => S.v P (Instr.extract t165 1) (fun t167 w => S.v P (Instr.extract t165 2) (fun t168 w => S.v P
    (Op.unary Go.UnOp.not t167) (fun t170 w => br t170 (S.call P 12 [t28] (fun t173 w => S.v P (S.bin Go.BinOp.eql 3 (Go.Operand.tmp 173) (Go.Operand.const
    (Go.Value.int Go.IntKind.i64 0)) t173 (Go.Value.int Go.IntKind.i64 0)) (fun t174 w => br t174 (S.call P 11 [t28] (fun t178 w => S.v P (S.bin Go.BinOp.eql 3
    (Go.Operand.tmp 178) (Go.Operand.const (Go.Value.int Go.IntKind.i64 0)) t178 (Go.Value.int Go.IntKind.i64 0)) (fun t179 w => K t179 w) w) w) (K
    (Go.Value.bool false) w)) w) w) (K (Go.Value.bool false) w)) w) w) w) w) w)) w) → I_2 [x6_2, x21, x22, x23, x24, x141, x142, x161] w) [x6_1, undef, undef,
    undef, undef, (Go.Value.int Go.IntKind.i64 0), undef, undef] w) w) w)) w) → I_1 [x6_1, x16, x17, x18, x19, x116, x117, x135] w) [x6, undef, undef, undef,
    undef, (Go.Value.int Go.IntKind.i64 0), undef, undef] w) w)) w) w) w) w) w) w)) w) w) w) w) w)) w) w)) w) → I [x6, x10, x11, x12, x13, x59, x60, x81] w)
    [(Go.Value.bool false), undef, undef, undef, undef, (Go.Value.int Go.IntKind.i64 0), undef, undef] w) (fun J => S.v P (S.bin Go.BinOp.gtr 3 (Go.Operand.tmp
    47) (Go.Operand.const (Go.Value.int Go.IntKind.i64 0)) a1 (Go.Value.int Go.IntKind.i64 0)) (fun t48 w => br t48 (S.v P (Builtin.len_ #[22] 3 #[a0]) (fun
    t51 w => S.v P (S.bin Go.BinOp.gtr 3 (Go.Operand.tmp 51) (Go.Operand.const (Go.Value.int Go.IntKind.i64 0)) t51 (Go.Value.int Go.IntKind.i64 0)) (fun t52 w
    => br t52 (S.v P (Builtin.len_ #[22] 3 #[a0]) (fun t56 w => S.v P (S.bin Go.BinOp.rem 3 (Go.Operand.tmp 54) (Go.Operand.tmp 56) a1 t56) (fun t57 w => J
    [t57, t52] w) w) w) (J [(Go.Value.int Go.IntKind.i64 0), t52] w)) w) w) (J [(Go.Value.int Go.IntKind.i64 0), (Go.Value.bool false)] w)) w))) w) w)) w)) w)
    w) w
theorem F3_chk : chkFn Try.f3 (bodyOf Try.f3) [0, 1, 2, 6, 7, 8, 9, 10, 11, 12, 13, 14, 16, 17, 18, 19, 21, 22, 23, 24, 26, 34, 39, 53, 58, 59, 60, 81, 87, 113, 114, 115, 116, 117, 135, 139, 140, 141, 142, 161] [] 3 = true := by kernel_rfl
theorem F3_eq (a0 a1 a2 : Value) (K : Value → World → Prop) (w : World) : F3 Try.prog a0 a1 a2 K w = denFn Try.prog (has ents) [] [0, 1, 2, 6, 7, 8, 9, 10, 11, 12, 13, 14, 16, 17, 18, 19, 21, 22, 23, 24, 26, 34, 39, 53, 58, 59, 60, 81, 87, 113, 114, 115, 116, 117, 135, 139, 140, 141, 142, 161] (bodyOf Try.f3) Try.f3.results.toList [a0, a1, a2] K w := by kernel_rfl
theorem F3_link {a0 a1 a2 : Value} {K : Value → World → Prop} {w : World} (h : F3 Try.prog a0 a1 a2 K w) : S.call Try.prog 3 [a0, a1, a2] K w :=
  calls_of_den entOk mixOk Try.func3 rfl F3_chk (Eq.mp (F3_eq a0 a1 a2 K w) h)
/-- lanyard/lanyardlaw22.MacroReplays -/
def F4 (P : Program) (a0 : Value) (K : Value → World → Prop) (w : World) : Prop :=
  S.call P 13 [] (fun t16 w => S.call P 6 [] (fun t17 w => S.call P 7 [] (fun t18 w => S.v P (Op.unary Go.UnOp.not t18) (fun t19 w => br t19 (K (Go.Value.bool
    false) w) (S.v P (S.bin Go.BinOp.eql 33 (Go.Operand.tmp 21) (Go.Operand.const (Go.Value.pointer none)) t16 (Go.Value.pointer none)) (fun t22 w => br t22 (K
    (Go.Value.bool false) w) (S.v P (S.bin Go.BinOp.eql 23 (Go.Operand.tmp 25) (Go.Operand.const (Go.Value.pointer none)) t17 (Go.Value.pointer none)) (fun t26
    w => br t26 (K (Go.Value.bool false) w) (S.call P 14 [t16] (fun t30 w => S.v P (S.bin Go.BinOp.neq 26 (Go.Operand.tmp 30) (Go.Operand.const (Go.Value.int
    Go.IntKind.i64 0)) t30 (Go.Value.int Go.IntKind.i64 0)) (fun t31 w => br t31 (K (Go.Value.bool false) w) (S.call P 14 [t16] (fun t35 w => S.v P (S.bin
    Go.BinOp.neq 26 (Go.Operand.tmp 35) (Go.Operand.const (Go.Value.int Go.IntKind.i64 6)) t35 (Go.Value.int Go.IntKind.i64 6)) (fun t36 w => br t36 (K
    (Go.Value.bool false) w) (S.call P 15 [a0, (Go.Value.slice none 0 0)] (fun t39 w => S.v P (Builtin.len_ #[32] 3 #[a0]) (fun t41 w => S.loop (fun I => ∀ (x2
    : Value) (x7 : Value) (x8 : Value) (x42 : Value) (x43 : Value) (x50 : Value) (w : World), (S.v P (S.bin Go.BinOp.lss 3 (Go.Operand.tmp 42) (Go.Operand.tmp
    41) x42 t41) (fun t43 w => br t43 (S.v P (Instr.indexAt 32 a0 x42) (fun t44 w => S.v P (Instr.loadAt 22 t44) (fun t45 w => S.call P 16 [t16, t45] (fun t48
    w => S.v P (S.bin Go.BinOp.neq 26 (Go.Operand.tmp 49) (Go.Operand.const (Go.Value.int Go.IntKind.i64 0)) t48 (Go.Value.int Go.IntKind.i64 0)) (fun t50 w =>
    br t50 (S.v P (S.bin Go.BinOp.eql 26 (Go.Operand.tmp 51) (Go.Operand.const (Go.Value.int Go.IntKind.i64 3)) t48 (Go.Value.int Go.IntKind.i64 3)) (fun t52 w
    => br t52 (S.v P (Builtin.len_ #[22] 3 #[t39]) (fun t55 w => S.v P (S.bin Go.BinOp.gtr 3 (Go.Operand.tmp 55) (Go.Operand.const (Go.Value.int Go.IntKind.i64
    128)) t55 (Go.Value.int Go.IntKind.i64 128)) (fun t56 w => br t56 (S.call P 17 [t16] (fun t60 w => S.v P (Op.unary Go.UnOp.not t60) (fun t61 w => br t61
    (S.call P 18 [t16] (fun t65 w => S.v P (S.bin Go.BinOp.eql 26 (Go.Operand.tmp 65) (Go.Operand.const (Go.Value.int Go.IntKind.i64 6)) t65 (Go.Value.int
    Go.IntKind.i64 6)) (fun t66 w => K t66 w) w) w) (K (Go.Value.bool false) w)) w) w) (K (Go.Value.bool false) w)) w) w) (K (Go.Value.bool false) w)) w) (S.v
    P (S.bin Go.BinOp.add 3 (Go.Operand.tmp 42) (Go.Operand.const (Go.Value.int Go.IntKind.i64 1)) x42 (Go.Value.int Go.IntKind.i64 1)) (fun t68 w => I [x2,
    t45, t48, t68, t43, t50] w) w)) w) w) w) w) (S.call P 19 [t16] (fun t71 w => S.v P (Instr.extract t71 0) (fun t72 w => S.v P (Instr.extract t71 1) (fun t73
    w => br t73 (K (Go.Value.bool false) w) (S.v P (S.bin Go.BinOp.neq 9 (Go.Operand.tmp 76) (Go.Operand.const (Go.Value.string { data := #[] })) t72
    (Go.Value.string { data := #[] })) (fun t77 w => br t77 (K (Go.Value.bool false) w) (S.call P 17 [t16] (fun t81 w => S.v P (Op.unary Go.UnOp.not t81) (fun
    t82 w => br t82 (K (Go.Value.bool false) w) (S.call P 18 [t16] (fun t86 w => S.v P (S.bin Go.BinOp.neq 26 (Go.Operand.tmp 86) (Go.Operand.const
    (Go.Value.int Go.IntKind.i64 0)) t86 (Go.Value.int Go.IntKind.i64 0)) (fun t87 w => br t87 (K (Go.Value.bool false) w) (S.call P 17 [t16] (fun t91 w => br
    t91 (K (Go.Value.bool false) w) (S.call P 19 [t16] (fun t95 w => S.v P (Instr.extract t95 0) (fun t96 w => S.v P (Instr.extract t95 1) (fun t97 w => S.v P
    (Op.unary Go.UnOp.not t97) (fun t99 w => br t99 (K (Go.Value.bool false) w) (S.v P (Go.convert 22 9 t39) (fun t103 w => S.v P (S.bin Go.BinOp.neq 9
    (Go.Operand.tmp 101) (Go.Operand.tmp 103) t96 t103) (fun t104 w => br t104 (K (Go.Value.bool false) w) (S.v P (Go.convert 9 22 t96) (fun t109 w => S.call P
    10 [t17, t109] (fun t110 w => S.v P (S.bin Go.BinOp.neq 26 (Go.Operand.tmp 110) (Go.Operand.const (Go.Value.int Go.IntKind.i64 0)) t110 (Go.Value.int
    Go.IntKind.i64 0)) (fun t111 w => br t111 (K (Go.Value.bool false) w) (S.v P (Builtin.len_ #[22] 3 #[t39]) (fun t114 w => S.loop (fun I_1 => ∀ (x2_1 :
    Value) (x12 : Value) (x13 : Value) (x14 : Value) (x115 : Value) (x116 : Value) (x131 : Value) (w : World), (S.v P (S.bin Go.BinOp.lss 3 (Go.Operand.tmp
    115) (Go.Operand.tmp 114) x115 t114) (fun t116 w => br t116 (S.v P (Instr.indexAt 22 t39 x115) (fun t117 w => S.v P (Instr.loadAt 5 t117) (fun t118 w =>
    S.call P 9 [t17] (fun t121 w => S.v P (Instr.extract t121 0) (fun t122 w => S.v P (Instr.extract t121 1) (fun t123 w => S.v P (Instr.extract t121 2) (fun
    t124 w => S.v P (Op.unary Go.UnOp.not t123) (fun t126 w => br t126 (K (Go.Value.bool false) w) (S.v P (S.bin Go.BinOp.neq 5 (Go.Operand.tmp 128)
    (Go.Operand.tmp 129) t122 t118) (fun t130 w => br t130 (K (Go.Value.bool false) w) (S.v P (S.bin Go.BinOp.add 3 (Go.Operand.tmp 115) (Go.Operand.const
    (Go.Value.int Go.IntKind.i64 1)) x115 (Go.Value.int Go.IntKind.i64 1)) (fun t132 w => I_1 [x2_1, t118, t122, t123, t132, t116, t130] w) w)) w)) w) w) w) w)
    w) w) w) (S.call P 12 [t17] (fun t134 w => S.v P (S.bin Go.BinOp.eql 3 (Go.Operand.tmp 134) (Go.Operand.const (Go.Value.int Go.IntKind.i64 0)) t134
    (Go.Value.int Go.IntKind.i64 0)) (fun t135 w => K t135 w) w) w)) w) → I_1 [x2_1, x12, x13, x14, x115, x116, x131] w) [x2, undef, undef, undef,
    (Go.Value.int Go.IntKind.i64 0), undef, undef] w) w)) w) w) w)) w) w)) w) w) w) w)) w)) w) w)) w) w)) w)) w) w) w)) w) → I [x2, x7, x8, x42, x43, x50] w)
    [(Go.Value.bool false), undef, undef, (Go.Value.int Go.IntKind.i64 0), undef, undef] w) w) w)) w) w)) w) w)) w)) w)) w) w) w) w
theorem F4_chk : chkFn Try.f4 (bodyOf Try.f4) [0, 2, 3, 4, 5, 7, 8, 9, 10, 12, 13, 14, 37, 40, 41, 42, 43, 50, 92, 112, 113, 114, 115, 116, 131] [] 1 = true := by kernel_rfl
theorem F4_eq (a0 : Value) (K : Value → World → Prop) (w : World) : F4 Try.prog a0 K w = denFn Try.prog (has ents) [] [0, 2, 3, 4, 5, 7, 8, 9, 10, 12, 13, 14, 37, 40, 41, 42, 43, 50, 92, 112, 113, 114, 115, 116, 131] (bodyOf Try.f4) Try.f4.results.toList [a0] K w := by kernel_rfl
theorem F4_link {a0 : Value} {K : Value → World → Prop} {w : World} (h : F4 Try.prog a0 K w) : S.call Try.prog 4 [a0] K w :=
  calls_of_den entOk mixOk Try.func4 rfl F4_chk (Eq.mp (F4_eq a0 K w) h)
/-- lanyard/lanyardlaw22.MacroDoes -/
def F5 (P : Program) (a0 : Value) (K : Value → World → Prop) (w : World) : Prop :=
  S.call P 6 [] (fun t8 w => S.call P 13 [] (fun t9 w => S.v P (Instr.build 44 #[]) (fun t10 w => S.v P (Instr.box 44 t10) (fun t11 w => S.v P (Instr.build 47
    #[]) (fun t12 w => S.v P (Instr.box 47 t12) (fun t13 w => S.v P (Instr.build 49 #[(0, t8), (1, t9), (2, t11), (3, t13)]) (fun t14 w => S.v P (Instr.box 49
    t14) (fun t15 w => S.call P 7 [] (fun t16 w => S.v P (Op.unary Go.UnOp.not t16) (fun t17 w => br t17 (K (Go.Value.bool false) w) (S.v P (S.nilC t15) (fun
    t20 w => S.v P (Instr.fieldAt 49 t20 0) (fun t21 w => S.v P (Instr.loadAt 23 t21) (fun t22 w => S.v P (S.bin Go.BinOp.eql 23 (Go.Operand.tmp 22)
    (Go.Operand.const (Go.Value.pointer none)) t22 (Go.Value.pointer none)) (fun t23 w => br t23 (K (Go.Value.bool false) w) (S.v P (S.nilC t15) (fun t27 w =>
    S.v P (Instr.fieldAt 49 t27 1) (fun t28 w => S.v P (Instr.loadAt 33 t28) (fun t29 w => S.v P (S.bin Go.BinOp.eql 33 (Go.Operand.tmp 29) (Go.Operand.const
    (Go.Value.pointer none)) t29 (Go.Value.pointer none)) (fun t30 w => br t30 (K (Go.Value.bool false) w) (S.v P (Builtin.len_ #[40] 3 #[a0]) (fun t33 w =>
    S.loop (fun I => ∀ (x2 : Value) (x5 : Value) (x6 : Value) (x7 : Value) (x34 : Value) (x35 : Value) (x40 : Value) (x82 : Value) (x110 : Value) (w : World),
    (S.v P (S.bin Go.BinOp.lss 3 (Go.Operand.tmp 34) (Go.Operand.tmp 33) x34 t33) (fun t35 w => br t35 (S.v P (Instr.indexAt 40 a0 x34) (fun t36 w => S.v P
    (Instr.loadAt 51 t36) (fun t37 w => S.v P (Instr.alloc 51 true (.tuple #[])) (fun t5 w => S.u P (Instr.storeAt 51 t5 t37) (fun w => S.drawn (fun w => S.v P
    (Instr.loadAt 51 t5) (fun t39 w => S.call P 20 [t15, t39] (fun t40 w => ∃ H : World → Prop, H w ∧ (S.h P H (Op.unary Go.UnOp.not t40) (fun t41 w => br t41
    (K (Go.Value.bool false) w) (S.h P H (S.nilC t15) (fun t44 w => S.h P H (Instr.fieldAt 49 t44 0) (fun t45 w => S.h P H (Instr.loadAt 23 t45) (fun t46 w =>
    S.h P H (S.nilC t15) (fun t49 w => S.h P H (Instr.fieldAt 49 t49 2) (fun t50 w => S.h P H (Instr.loadAt 42 t50) (fun t51 w => S.call P 12 [t46] (fun t47 w
    => H w ∧ (S.call P 21 [t51] (fun t52 w => H w ∧ (S.h P H (S.bin Go.BinOp.neq 3 (Go.Operand.tmp 47) (Go.Operand.tmp 52) t47 t52) (fun t53 w => br t53 (K
    (Go.Value.bool false) w) (S.h P H (S.nilC t15) (fun t57 w => S.h P H (Instr.fieldAt 49 t57 0) (fun t58 w => S.h P H (Instr.loadAt 23 t58) (fun t59 w => S.h
    P H (S.nilC t15) (fun t62 w => S.h P H (Instr.fieldAt 49 t62 2) (fun t63 w => S.h P H (Instr.loadAt 42 t63) (fun t64 w => S.call P 11 [t59] (fun t60 w => H
    w ∧ (S.call P 22 [t64] (fun t65 w => H w ∧ (S.h P H (S.bin Go.BinOp.neq 3 (Go.Operand.tmp 60) (Go.Operand.tmp 65) t60 t65) (fun t66 w => br t66 (K
    (Go.Value.bool false) w) (S.h P H (S.nilC t15) (fun t70 w => S.h P H (Instr.fieldAt 49 t70 1) (fun t71 w => S.h P H (Instr.loadAt 33 t71) (fun t72 w => S.h
    P H (S.nilC t15) (fun t75 w => S.h P H (Instr.fieldAt 49 t75 3) (fun t76 w => S.h P H (Instr.loadAt 45 t76) (fun t77 w => S.h P H (S.nilC t77) (fun t78 w
    => S.h P H (Instr.fieldAt 47 t78 0) (fun t79 w => S.h P H (Instr.loadAt 4 t79) (fun t80 w => S.call P 17 [t72] (fun t73 w => H w ∧ (S.h P H (S.bin
    Go.BinOp.neq 4 (Go.Operand.tmp 73) (Go.Operand.tmp 80) t73 t80) (fun t81 w => br t81 (K (Go.Value.bool false) w) (S.v P (S.nilC t15) (fun t85 w => S.v P
    (Instr.fieldAt 49 t85 1) (fun t86 w => S.v P (Instr.loadAt 33 t86) (fun t87 w => S.call P 19 [t87] (fun t88 w => S.v P (Instr.extract t88 0) (fun t89 w =>
    S.v P (Instr.extract t88 1) (fun t90 w => S.v P (S.nilC t15) (fun t93 w => S.v P (Instr.fieldAt 49 t93 3) (fun t94 w => S.v P (Instr.loadAt 45 t94) (fun
    t95 w => S.v P (S.nilC t95) (fun t96 w => S.v P (Instr.fieldAt 47 t96 3) (fun t97 w => S.v P (Instr.loadAt 9 t97) (fun t98 w => S.v P (S.bin Go.BinOp.neq 9
    (Go.Operand.tmp 91) (Go.Operand.tmp 98) t89 t98) (fun t99 w => br t99 (K (Go.Value.bool false) w) (S.v P (S.nilC t15) (fun t103 w => S.v P (Instr.fieldAt
    49 t103 3) (fun t104 w => S.v P (Instr.loadAt 45 t104) (fun t105 w => S.v P (S.nilC t105) (fun t106 w => S.v P (Instr.fieldAt 47 t106 2) (fun t107 w => S.v
    P (Instr.loadAt 4 t107) (fun t108 w => S.v P (S.bin Go.BinOp.neq 4 (Go.Operand.tmp 101) (Go.Operand.tmp 108) t90 t108) (fun t109 w => br t109 (K
    (Go.Value.bool false) w) (S.v P (S.bin Go.BinOp.add 3 (Go.Operand.tmp 34) (Go.Operand.const (Go.Value.int Go.IntKind.i64 1)) x34 (Go.Value.int
    Go.IntKind.i64 1)) (fun t111 w => I [x2, t5, t89, t90, t111, t35, t40, t81, t109] w) w)) w) w) w) w) w) w) w)) w) w) w) w) w) w) w) w) w) w) w) w) w)) w))
    w) w) w) w) w) w) w) w) w) w)) w)) w)) w) w) w) w) w) w) w)) w)) w)) w) w) w) w) w) w) w)) w)) w) w) w) w) w) w) w) (K (Go.Value.bool true) w)) w) → I [x2,
    x5, x6, x7, x34, x35, x40, x82, x110] w) [(Go.Value.bool false), undef, undef, undef, (Go.Value.int Go.IntKind.i64 0), undef, undef, undef, undef] w) w))
    w) w) w) w)) w) w) w) w)) w) w) w) w) w) w) w) w) w) w
theorem F5_chk : chkFn Try.f5 (bodyOf Try.f5) [0, 2, 3, 5, 6, 7, 31, 32, 33, 34, 35, 40, 82, 110] [(7, { ord := (.step 3 true (.step 4 true (.step 5 true (.step 6 true (.step 7 true (.step 8 true (.step 10 true (.step 11 true (.step 12 true (.step 13 true (.step 9 false (.step 14 false (.step 15 true (.step 16 true (.step 17 true (.step 18 true (.step 19 true (.step 20 true (.step 21 true (.step 23 true (.step 24 true (.step 25 true (.step 26 true (.step 22 false (.step 27 false (.step 28 true (.step 29 true (.step 30 true (.step 31 true (.step 32 true (.step 33 true (.step 34 true (.step 36 true (.step 37 true (.step 38 true (.step 39 true (.step 40 true (.step 41 true (.step 42 true (.step 35 false (.step 43 true (.step 44 true .fin)))))))))))))))))))))))))))))))))))))))))), flags := [9, 14, 22, 27, 35], held := true, init := true, pre := [(0, true), (1, false), (2, false)] })] 1 = true := by kernel_rfl
theorem F5_eq (a0 : Value) (K : Value → World → Prop) (w : World) : F5 Try.prog a0 K w = denFn Try.prog (has ents) [(7, { ord := (.step 3 true (.step 4 true (.step 5 true (.step 6 true (.step 7 true (.step 8 true (.step 10 true (.step 11 true (.step 12 true (.step 13 true (.step 9 false (.step 14 false (.step 15 true (.step 16 true (.step 17 true (.step 18 true (.step 19 true (.step 20 true (.step 21 true (.step 23 true (.step 24 true (.step 25 true (.step 26 true (.step 22 false (.step 27 false (.step 28 true (.step 29 true (.step 30 true (.step 31 true (.step 32 true (.step 33 true (.step 34 true (.step 36 true (.step 37 true (.step 38 true (.step 39 true (.step 40 true (.step 41 true (.step 42 true (.step 35 false (.step 43 true (.step 44 true .fin)))))))))))))))))))))))))))))))))))))))))), flags := [9, 14, 22, 27, 35], held := true, init := true, pre := [(0, true), (1, false), (2, false)] })] [0, 2, 3, 5, 6, 7, 31, 32, 33, 34, 35, 40, 82, 110] (bodyOf Try.f5) Try.f5.results.toList [a0] K w := by kernel_rfl
theorem F5_link {a0 : Value} {K : Value → World → Prop} {w : World} (h : F5 Try.prog a0 K w) : S.call Try.prog 5 [a0] K w :=
  calls_of_den entOk mixOk Try.func5 rfl F5_chk (Eq.mp (F5_eq a0 K w) h)
/-- lanyard/macro.NewQueue -/
def F6 (P : Program) (K : Value → World → Prop) (w : World) : Prop :=
  S.v P (Instr.build 55 #[(3, (Go.Value.bool true))]) (fun t1 w => S.v P (Instr.box 55 t1) (fun t2 w => K t2 w) w) w
theorem F6_chk : chkFn Try.f6 (bodyOf Try.f6) [0] [] 0 = true := by kernel_rfl
theorem F6_eq (K : Value → World → Prop) (w : World) : F6 Try.prog K w = denFn Try.prog (has ents) [] [0] (bodyOf Try.f6) Try.f6.results.toList [] K w := by kernel_rfl
theorem F6_link {K : Value → World → Prop} {w : World} (h : F6 Try.prog K w) : S.call Try.prog 6 [] K w :=
  calls_of_den entOk mixOk Try.func6 rfl F6_chk (Eq.mp (F6_eq K w) h)
/-- lanyard/lanyardlaw22.begun -/
def F7 (P : Program) (K : Value → World → Prop) (w : World) : Prop :=
  S.call P 6 [] (fun t8 w => S.v P (S.bin Go.BinOp.eql 23 (Go.Operand.tmp 9) (Go.Operand.const (Go.Value.pointer none)) t8 (Go.Value.pointer none)) (fun t10 w =>
    br t10 (K (Go.Value.bool false) w) (S.v P (Instr.buildSlice 22 1 #[(0, (Go.Value.int Go.IntKind.u8 97))]) (fun t13 w => S.call P 8 [t8, t13] (fun t14 w =>
    S.v P (S.bin Go.BinOp.neq 26 (Go.Operand.tmp 14) (Go.Operand.const (Go.Value.int Go.IntKind.i64 0)) t14 (Go.Value.int Go.IntKind.i64 0)) (fun t15 w => br
    t15 (K (Go.Value.bool false) w) (S.v P (Instr.buildSlice 22 1 #[(0, (Go.Value.int Go.IntKind.u8 120))]) (fun t19 w => S.call P 10 [t8, t19] (fun t20 w =>
    S.v P (S.bin Go.BinOp.neq 26 (Go.Operand.tmp 20) (Go.Operand.const (Go.Value.int Go.IntKind.i64 0)) t20 (Go.Value.int Go.IntKind.i64 0)) (fun t21 w => br
    t21 (K (Go.Value.bool false) w) (S.call P 12 [t8] (fun t25 w => S.v P (S.bin Go.BinOp.neq 3 (Go.Operand.tmp 25) (Go.Operand.const (Go.Value.int
    Go.IntKind.i64 2)) t25 (Go.Value.int Go.IntKind.i64 2)) (fun t26 w => br t26 (K (Go.Value.bool false) w) (S.call P 9 [t8] (fun t30 w => S.v P
    (Instr.extract t30 0) (fun t31 w => S.v P (Instr.extract t30 1) (fun t32 w => S.v P (Instr.extract t30 2) (fun t33 w => S.call P 9 [t8] (fun t36 w => S.v P
    (Instr.extract t36 0) (fun t37 w => S.v P (Instr.extract t36 1) (fun t38 w => S.v P (Instr.extract t36 2) (fun t39 w => S.v P (S.bin Go.BinOp.eql 5
    (Go.Operand.tmp 40) (Go.Operand.const (Go.Value.int Go.IntKind.u8 120)) t31 (Go.Value.int Go.IntKind.u8 120)) (fun t41 w => br t41 (br t32 (S.v P (Op.unary
    Go.UnOp.not t33) (fun t47 w => br t47 (S.v P (S.bin Go.BinOp.eql 5 (Go.Operand.tmp 50) (Go.Operand.const (Go.Value.int Go.IntKind.u8 97)) t37 (Go.Value.int
    Go.IntKind.u8 97)) (fun t51 w => br t51 (br t38 (K t39 w) (K (Go.Value.bool false) w)) (K (Go.Value.bool false) w)) w) (K (Go.Value.bool false) w)) w) (K
    (Go.Value.bool false) w)) (K (Go.Value.bool false) w)) w) w) w) w) w) w) w) w) w)) w) w)) w) w) w)) w) w) w)) w) w
theorem F7_chk : chkFn Try.f7 (bodyOf Try.f7) [0, 1, 2, 3, 4, 5, 6, 7, 27] [] 0 = true := by kernel_rfl
theorem F7_eq (K : Value → World → Prop) (w : World) : F7 Try.prog K w = denFn Try.prog (has ents) [] [0, 1, 2, 3, 4, 5, 6, 7, 27] (bodyOf Try.f7) Try.f7.results.toList [] K w := by kernel_rfl
theorem F7_link {K : Value → World → Prop} {w : World} (h : F7 Try.prog K w) : S.call Try.prog 7 [] K w :=
  calls_of_den entOk mixOk Try.func7 rfl F7_chk (Eq.mp (F7_eq K w) h)
/-- (*lanyard/macro.Queue).Put -/
def F8 (P : Program) (a0 a1 : Value) (K : Value → World → Prop) (w : World) : Prop :=
  S.v P (Builtin.len_ #[22] 3 #[a1]) (fun t8 w => S.call P 23 [a0, t8] (fun t9 w => S.v P (S.bin Go.BinOp.neq 26 (Go.Operand.tmp 10) (Go.Operand.const
    (Go.Value.int Go.IntKind.i64 0)) t9 (Go.Value.int Go.IntKind.i64 0)) (fun t11 w => br t11 (K t9 w) (S.v P (S.nilC a0) (fun t15 w => S.v P (Instr.fieldAt 55
    t15 0) (fun t16 w => S.v P (Instr.loadAt 22 t16) (fun t17 w => S.v P (Builtin.append_ #[22, 22] 22 #[t17, a1]) (fun t19 w => S.v P (S.nilC a0) (fun t20 w
    => S.v P (Instr.fieldAt 55 t20 0) (fun t21 w => S.u P (Instr.storeAt 22 t21 t19) (fun w => K (Go.Value.int Go.IntKind.i64 0) w) w) w) w) w) w) w) w)) w) w)
    w
theorem F8_chk : chkFn Try.f8 (bodyOf Try.f8) [0, 1, 4, 5, 11] [] 2 = true := by kernel_rfl
theorem F8_eq (a0 a1 : Value) (K : Value → World → Prop) (w : World) : F8 Try.prog a0 a1 K w = denFn Try.prog (has ents) [] [0, 1, 4, 5, 11] (bodyOf Try.f8) Try.f8.results.toList [a0, a1] K w := by kernel_rfl
theorem F8_link {a0 a1 : Value} {K : Value → World → Prop} {w : World} (h : F8 Try.prog a0 a1 K w) : S.call Try.prog 8 [a0, a1] K w :=
  calls_of_den entOk mixOk Try.func8 rfl F8_chk (Eq.mp (F8_eq a0 a1 K w) h)
/-- (*lanyard/macro.Queue).Next -/
def F9 (P : Program) (a0 : Value) (K : Value → World → Prop) (w : World) : Prop :=
  S.call P 24 [a0] (fun t10 w => br t10 (K (.tuple #[(Go.Value.int Go.IntKind.u8 0), (Go.Value.bool false), (Go.Value.bool false)]) w) (S.seq (fun vs w => S.v P
    (S.nilC a0) (fun t20 w => S.v P (Instr.fieldAt 55 t20 1) (fun t21 w => S.v P (Instr.loadAt 32 t21) (fun t22 w => S.v P (Builtin.len_ #[32] 3 #[t22]) (fun
    t23 w => S.v P (S.bin Go.BinOp.sub 3 (Go.Operand.tmp 23) (Go.Operand.const (Go.Value.int Go.IntKind.i64 1)) t23 (Go.Value.int Go.IntKind.i64 1)) (fun t24 w
    => S.v P (S.bin Go.BinOp.geq 3 (Go.Operand.tmp 25) (Go.Operand.const (Go.Value.int Go.IntKind.i64 0)) t24 (Go.Value.int Go.IntKind.i64 0)) (fun t26 w => br
    t26 (S.v P (S.nilC a0) (fun t28 w => S.v P (Instr.fieldAt 55 t28 1) (fun t29 w => S.v P (Instr.loadAt 32 t29) (fun t30 w => S.v P (Instr.indexAt 32 t30
    t24) (fun t32 w => S.v P (Instr.loadAt 22 t32) (fun t33 w => S.v P (Instr.indexAt 22 t33 (Go.Value.int Go.IntKind.i64 0)) (fun t35 w => S.v P (Instr.loadAt
    5 t35) (fun t36 w => S.seq (fun vs_1 w => S.v P (S.nilC a0) (fun t58 w => S.v P (Instr.fieldAt 55 t58 2) (fun t59 w => S.v P (Instr.loadAt 3 t59) (fun t60
    w => S.v P (S.bin Go.BinOp.add 3 (Go.Operand.tmp 60) (Go.Operand.const (Go.Value.int Go.IntKind.i64 1)) t60 (Go.Value.int Go.IntKind.i64 1)) (fun t61 w =>
    S.v P (S.nilC a0) (fun t62 w => S.v P (Instr.fieldAt 55 t62 2) (fun t63 w => S.u P (Instr.storeAt 3 t63 t61) (fun w => K (.tuple #[t36, (Go.Value.bool
    true), (Go.Value.bool false)]) w) w) w) w) w) w) w) w) (fun J_1 => S.drawn (fun w => S.p P (S.nilC a0) (fun t38 w => S.p P (Instr.fieldAt 55 t38 1) (fun
    t39 w => S.p P (Instr.loadAt 32 t39) (fun t40 w => S.p P (Instr.sliceAt 22 t33 (some (Go.Value.int Go.IntKind.i64 1)) none none) (fun t43 w => S.p P
    (Instr.indexAt 32 t40 t24) (fun t44 w => S.u P (Instr.storeAt 22 t44 t43) (fun w => S.v P (Builtin.len_ #[22] 3 #[t33]) (fun t46 w => S.v P (S.bin
    Go.BinOp.eql 3 (Go.Operand.tmp 46) (Go.Operand.const (Go.Value.int Go.IntKind.i64 1)) t46 (Go.Value.int Go.IntKind.i64 1)) (fun t47 w => br t47 (S.v P
    (S.nilC a0) (fun t50 w => S.v P (Instr.fieldAt 55 t50 1) (fun t51 w => S.v P (Instr.loadAt 32 t51) (fun t52 w => S.v P (Instr.sliceAt 32 t52 none (some
    t24) none) (fun t54 w => S.v P (S.nilC a0) (fun t55 w => S.v P (Instr.fieldAt 55 t55 1) (fun t56 w => S.u P (Instr.storeAt 32 t56 t54) (fun w => J_1 [t47]
    w) w) w) w) w) w) w) w) (J_1 [t47] w)) w) w) w) w) w) w) w) w) w)) w) w) w) w) w) w) w) (S.v P (S.nilC a0) (fun t66 w => S.v P (Instr.fieldAt 55 t66 0)
    (fun t67 w => S.v P (Instr.loadAt 22 t67) (fun t68 w => S.v P (Builtin.len_ #[22] 3 #[t68]) (fun t69 w => S.v P (S.bin Go.BinOp.eql 3 (Go.Operand.tmp 69)
    (Go.Operand.const (Go.Value.int Go.IntKind.i64 0)) t69 (Go.Value.int Go.IntKind.i64 0)) (fun t70 w => br t70 (K (.tuple #[(Go.Value.int Go.IntKind.u8 0),
    (Go.Value.bool false), (Go.Value.bool false)]) w) (S.v P (S.nilC a0) (fun t72 w => S.v P (Instr.fieldAt 55 t72 0) (fun t73 w => S.v P (Instr.loadAt 22 t73)
    (fun t74 w => S.v P (Instr.indexAt 22 t74 (Go.Value.int Go.IntKind.i64 0)) (fun t75 w => S.v P (Instr.loadAt 5 t75) (fun t76 w => S.v P (S.nilC a0) (fun
    t79 w => S.v P (Instr.fieldAt 55 t79 0) (fun t80 w => S.v P (Instr.loadAt 22 t80) (fun t81 w => S.v P (Instr.sliceAt 22 t81 (some (Go.Value.int
    Go.IntKind.i64 1)) none none) (fun t82 w => S.v P (S.nilC a0) (fun t83 w => S.v P (Instr.fieldAt 55 t83 0) (fun t84 w => S.u P (Instr.storeAt 22 t84 t82)
    (fun w => S.v P (S.nilC a0) (fun t86 w => S.v P (Instr.fieldAt 55 t86 2) (fun t87 w => S.u P (Instr.storeAt 3 t87 (Go.Value.int Go.IntKind.i64 0)) (fun w
    => K (.tuple #[t76, (Go.Value.bool true), (Go.Value.bool true)]) w) w) w) w) w) w) w) w) w) w) w) w) w) w) w) w)) w) w) w) w) w)) w) w) w) w) w) w) (fun J
    => S.v P (S.nilC a0) (fun t12 w => S.v P (Instr.fieldAt 55 t12 2) (fun t13 w => S.v P (Instr.loadAt 3 t13) (fun t14 w => S.v P (S.bin Go.BinOp.geq 3
    (Go.Operand.tmp 14) (Go.Operand.const (Go.Value.int Go.IntKind.i64 256)) t14 (Go.Value.int Go.IntKind.i64 256)) (fun t15 w => br t15 (S.v P (S.nilC a0)
    (fun t17 w => S.v P (Instr.fieldAt 55 t17 1) (fun t18 w => S.u P (Instr.storeAt 32 t18 (Go.Value.slice none 0 0)) (fun w => J [t15] w) w) w) w) (J [t15]
    w)) w) w) w) w))) w
theorem F9_chk : chkFn Try.f9 (bodyOf Try.f9) [0, 2, 3, 4, 5, 6, 7, 8, 10, 15, 26, 47, 70] [(9, { ord := (.step 0 true (.step 1 true (.step 2 true (.step 3 true (.step 4 true (.step 5 true (.step 6 true (.step 7 true (.step 8 false .fin))))))))), flags := [], held := false, init := true })] 1 = true := by kernel_rfl
theorem F9_eq (a0 : Value) (K : Value → World → Prop) (w : World) : F9 Try.prog a0 K w = denFn Try.prog (has ents) [(9, { ord := (.step 0 true (.step 1 true (.step 2 true (.step 3 true (.step 4 true (.step 5 true (.step 6 true (.step 7 true (.step 8 false .fin))))))))), flags := [], held := false, init := true })] [0, 2, 3, 4, 5, 6, 7, 8, 10, 15, 26, 47, 70] (bodyOf Try.f9) Try.f9.results.toList [a0] K w := by kernel_rfl
theorem F9_link {a0 : Value} {K : Value → World → Prop} {w : World} (h : F9 Try.prog a0 K w) : S.call Try.prog 9 [a0] K w :=
  calls_of_den entOk mixOk Try.func9 rfl F9_chk (Eq.mp (F9_eq a0 K w) h)
/-- (*lanyard/macro.Queue).Push -/
def F10 (P : Program) (a0 a1 : Value) (K : Value → World → Prop) (w : World) : Prop :=
  S.call P 24 [a0] (fun t7 w => br t7 (K (Go.Value.int Go.IntKind.i64 2) w) (S.v P (Builtin.len_ #[22] 3 #[a1]) (fun t9 w => S.v P (S.bin Go.BinOp.gtr 3
    (Go.Operand.tmp 9) (Go.Operand.const (Go.Value.int Go.IntKind.i64 128)) t9 (Go.Value.int Go.IntKind.i64 128)) (fun t10 w => br t10 (K (Go.Value.int
    Go.IntKind.i64 3) w) (S.v P (S.nilC a0) (fun t12 w => S.v P (Instr.fieldAt 55 t12 1) (fun t13 w => S.v P (Instr.loadAt 32 t13) (fun t14 w => S.v P
    (Builtin.len_ #[32] 3 #[t14]) (fun t15 w => S.v P (S.bin Go.BinOp.geq 3 (Go.Operand.tmp 15) (Go.Operand.const (Go.Value.int Go.IntKind.i64 16)) t15
    (Go.Value.int Go.IntKind.i64 16)) (fun t16 w => br t16 (K (Go.Value.int Go.IntKind.i64 6) w) (S.seq (fun vs w => K (Go.Value.int Go.IntKind.i64 0) w) (fun
    J => S.v P (Builtin.len_ #[22] 3 #[a1]) (fun t18 w => S.v P (S.bin Go.BinOp.gtr 3 (Go.Operand.tmp 18) (Go.Operand.const (Go.Value.int Go.IntKind.i64 0))
    t18 (Go.Value.int Go.IntKind.i64 0)) (fun t19 w => br t19 (S.v P (Builtin.len_ #[22] 3 #[a1]) (fun t21 w => S.v P (Instr.makeSlice 22 t21 t21) (fun t22 w
    => S.v P (Builtin.copy_ #[22, 22] 3 #[t22, a1]) (fun t25 w => S.v P (S.nilC a0) (fun t28 w => S.v P (Instr.fieldAt 55 t28 1) (fun t29 w => S.v P
    (Instr.loadAt 32 t29) (fun t30 w => S.v P (Instr.buildSlice 32 1 #[(0, t22)]) (fun t32 w => S.v P (Builtin.append_ #[32, 32] 32 #[t30, t32]) (fun t33 w =>
    S.v P (S.nilC a0) (fun t34 w => S.v P (Instr.fieldAt 55 t34 1) (fun t35 w => S.u P (Instr.storeAt 32 t35 t33) (fun w => J [t22, t19] w) w) w) w) w) w) w)
    w) w) w) w) w) (J [undef, t19] w)) w) w))) w) w) w) w) w)) w) w)) w
theorem F10_chk : chkFn Try.f10 (bodyOf Try.f10) [0, 1, 4, 5, 7, 10, 16, 19] [] 2 = true := by kernel_rfl
theorem F10_eq (a0 a1 : Value) (K : Value → World → Prop) (w : World) : F10 Try.prog a0 a1 K w = denFn Try.prog (has ents) [] [0, 1, 4, 5, 7, 10, 16, 19] (bodyOf Try.f10) Try.f10.results.toList [a0, a1] K w := by kernel_rfl
theorem F10_link {a0 a1 : Value} {K : Value → World → Prop} {w : World} (h : F10 Try.prog a0 a1 K w) : S.call Try.prog 10 [a0, a1] K w :=
  calls_of_den entOk mixOk Try.func10 rfl F10_chk (Eq.mp (F10_eq a0 a1 K w) h)
/-- (*lanyard/macro.Queue).Depth -/
def F11 (P : Program) (a0 : Value) (K : Value → World → Prop) (w : World) : Prop :=
  S.call P 24 [a0] (fun t4 w => br t4 (K (Go.Value.int Go.IntKind.i64 0) w) (S.v P (S.nilC a0) (fun t6 w => S.v P (Instr.fieldAt 55 t6 1) (fun t7 w => S.v P
    (Instr.loadAt 32 t7) (fun t8 w => S.v P (Builtin.len_ #[32] 3 #[t8]) (fun t9 w => K t9 w) w) w) w) w)) w
theorem F11_chk : chkFn Try.f11 (bodyOf Try.f11) [0, 2, 4] [] 1 = true := by kernel_rfl
theorem F11_eq (a0 : Value) (K : Value → World → Prop) (w : World) : F11 Try.prog a0 K w = denFn Try.prog (has ents) [] [0, 2, 4] (bodyOf Try.f11) Try.f11.results.toList [a0] K w := by kernel_rfl
theorem F11_link {a0 : Value} {K : Value → World → Prop} {w : World} (h : F11 Try.prog a0 K w) : S.call Try.prog 11 [a0] K w :=
  calls_of_den entOk mixOk Try.func11 rfl F11_chk (Eq.mp (F11_eq a0 K w) h)
/-- (*lanyard/macro.Queue).Len -/
def F12 (P : Program) (a0 : Value) (K : Value → World → Prop) (w : World) : Prop :=
  S.call P 24 [a0] (fun t7 w => br t7 (K (Go.Value.int Go.IntKind.i64 0) w) (S.v P (S.nilC a0) (fun t9 w => S.v P (Instr.fieldAt 55 t9 0) (fun t10 w => S.v P
    (Instr.loadAt 22 t10) (fun t11 w => S.v P (Builtin.len_ #[22] 3 #[t11]) (fun t12 w => S.v P (S.nilC a0) (fun t14 w => S.v P (Instr.fieldAt 55 t14 1) (fun
    t15 w => S.v P (Instr.loadAt 32 t15) (fun t16 w => S.v P (Builtin.len_ #[32] 3 #[t16]) (fun t17 w => S.loop (fun I => ∀ (x3 : Value) (x5 : Value) (x18 :
    Value) (x19 : Value) (w : World), (S.v P (S.bin Go.BinOp.lss 3 (Go.Operand.tmp 18) (Go.Operand.tmp 17) x18 t17) (fun t19 w => br t19 (S.v P (Instr.indexAt
    32 t16 x18) (fun t20 w => S.v P (Instr.loadAt 22 t20) (fun t21 w => S.v P (Builtin.len_ #[22] 3 #[t21]) (fun t24 w => S.v P (S.bin Go.BinOp.add 3
    (Go.Operand.tmp 22) (Go.Operand.tmp 24) x3 t24) (fun t25 w => S.v P (S.bin Go.BinOp.add 3 (Go.Operand.tmp 18) (Go.Operand.const (Go.Value.int
    Go.IntKind.i64 1)) x18 (Go.Value.int Go.IntKind.i64 1)) (fun t26 w => I [t25, t21, t26, t19] w) w) w) w) w) w) (K x3 w)) w) → I [x3, x5, x18, x19] w) [t12,
    undef, (Go.Value.int Go.IntKind.i64 0), undef] w) w) w) w) w) w) w) w) w)) w
theorem F12_chk : chkFn Try.f12 (bodyOf Try.f12) [0, 2, 3, 5, 7, 16, 17, 18, 19] [] 1 = true := by kernel_rfl
theorem F12_eq (a0 : Value) (K : Value → World → Prop) (w : World) : F12 Try.prog a0 K w = denFn Try.prog (has ents) [] [0, 2, 3, 5, 7, 16, 17, 18, 19] (bodyOf Try.f12) Try.f12.results.toList [a0] K w := by kernel_rfl
theorem F12_link {a0 : Value} {K : Value → World → Prop} {w : World} (h : F12 Try.prog a0 K w) : S.call Try.prog 12 [a0] K w :=
  calls_of_den entOk mixOk Try.func12 rfl F12_chk (Eq.mp (F12_eq a0 K w) h)
/-- lanyard/macro.NewRecorder -/
def F13 (P : Program) (K : Value → World → Prop) (w : World) : Prop :=
  S.v P (Instr.build 58 #[(4, (Go.Value.bool true))]) (fun t1 w => S.v P (Instr.box 58 t1) (fun t2 w => K t2 w) w) w
theorem F13_chk : chkFn Try.f13 (bodyOf Try.f13) [0] [] 0 = true := by kernel_rfl
theorem F13_eq (K : Value → World → Prop) (w : World) : F13 Try.prog K w = denFn Try.prog (has ents) [] [0] (bodyOf Try.f13) Try.f13.results.toList [] K w := by kernel_rfl
theorem F13_link {K : Value → World → Prop} {w : World} (h : F13 Try.prog K w) : S.call Try.prog 13 [] K w :=
  calls_of_den entOk mixOk Try.func13 rfl F13_chk (Eq.mp (F13_eq K w) h)
/-- (*lanyard/macro.Recorder).Start -/
def F14 (P : Program) (a0 : Value) (K : Value → World → Prop) (w : World) : Prop :=
  S.call P 25 [a0] (fun t4 w => br t4 (K (Go.Value.int Go.IntKind.i64 2) w) (S.v P (S.nilC a0) (fun t6 w => S.v P (Instr.fieldAt 58 t6 1) (fun t7 w => S.v P
    (Instr.loadAt 4 t7) (fun t8 w => br t8 (K (Go.Value.int Go.IntKind.i64 6) w) (S.v P (S.nilC a0) (fun t11 w => S.v P (Instr.fieldAt 58 t11 1) (fun t12 w =>
    S.u P (Instr.storeAt 4 t12 (Go.Value.bool true)) (fun w => S.v P (S.nilC a0) (fun t13 w => S.v P (Instr.fieldAt 58 t13 0) (fun t14 w => S.u P
    (Instr.storeAt 22 t14 (Go.Value.slice none 0 0)) (fun w => K (Go.Value.int Go.IntKind.i64 0) w) w) w) w) w) w) w)) w) w) w)) w
theorem F14_chk : chkFn Try.f14 (bodyOf Try.f14) [0, 2, 4, 8] [] 1 = true := by kernel_rfl
theorem F14_eq (a0 : Value) (K : Value → World → Prop) (w : World) : F14 Try.prog a0 K w = denFn Try.prog (has ents) [] [0, 2, 4, 8] (bodyOf Try.f14) Try.f14.results.toList [a0] K w := by kernel_rfl
theorem F14_link {a0 : Value} {K : Value → World → Prop} {w : World} (h : F14 Try.prog a0 K w) : S.call Try.prog 14 [a0] K w :=
  calls_of_den entOk mixOk Try.func14 rfl F14_chk (Eq.mp (F14_eq a0 K w) h)
/-- bytes.Join -/
def F15 (P : Program) (a0 a1 : Value) (K : Value → World → Prop) (w : World) : Prop :=
  S.v P (Builtin.len_ #[32] 3 #[a0]) (fun t13 w => S.v P (S.bin Go.BinOp.eql 3 (Go.Operand.tmp 13) (Go.Operand.const (Go.Value.int Go.IntKind.i64 0)) t13
    (Go.Value.int Go.IntKind.i64 0)) (fun t14 w => br t14 (S.v P (Instr.buildSlice 22 0 #[]) (fun t15 w => K t15 w) w) (S.v P (Builtin.len_ #[32] 3 #[a0]) (fun
    t17 w => S.v P (S.bin Go.BinOp.eql 3 (Go.Operand.tmp 17) (Go.Operand.const (Go.Value.int Go.IntKind.i64 1)) t17 (Go.Value.int Go.IntKind.i64 1)) (fun t18 w
    => br t18 (S.v P (Instr.indexAt 32 a0 (Go.Value.int Go.IntKind.i64 0)) (fun t20 w => S.v P (Instr.loadAt 22 t20) (fun t21 w => S.v P (Builtin.append_ #[22,
    22] 22 #[(Go.Value.slice none 0 0), t21]) (fun t22 w => K t22 w) w) w) w) (S.seq (fun vs w => S.v P (Builtin.len_ #[32] 3 #[a0]) (fun t43 w => S.loop (fun
    I => ∀ (x5 : Value) (x7 : Value) (x44 : Value) (x45 : Value) (x52 : Value) (w : World), (S.v P (S.bin Go.BinOp.lss 3 (Go.Operand.tmp 44) (Go.Operand.tmp
    43) x44 t43) (fun t45 w => br t45 (S.v P (Instr.indexAt 32 a0 x44) (fun t46 w => S.v P (Instr.loadAt 22 t46) (fun t47 w => S.seq (fun vs_1 w => S.v P
    (Builtin.len_ #[22] 3 #[t47]) (fun t56 w => S.v P (S.bin Go.BinOp.add 3 (Go.Operand.tmp 54) (Go.Operand.tmp 56) x5 t56) (fun t57 w => S.v P (S.bin
    Go.BinOp.add 3 (Go.Operand.tmp 44) (Go.Operand.const (Go.Value.int Go.IntKind.i64 1)) x44 (Go.Value.int Go.IntKind.i64 1)) (fun t58 w => I [t57, t47, t58,
    t45, (nth vs_1 0)] w) w) w) w) (fun J_1 => S.v P (Builtin.len_ #[22] 3 #[t47]) (fun t49 w => S.v P (S.bin Go.BinOp.sub 3 (Go.Operand.const (Go.Value.int
    Go.IntKind.i64 9223372036854775807)) (Go.Operand.tmp 50) (Go.Value.int Go.IntKind.i64 9223372036854775807) x5) (fun t51 w => S.v P (S.bin Go.BinOp.gtr 3
    (Go.Operand.tmp 49) (Go.Operand.tmp 51) t49 t51) (fun t52 w => br t52 (S.v P (Instr.makeInterface 9 (Go.Value.string { data := #[98, 121, 116, 101, 115,
    58, 32, 74, 111, 105, 110, 32, 111, 117, 116, 112, 117, 116, 32, 108, 101, 110, 103, 116, 104, 32, 111, 118, 101, 114, 102, 108, 111, 119] })) (fun t53 w
    => S.v P (Instr.panic t53) (fun _ w => J_1 [t52] w) w) w) (J_1 [t52] w)) w) w) w)) w) w) (S.nx P (callFunc 26 #[x5]) (fun t60 w => S.v P (Instr.sliceAt 22
    t60 none (some x5) (some x5)) (fun t63 w => S.v P (Instr.indexAt 32 a0 (Go.Value.int Go.IntKind.i64 0)) (fun t66 w => S.v P (Instr.loadAt 22 t66) (fun t67
    w => S.v P (Builtin.copy_ #[22, 22] 3 #[t63, t67]) (fun t68 w => S.v P (Instr.sliceAt 32 a0 (some (Go.Value.int Go.IntKind.i64 1)) none none) (fun t70 w =>
    S.v P (Builtin.len_ #[32] 3 #[t70]) (fun t71 w => S.loop (fun I_1 => ∀ (x9 : Value) (x11 : Value) (x72 : Value) (x73 : Value) (w : World), (S.v P (S.bin
    Go.BinOp.lss 3 (Go.Operand.tmp 72) (Go.Operand.tmp 71) x72 t71) (fun t73 w => br t73 (S.v P (Instr.indexAt 32 t70 x72) (fun t74 w => S.v P (Instr.loadAt 22
    t74) (fun t75 w => S.v P (Instr.sliceAt 22 t63 (some x9) none none) (fun t79 w => S.v P (Builtin.copy_ #[22, 22] 3 #[t79, a1]) (fun t81 w => S.v P (S.bin
    Go.BinOp.add 3 (Go.Operand.tmp 76) (Go.Operand.tmp 81) x9 t81) (fun t82 w => S.v P (Instr.sliceAt 22 t63 (some t82) none none) (fun t86 w => S.v P
    (Builtin.copy_ #[22, 22] 3 #[t86, t75]) (fun t88 w => S.v P (S.bin Go.BinOp.add 3 (Go.Operand.tmp 83) (Go.Operand.tmp 88) t82 t88) (fun t89 w => S.v P
    (S.bin Go.BinOp.add 3 (Go.Operand.tmp 72) (Go.Operand.const (Go.Value.int Go.IntKind.i64 1)) x72 (Go.Value.int Go.IntKind.i64 1)) (fun t90 w => I_1 [t89,
    t75, t90, t73] w) w) w) w) w) w) w) w) w) w) (K t63 w)) w) → I_1 [x9, x11, x72, x73] w) [t68, undef, (Go.Value.int Go.IntKind.i64 0), undef] w) w) w) w) w)
    w) w) w)) w) → I [x5, x7, x44, x45, x52] w) [(nth vs 0), undef, (Go.Value.int Go.IntKind.i64 0), undef, undef] w) w) (fun J => S.v P (Builtin.len_ #[22] 3
    #[a1]) (fun t24 w => S.v P (S.bin Go.BinOp.gtr 3 (Go.Operand.tmp 24) (Go.Operand.const (Go.Value.int Go.IntKind.i64 0)) t24 (Go.Value.int Go.IntKind.i64
    0)) (fun t25 w => br t25 (S.seq (fun vs_2 w => S.v P (Builtin.len_ #[22] 3 #[a1]) (fun t36 w => S.v P (Builtin.len_ #[32] 3 #[a0]) (fun t38 w => S.v P
    (S.bin Go.BinOp.sub 3 (Go.Operand.tmp 38) (Go.Operand.const (Go.Value.int Go.IntKind.i64 1)) t38 (Go.Value.int Go.IntKind.i64 1)) (fun t39 w => S.v P
    (S.bin Go.BinOp.mul 3 (Go.Operand.tmp 36) (Go.Operand.tmp 39) t36 t39) (fun t40 w => S.v P (S.bin Go.BinOp.add 3 (Go.Operand.tmp 34) (Go.Operand.tmp 40)
    (Go.Value.int Go.IntKind.i64 0) t40) (fun t41 w => J [t41, t25, (nth vs_2 0)] w) w) w) w) w) w) (fun J_2 => S.v P (Builtin.len_ #[22] 3 #[a1]) (fun t27 w
    => S.v P (Builtin.len_ #[32] 3 #[a0]) (fun t29 w => S.v P (S.bin Go.BinOp.sub 3 (Go.Operand.tmp 29) (Go.Operand.const (Go.Value.int Go.IntKind.i64 1)) t29
    (Go.Value.int Go.IntKind.i64 1)) (fun t30 w => S.v P (S.bin Go.BinOp.quo 3 (Go.Operand.const (Go.Value.int Go.IntKind.i64 9223372036854775807))
    (Go.Operand.tmp 30) (Go.Value.int Go.IntKind.i64 9223372036854775807) t30) (fun t31 w => S.v P (S.bin Go.BinOp.geq 3 (Go.Operand.tmp 27) (Go.Operand.tmp
    31) t27 t31) (fun t32 w => br t32 (S.v P (Instr.makeInterface 9 (Go.Value.string { data := #[98, 121, 116, 101, 115, 58, 32, 74, 111, 105, 110, 32, 111,
    117, 116, 112, 117, 116, 32, 108, 101, 110, 103, 116, 104, 32, 111, 118, 101, 114, 102, 108, 111, 119] })) (fun t33 w => S.v P (Instr.panic t33) (fun _ w
    => J_2 [t32] w) w) w) (J_2 [t32] w)) w) w) w) w) w)) (J [(Go.Value.int Go.IntKind.i64 0), t25, undef] w)) w) w))) w) w)) w) w
theorem F15_chk : chkFn Try.f15 (bodyOf Try.f15) [0, 1, 4, 5, 7, 8, 9, 11, 14, 18, 25, 32, 42, 43, 44, 45, 52, 70, 71, 72, 73] [] 2 = true := by kernel_rfl
theorem F15_eq (a0 a1 : Value) (K : Value → World → Prop) (w : World) : F15 Try.prog a0 a1 K w = denFn Try.prog (has ents) [] [0, 1, 4, 5, 7, 8, 9, 11, 14, 18, 25, 32, 42, 43, 44, 45, 52, 70, 71, 72, 73] (bodyOf Try.f15) Try.f15.results.toList [a0, a1] K w := by kernel_rfl
theorem F15_link {a0 a1 : Value} {K : Value → World → Prop} {w : World} (h : F15 Try.prog a0 a1 K w) : S.call Try.prog 15 [a0, a1] K w :=
  calls_of_den entOk mixOk Try.func15 rfl F15_chk (Eq.mp (F15_eq a0 a1 K w) h)
/-- (*lanyard/macro.Recorder).Put -/
def F16 (P : Program) (a0 a1 : Value) (K : Value → World → Prop) (w : World) : Prop :=
  S.call P 27 [a0] (fun t7 w => S.v P (S.bin Go.BinOp.neq 26 (Go.Operand.tmp 8) (Go.Operand.const (Go.Value.int Go.IntKind.i64 0)) t7 (Go.Value.int
    Go.IntKind.i64 0)) (fun t9 w => br t9 (K t7 w) (S.v P (S.nilC a0) (fun t12 w => S.v P (Instr.fieldAt 58 t12 0) (fun t13 w => S.v P (Instr.loadAt 22 t13)
    (fun t14 w => S.v P (Builtin.len_ #[22] 3 #[t14]) (fun t15 w => S.v P (Builtin.len_ #[22] 3 #[a1]) (fun t17 w => S.v P (S.bin Go.BinOp.add 3
    (Go.Operand.tmp 15) (Go.Operand.tmp 17) t15 t17) (fun t18 w => S.v P (S.bin Go.BinOp.gtr 3 (Go.Operand.tmp 18) (Go.Operand.const (Go.Value.int
    Go.IntKind.i64 128)) t18 (Go.Value.int Go.IntKind.i64 128)) (fun t19 w => br t19 (S.v P (S.nilC a0) (fun t22 w => S.v P (Instr.fieldAt 58 t22 1) (fun t23 w
    => S.u P (Instr.storeAt 4 t23 (Go.Value.bool false)) (fun w => S.v P (S.nilC a0) (fun t24 w => S.v P (Instr.fieldAt 58 t24 0) (fun t25 w => S.u P
    (Instr.storeAt 22 t25 (Go.Value.slice none 0 0)) (fun w => K (Go.Value.int Go.IntKind.i64 3) w) w) w) w) w) w) w) (S.v P (S.nilC a0) (fun t28 w => S.v P
    (Instr.fieldAt 58 t28 0) (fun t29 w => S.v P (Instr.loadAt 22 t29) (fun t30 w => S.v P (Builtin.append_ #[22, 22] 22 #[t30, a1]) (fun t32 w => S.v P
    (S.nilC a0) (fun t33 w => S.v P (Instr.fieldAt 58 t33 0) (fun t34 w => S.u P (Instr.storeAt 22 t34 t32) (fun w => K (Go.Value.int Go.IntKind.i64 0) w) w)
    w) w) w) w) w) w)) w) w) w) w) w) w) w)) w) w
theorem F16_chk : chkFn Try.f16 (bodyOf Try.f16) [0, 1, 4, 5, 9, 19] [] 2 = true := by kernel_rfl
theorem F16_eq (a0 a1 : Value) (K : Value → World → Prop) (w : World) : F16 Try.prog a0 a1 K w = denFn Try.prog (has ents) [] [0, 1, 4, 5, 9, 19] (bodyOf Try.f16) Try.f16.results.toList [a0, a1] K w := by kernel_rfl
theorem F16_link {a0 a1 : Value} {K : Value → World → Prop} {w : World} (h : F16 Try.prog a0 a1 K w) : S.call Try.prog 16 [a0, a1] K w :=
  calls_of_den entOk mixOk Try.func16 rfl F16_chk (Eq.mp (F16_eq a0 a1 K w) h)
/-- (*lanyard/macro.Recorder).On -/
def F17 (P : Program) (a0 : Value) (K : Value → World → Prop) (w : World) : Prop :=
  S.call P 25 [a0] (fun t4 w => S.v P (Op.unary Go.UnOp.not t4) (fun t5 w => br t5 (S.v P (S.nilC a0) (fun t8 w => S.v P (Instr.fieldAt 58 t8 1) (fun t9 w => S.v
    P (Instr.loadAt 4 t9) (fun t10 w => K t10 w) w) w) w) (K (Go.Value.bool false) w)) w) w
theorem F17_chk : chkFn Try.f17 (bodyOf Try.f17) [0, 2] [] 1 = true := by kernel_rfl
theorem F17_eq (a0 : Value) (K : Value → World → Prop) (w : World) : F17 Try.prog a0 K w = denFn Try.prog (has ents) [] [0, 2] (bodyOf Try.f17) Try.f17.results.toList [a0] K w := by kernel_rfl
theorem F17_link {a0 : Value} {K : Value → World → Prop} {w : World} (h : F17 Try.prog a0 K w) : S.call Try.prog 17 [a0] K w :=
  calls_of_den entOk mixOk Try.func17 rfl F17_chk (Eq.mp (F17_eq a0 K w) h)
/-- (*lanyard/macro.Recorder).End -/
def F18 (P : Program) (a0 : Value) (K : Value → World → Prop) (w : World) : Prop :=
  S.call P 27 [a0] (fun t5 w => S.v P (S.bin Go.BinOp.neq 26 (Go.Operand.tmp 6) (Go.Operand.const (Go.Value.int Go.IntKind.i64 0)) t5 (Go.Value.int
    Go.IntKind.i64 0)) (fun t7 w => br t7 (K t5 w) (S.v P (S.nilC a0) (fun t12 w => S.v P (Instr.fieldAt 58 t12 0) (fun t13 w => S.v P (Instr.loadAt 22 t13)
    (fun t14 w => S.v P (Go.convert 22 9 t14) (fun t15 w => S.v P (S.nilC a0) (fun t16 w => S.v P (Instr.fieldAt 58 t16 2) (fun t17 w => S.u P (Instr.storeAt 9
    t17 t15) (fun w => S.v P (S.nilC a0) (fun t18 w => S.v P (Instr.fieldAt 58 t18 3) (fun t19 w => S.u P (Instr.storeAt 4 t19 (Go.Value.bool true)) (fun w =>
    S.v P (S.nilC a0) (fun t22 w => S.v P (Instr.fieldAt 58 t22 1) (fun t23 w => S.u P (Instr.storeAt 4 t23 (Go.Value.bool false)) (fun w => S.v P (S.nilC a0)
    (fun t24 w => S.v P (Instr.fieldAt 58 t24 0) (fun t25 w => S.u P (Instr.storeAt 22 t25 (Go.Value.slice none 0 0)) (fun w => K (Go.Value.int Go.IntKind.i64
    0) w) w) w) w) w) w) w) w) w) w) w) w) w) w) w) w) w)) w) w
theorem F18_chk : chkFn Try.f18 (bodyOf Try.f18) [0, 2, 3, 7] [] 1 = true := by kernel_rfl
theorem F18_eq (a0 : Value) (K : Value → World → Prop) (w : World) : F18 Try.prog a0 K w = denFn Try.prog (has ents) [] [0, 2, 3, 7] (bodyOf Try.f18) Try.f18.results.toList [a0] K w := by kernel_rfl
theorem F18_link {a0 : Value} {K : Value → World → Prop} {w : World} (h : F18 Try.prog a0 K w) : S.call Try.prog 18 [a0] K w :=
  calls_of_den entOk mixOk Try.func18 rfl F18_chk (Eq.mp (F18_eq a0 K w) h)
/-- (*lanyard/macro.Recorder).Last -/
def F19 (P : Program) (a0 : Value) (K : Value → World → Prop) (w : World) : Prop :=
  S.call P 25 [a0] (fun t5 w => br t5 (K (.tuple #[(Go.Value.string { data := #[] }), (Go.Value.bool false)]) w) (S.drawn (fun w => S.p P (S.nilC a0) (fun t7 w
    => S.p P (Instr.fieldAt 58 t7 2) (fun t8 w => S.p P (Instr.loadAt 9 t8) (fun t9 w => S.p P (S.nilC a0) (fun t11 w => S.p P (Instr.fieldAt 58 t11 3) (fun
    t12 w => S.p P (Instr.loadAt 4 t12) (fun t13 w => K (.tuple #[t9, t13]) w) w) w) w) w) w) w) w)) w
theorem F19_chk : chkFn Try.f19 (bodyOf Try.f19) [0, 2, 3, 5] [(3, { ord := (.step 0 true (.step 1 true (.step 2 true (.step 3 true (.step 4 true (.step 5 true (.step 6 true (.step 7 true (.step 8 true (.step 9 true .fin)))))))))), flags := [], held := false, init := true })] 1 = true := by kernel_rfl
theorem F19_eq (a0 : Value) (K : Value → World → Prop) (w : World) : F19 Try.prog a0 K w = denFn Try.prog (has ents) [(3, { ord := (.step 0 true (.step 1 true (.step 2 true (.step 3 true (.step 4 true (.step 5 true (.step 6 true (.step 7 true (.step 8 true (.step 9 true .fin)))))))))), flags := [], held := false, init := true })] [0, 2, 3, 5] (bodyOf Try.f19) Try.f19.results.toList [a0] K w := by kernel_rfl
theorem F19_link {a0 : Value} {K : Value → World → Prop} {w : World} (h : F19 Try.prog a0 K w) : S.call Try.prog 19 [a0] K w :=
  calls_of_den entOk mixOk Try.func19 rfl F19_chk (Eq.mp (F19_eq a0 K w) h)
/-- (*lanyard/lanyardlaw22.pair).step -/
def F20 (P : Program) (a0 a1 : Value) (K : Value → World → Prop) (w : World) : Prop :=
  S.v P (Instr.box 51 a1) (fun t3 w => S.v P (Instr.fieldAt 51 t3 0) (fun t13 w => S.v P (Instr.loadAt 3 t13) (fun t14 w => S.v P (S.bin Go.BinOp.eql 3
    (Go.Operand.tmp 14) (Go.Operand.const (Go.Value.int Go.IntKind.i64 0)) t14 (Go.Value.int Go.IntKind.i64 0)) (fun t16 w => br t16 (S.drawn (fun w => ∃ H :
    World → Prop, H w ∧ (S.h P H (S.nilC a0) (fun t18 w => S.h P H (Instr.fieldAt 49 t18 0) (fun t19 w => S.h P H (Instr.loadAt 23 t19) (fun t20 w => S.h P H
    (Instr.fieldAt 51 t3 1) (fun t21 w => S.h P H (Instr.loadAt 22 t21) (fun t22 w => S.h P H (S.nilC a0) (fun t25 w => S.h P H (Instr.fieldAt 49 t25 2) (fun
    t26 w => S.h P H (Instr.loadAt 42 t26) (fun t27 w => S.h P H (Instr.fieldAt 51 t3 1) (fun t28 w => S.h P H (Instr.loadAt 22 t28) (fun t29 w => S.call P 8
    [t20, t22] (fun t23 w => H w ∧ (S.call P 28 [t27, t29] (fun t30 w => H w ∧ (S.h P H (S.bin Go.BinOp.eql 26 (Go.Operand.tmp 23) (Go.Operand.tmp 30) t23 t30)
    (fun t31 w => K t31 w) w)) w)) w) w) w) w) w) w) w) w) w) w) w)) w) (S.v P (S.bin Go.BinOp.eql 3 (Go.Operand.tmp 14) (Go.Operand.const (Go.Value.int
    Go.IntKind.i64 1)) t14 (Go.Value.int Go.IntKind.i64 1)) (fun t33 w => br t33 (S.drawn (fun w => ∃ H_1 : World → Prop, H_1 w ∧ (S.h P H_1 (S.nilC a0) (fun
    t35 w => S.h P H_1 (Instr.fieldAt 49 t35 0) (fun t36 w => S.h P H_1 (Instr.loadAt 23 t36) (fun t37 w => S.h P H_1 (Instr.fieldAt 51 t3 1) (fun t38 w => S.h
    P H_1 (Instr.loadAt 22 t38) (fun t39 w => S.h P H_1 (S.nilC a0) (fun t42 w => S.h P H_1 (Instr.fieldAt 49 t42 2) (fun t43 w => S.h P H_1 (Instr.loadAt 42
    t43) (fun t44 w => S.h P H_1 (Instr.fieldAt 51 t3 1) (fun t45 w => S.h P H_1 (Instr.loadAt 22 t45) (fun t46 w => S.call P 10 [t37, t39] (fun t40 w => H_1 w
    ∧ (S.call P 29 [t44, t46] (fun t47 w => H_1 w ∧ (S.h P H_1 (S.bin Go.BinOp.eql 26 (Go.Operand.tmp 40) (Go.Operand.tmp 47) t40 t47) (fun t48 w => K t48 w)
    w)) w)) w) w) w) w) w) w) w) w) w) w) w)) w) (S.v P (S.bin Go.BinOp.eql 3 (Go.Operand.tmp 14) (Go.Operand.const (Go.Value.int Go.IntKind.i64 2)) t14
    (Go.Value.int Go.IntKind.i64 2)) (fun t50 w => br t50 (S.drawn (fun w => ∃ H_2 : World → Prop, H_2 w ∧ (S.h P H_2 (S.nilC a0) (fun t52 w => S.h P H_2
    (Instr.fieldAt 49 t52 0) (fun t53 w => S.h P H_2 (Instr.loadAt 23 t53) (fun t54 w => S.h P H_2 (Instr.fieldAt 51 t3 1) (fun t55 w => S.h P H_2
    (Instr.loadAt 22 t55) (fun t56 w => S.h P H_2 (S.nilC a0) (fun t59 w => S.h P H_2 (Instr.fieldAt 49 t59 2) (fun t60 w => S.h P H_2 (Instr.loadAt 42 t60)
    (fun t61 w => S.h P H_2 (Instr.fieldAt 51 t3 1) (fun t62 w => S.h P H_2 (Instr.loadAt 22 t62) (fun t63 w => S.call P 30 [t54, t56] (fun t57 w => H_2 w ∧
    (S.call P 31 [t61, t63] (fun t64 w => H_2 w ∧ (S.h P H_2 (S.bin Go.BinOp.eql 26 (Go.Operand.tmp 57) (Go.Operand.tmp 64) t57 t64) (fun t65 w => K t65 w) w))
    w)) w) w) w) w) w) w) w) w) w) w) w)) w) (S.v P (S.bin Go.BinOp.eql 3 (Go.Operand.tmp 14) (Go.Operand.const (Go.Value.int Go.IntKind.i64 3)) t14
    (Go.Value.int Go.IntKind.i64 3)) (fun t67 w => br t67 (S.v P (S.nilC a0) (fun t70 w => S.v P (Instr.fieldAt 49 t70 0) (fun t71 w => S.v P (Instr.loadAt 23
    t71) (fun t72 w => S.call P 9 [t72] (fun t73 w => S.v P (Instr.extract t73 0) (fun t74 w => S.v P (Instr.extract t73 1) (fun t75 w => S.v P (Instr.extract
    t73 2) (fun t76 w => S.v P (S.nilC a0) (fun t79 w => S.v P (Instr.fieldAt 49 t79 2) (fun t80 w => S.v P (Instr.loadAt 42 t80) (fun t81 w => S.call P 32
    [t81] (fun t82 w => S.v P (Instr.extract t82 0) (fun t83 w => S.v P (Instr.extract t82 1) (fun t84 w => S.v P (Instr.extract t82 2) (fun t85 w => S.v P
    (S.bin Go.BinOp.eql 5 (Go.Operand.tmp 86) (Go.Operand.tmp 87) t74 t83) (fun t88 w => br t88 (S.v P (S.bin Go.BinOp.eql 4 (Go.Operand.tmp 90)
    (Go.Operand.tmp 91) t75 t84) (fun t92 w => br t92 (S.v P (S.bin Go.BinOp.eql 4 (Go.Operand.tmp 95) (Go.Operand.tmp 96) t76 t85) (fun t97 w => K t97 w) w)
    (K (Go.Value.bool false) w)) w) (K (Go.Value.bool false) w)) w) w) w) w) w) w) w) w) w) w) w) w) w) w) w) (S.v P (S.bin Go.BinOp.eql 3 (Go.Operand.tmp 14)
    (Go.Operand.const (Go.Value.int Go.IntKind.i64 4)) t14 (Go.Value.int Go.IntKind.i64 4)) (fun t100 w => br t100 (S.drawn (fun w => ∃ H_3 : World → Prop, H_3
    w ∧ (S.h P H_3 (S.nilC a0) (fun t102 w => S.h P H_3 (Instr.fieldAt 49 t102 0) (fun t103 w => S.h P H_3 (Instr.loadAt 23 t103) (fun t104 w => S.h P H_3
    (S.nilC a0) (fun t107 w => S.h P H_3 (Instr.fieldAt 49 t107 2) (fun t108 w => S.h P H_3 (Instr.loadAt 42 t108) (fun t109 w => S.call P 33 [t104] (fun t105
    w => H_3 w ∧ (S.call P 34 [t109] (fun t110 w => H_3 w ∧ (S.h P H_3 (S.bin Go.BinOp.eql 3 (Go.Operand.tmp 105) (Go.Operand.tmp 110) t105 t110) (fun t111 w
    => K t111 w) w)) w)) w) w) w) w) w) w) w)) w) (S.v P (S.bin Go.BinOp.eql 3 (Go.Operand.tmp 14) (Go.Operand.const (Go.Value.int Go.IntKind.i64 5)) t14
    (Go.Value.int Go.IntKind.i64 5)) (fun t113 w => br t113 (S.drawn (fun w => ∃ H_4 : World → Prop, H_4 w ∧ (S.h P H_4 (S.nilC a0) (fun t115 w => S.h P H_4
    (Instr.fieldAt 49 t115 0) (fun t116 w => S.h P H_4 (Instr.loadAt 23 t116) (fun t117 w => S.h P H_4 (S.nilC a0) (fun t120 w => S.h P H_4 (Instr.fieldAt 49
    t120 1) (fun t121 w => S.h P H_4 (Instr.loadAt 33 t121) (fun t122 w => S.call P 35 [t117] (fun t118 w => H_4 w ∧ (S.call P 36 [t122] (fun t123 w => H_4 w ∧
    (S.drawn (fun w => ∃ H_5 : World → Prop, H_5 w ∧ (S.h P H_5 (S.nilC a0) (fun t125 w => S.h P H_5 (Instr.fieldAt 49 t125 0) (fun t126 w => S.h P H_5
    (Instr.loadAt 23 t126) (fun t127 w => S.h P H_5 (Instr.fieldAt 51 t3 1) (fun t128 w => S.h P H_5 (Instr.loadAt 22 t128) (fun t129 w => S.call P 8 [t127,
    t129] (fun t130 w => H_5 w ∧ (S.v P (S.nilC a0) (fun t132 w => S.v P (Instr.fieldAt 49 t132 0) (fun t133 w => S.v P (Instr.loadAt 23 t133) (fun t134 w =>
    S.call P 33 [t134] (fun t135 w => S.drawn (fun w => ∃ H_6 : World → Prop, H_6 w ∧ (S.h P H_6 (S.nilC a0) (fun t137 w => S.h P H_6 (Instr.fieldAt 49 t137 1)
    (fun t138 w => S.h P H_6 (Instr.loadAt 33 t138) (fun t139 w => S.h P H_6 (Instr.fieldAt 51 t3 1) (fun t140 w => S.h P H_6 (Instr.loadAt 22 t140) (fun t141
    w => S.call P 16 [t139, t141] (fun t142 w => H_6 w ∧ (S.v P (S.nilC a0) (fun t147 w => S.v P (Instr.fieldAt 49 t147 0) (fun t148 w => S.u P (Instr.storeAt
    23 t148 t118) (fun w => S.v P (S.nilC a0) (fun t149 w => S.v P (Instr.fieldAt 49 t149 1) (fun t150 w => S.u P (Instr.storeAt 33 t150 t123) (fun w => S.v P
    (S.bin Go.BinOp.neq 23 (Go.Operand.tmp 151) (Go.Operand.const (Go.Value.pointer none)) t118 (Go.Value.pointer none)) (fun t152 w => br t152 (S.v P (S.bin
    Go.BinOp.neq 33 (Go.Operand.tmp 154) (Go.Operand.const (Go.Value.pointer none)) t123 (Go.Value.pointer none)) (fun t155 w => K t155 w) w) (K (Go.Value.bool
    false) w)) w) w) w) w) w) w) w)) w) w) w) w) w) w)) w) w) w) w) w)) w) w) w) w) w) w)) w)) w)) w) w) w) w) w) w) w)) w) (S.v P (S.bin Go.BinOp.eql 3
    (Go.Operand.tmp 14) (Go.Operand.const (Go.Value.int Go.IntKind.i64 6)) t14 (Go.Value.int Go.IntKind.i64 6)) (fun t158 w => br t158 (S.drawn (fun w => ∃ H_7
    : World → Prop, H_7 w ∧ (S.h P H_7 (S.nilC a0) (fun t160 w => S.h P H_7 (Instr.fieldAt 49 t160 1) (fun t161 w => S.h P H_7 (Instr.loadAt 33 t161) (fun t162
    w => S.h P H_7 (S.nilC a0) (fun t165 w => S.h P H_7 (Instr.fieldAt 49 t165 3) (fun t166 w => S.h P H_7 (Instr.loadAt 45 t166) (fun t167 w => S.call P 14
    [t162] (fun t163 w => H_7 w ∧ (S.call P 37 [t167] (fun t168 w => H_7 w ∧ (S.h P H_7 (S.bin Go.BinOp.eql 26 (Go.Operand.tmp 163) (Go.Operand.tmp 168) t163
    t168) (fun t169 w => K t169 w) w)) w)) w) w) w) w) w) w) w)) w) (S.v P (S.bin Go.BinOp.eql 3 (Go.Operand.tmp 14) (Go.Operand.const (Go.Value.int
    Go.IntKind.i64 7)) t14 (Go.Value.int Go.IntKind.i64 7)) (fun t171 w => br t171 (S.drawn (fun w => ∃ H_8 : World → Prop, H_8 w ∧ (S.h P H_8 (S.nilC a0) (fun
    t173 w => S.h P H_8 (Instr.fieldAt 49 t173 1) (fun t174 w => S.h P H_8 (Instr.loadAt 33 t174) (fun t175 w => S.h P H_8 (S.nilC a0) (fun t178 w => S.h P H_8
    (Instr.fieldAt 49 t178 3) (fun t179 w => S.h P H_8 (Instr.loadAt 45 t179) (fun t180 w => S.call P 18 [t175] (fun t176 w => H_8 w ∧ (S.call P 38 [t180] (fun
    t181 w => H_8 w ∧ (S.h P H_8 (S.bin Go.BinOp.eql 26 (Go.Operand.tmp 176) (Go.Operand.tmp 181) t176 t181) (fun t182 w => K t182 w) w)) w)) w) w) w) w) w) w)
    w)) w) (S.v P (S.bin Go.BinOp.eql 3 (Go.Operand.tmp 14) (Go.Operand.const (Go.Value.int Go.IntKind.i64 8)) t14 (Go.Value.int Go.IntKind.i64 8)) (fun t184 w
    => br t184 (S.drawn (fun w => ∃ H_9 : World → Prop, H_9 w ∧ (S.h P H_9 (S.nilC a0) (fun t186 w => S.h P H_9 (Instr.fieldAt 49 t186 1) (fun t187 w => S.h P
    H_9 (Instr.loadAt 33 t187) (fun t188 w => S.h P H_9 (Instr.fieldAt 51 t3 1) (fun t189 w => S.h P H_9 (Instr.loadAt 22 t189) (fun t190 w => S.h P H_9
    (S.nilC a0) (fun t193 w => S.h P H_9 (Instr.fieldAt 49 t193 3) (fun t194 w => S.h P H_9 (Instr.loadAt 45 t194) (fun t195 w => S.h P H_9 (Instr.fieldAt 51
    t3 1) (fun t196 w => S.h P H_9 (Instr.loadAt 22 t196) (fun t197 w => S.call P 16 [t188, t190] (fun t191 w => H_9 w ∧ (S.call P 39 [t195, t197] (fun t198 w
    => H_9 w ∧ (S.h P H_9 (S.bin Go.BinOp.eql 26 (Go.Operand.tmp 191) (Go.Operand.tmp 198) t191 t198) (fun t199 w => K t199 w) w)) w)) w) w) w) w) w) w) w) w)
    w) w) w)) w) (S.v P (S.bin Go.BinOp.eql 3 (Go.Operand.tmp 14) (Go.Operand.const (Go.Value.int Go.IntKind.i64 9)) t14 (Go.Value.int Go.IntKind.i64 9)) (fun
    t201 w => br t201 (S.drawn (fun w => ∃ H_10 : World → Prop, H_10 w ∧ (S.h P H_10 (S.nilC a0) (fun t203 w => S.h P H_10 (Instr.fieldAt 49 t203 1) (fun t204
    w => S.h P H_10 (Instr.loadAt 33 t204) (fun t205 w => S.h P H_10 (S.nilC a0) (fun t208 w => S.h P H_10 (Instr.fieldAt 49 t208 3) (fun t209 w => S.h P H_10
    (Instr.loadAt 45 t209) (fun t210 w => S.call P 40 [t205] (fun t206 w => H_10 w ∧ (S.call P 41 [t210] (fun t211 w => H_10 w ∧ (S.h P H_10 (S.bin
    Go.BinOp.eql 26 (Go.Operand.tmp 206) (Go.Operand.tmp 211) t206 t211) (fun t212 w => K t212 w) w)) w)) w) w) w) w) w) w) w)) w) (K (Go.Value.bool true) w))
    w)) w)) w)) w)) w)) w)) w)) w)) w)) w) w) w) w
theorem F20_chk : chkFn Try.f20 (bodyOf Try.f20) [0, 1, 3, 4, 5, 6, 7, 8, 9, 10, 11, 12, 14, 15, 32, 49, 66, 99, 112, 157, 170, 183, 200] [(3, { ord := (.step 0 true (.step 1 true (.step 2 true (.step 3 true (.step 4 true (.step 5 true (.step 7 true (.step 8 true (.step 9 true (.step 10 true (.step 11 true (.step 12 true (.step 6 false (.step 13 false (.step 14 true (.step 15 true .fin)))))))))))))))), flags := [6, 13], held := true, init := true }), (5, { ord := (.step 0 true (.step 1 true (.step 2 true (.step 3 true (.step 4 true (.step 5 true (.step 7 true (.step 8 true (.step 9 true (.step 10 true (.step 11 true (.step 12 true (.step 6 false (.step 13 false (.step 14 true (.step 15 true .fin)))))))))))))))), flags := [6, 13], held := true, init := true }), (7, { ord := (.step 0 true (.step 1 true (.step 2 true (.step 3 true (.step 4 true (.step 5 true (.step 7 true (.step 8 true (.step 9 true (.step 10 true (.step 11 true (.step 12 true (.step 6 false (.step 13 false (.step 14 true (.step 15 true .fin)))))))))))))))), flags := [6, 13], held := true, init := true }), (13, { ord := (.step 0 true (.step 1 true (.step 2 true (.step 3 true (.step 5 true (.step 6 true (.step 7 true (.step 8 true (.step 4 false (.step 9 false (.step 10 true (.step 11 true .fin)))))))))))), flags := [4, 9], held := true, init := true }), (15, { ord := (.step 0 true (.step 1 true (.step 2 true (.step 3 true (.step 5 true (.step 6 true (.step 7 true (.step 8 true (.step 4 false (.step 9 false (.step 10 true (.step 11 true .fin)))))))))))), flags := [4, 9], held := true, init := true }), (16, { ord := (.step 0 true (.step 1 true (.step 2 true (.step 3 true (.step 4 true (.step 5 true (.step 6 false .fin))))))), flags := [6], held := true, init := true }), (18, { ord := (.step 0 true (.step 1 true (.step 2 true (.step 3 true (.step 4 true (.step 5 true (.step 6 false .fin))))))), flags := [6], held := true, init := true }), (22, { ord := (.step 0 true (.step 1 true (.step 2 true (.step 3 true (.step 5 true (.step 6 true (.step 7 true (.step 8 true (.step 4 false (.step 9 false (.step 10 true (.step 11 true .fin)))))))))))), flags := [4, 9], held := true, init := true }), (24, { ord := (.step 0 true (.step 1 true (.step 2 true (.step 3 true (.step 5 true (.step 6 true (.step 7 true (.step 8 true (.step 4 false (.step 9 false (.step 10 true (.step 11 true .fin)))))))))))), flags := [4, 9], held := true, init := true }), (26, { ord := (.step 0 true (.step 1 true (.step 2 true (.step 3 true (.step 4 true (.step 5 true (.step 7 true (.step 8 true (.step 9 true (.step 10 true (.step 11 true (.step 12 true (.step 6 false (.step 13 false (.step 14 true (.step 15 true .fin)))))))))))))))), flags := [6, 13], held := true, init := true }), (28, { ord := (.step 0 true (.step 1 true (.step 2 true (.step 3 true (.step 5 true (.step 6 true (.step 7 true (.step 8 true (.step 4 false (.step 9 false (.step 10 true (.step 11 true .fin)))))))))))), flags := [4, 9], held := true, init := true })] 2 = true := by kernel_rfl
theorem F20_eq (a0 a1 : Value) (K : Value → World → Prop) (w : World) : F20 Try.prog a0 a1 K w = denFn Try.prog (has ents) [(3, { ord := (.step 0 true (.step 1 true (.step 2 true (.step 3 true (.step 4 true (.step 5 true (.step 7 true (.step 8 true (.step 9 true (.step 10 true (.step 11 true (.step 12 true (.step 6 false (.step 13 false (.step 14 true (.step 15 true .fin)))))))))))))))), flags := [6, 13], held := true, init := true }), (5, { ord := (.step 0 true (.step 1 true (.step 2 true (.step 3 true (.step 4 true (.step 5 true (.step 7 true (.step 8 true (.step 9 true (.step 10 true (.step 11 true (.step 12 true (.step 6 false (.step 13 false (.step 14 true (.step 15 true .fin)))))))))))))))), flags := [6, 13], held := true, init := true }), (7, { ord := (.step 0 true (.step 1 true (.step 2 true (.step 3 true (.step 4 true (.step 5 true (.step 7 true (.step 8 true (.step 9 true (.step 10 true (.step 11 true (.step 12 true (.step 6 false (.step 13 false (.step 14 true (.step 15 true .fin)))))))))))))))), flags := [6, 13], held := true, init := true }), (13, { ord := (.step 0 true (.step 1 true (.step 2 true (.step 3 true (.step 5 true (.step 6 true (.step 7 true (.step 8 true (.step 4 false (.step 9 false (.step 10 true (.step 11 true .fin)))))))))))), flags := [4, 9], held := true, init := true }), (15, { ord := (.step 0 true (.step 1 true (.step 2 true (.step 3 true (.step 5 true (.step 6 true (.step 7 true (.step 8 true (.step 4 false (.step 9 false (.step 10 true (.step 11 true .fin)))))))))))), flags := [4, 9], held := true, init := true }), (16, { ord := (.step 0 true (.step 1 true (.step 2 true (.step 3 true (.step 4 true (.step 5 true (.step 6 false .fin))))))), flags := [6], held := true, init := true }), (18, { ord := (.step 0 true (.step 1 true (.step 2 true (.step 3 true (.step 4 true (.step 5 true (.step 6 false .fin))))))), flags := [6], held := true, init := true }), (22, { ord := (.step 0 true (.step 1 true (.step 2 true (.step 3 true (.step 5 true (.step 6 true (.step 7 true (.step 8 true (.step 4 false (.step 9 false (.step 10 true (.step 11 true .fin)))))))))))), flags := [4, 9], held := true, init := true }), (24, { ord := (.step 0 true (.step 1 true (.step 2 true (.step 3 true (.step 5 true (.step 6 true (.step 7 true (.step 8 true (.step 4 false (.step 9 false (.step 10 true (.step 11 true .fin)))))))))))), flags := [4, 9], held := true, init := true }), (26, { ord := (.step 0 true (.step 1 true (.step 2 true (.step 3 true (.step 4 true (.step 5 true (.step 7 true (.step 8 true (.step 9 true (.step 10 true (.step 11 true (.step 12 true (.step 6 false (.step 13 false (.step 14 true (.step 15 true .fin)))))))))))))))), flags := [6, 13], held := true, init := true }), (28, { ord := (.step 0 true (.step 1 true (.step 2 true (.step 3 true (.step 5 true (.step 6 true (.step 7 true (.step 8 true (.step 4 false (.step 9 false (.step 10 true (.step 11 true .fin)))))))))))), flags := [4, 9], held := true, init := true })] [0, 1, 3, 4, 5, 6, 7, 8, 9, 10, 11, 12, 14, 15, 32, 49, 66, 99, 112, 157, 170, 183, 200] (bodyOf Try.f20) Try.f20.results.toList [a0, a1] K w := by kernel_rfl
theorem F20_link {a0 a1 : Value} {K : Value → World → Prop} {w : World} (h : F20 Try.prog a0 a1 K w) : S.call Try.prog 20 [a0, a1] K w :=
  calls_of_den entOk mixOk Try.func20 rfl F20_chk (Eq.mp (F20_eq a0 a1 K w) h)
/-- (*lanyard/lanyardref22.Queue).Len -/
def F21 (P : Program) (a0 : Value) (K : Value → World → Prop) (w : World) : Prop :=
  S.v P (S.nilC a0) (fun t6 w => S.v P (Instr.fieldAt 44 t6 1) (fun t7 w => S.v P (Instr.loadAt 22 t7) (fun t8 w => S.v P (Builtin.len_ #[22] 3 #[t8]) (fun t9 w
    => S.loop (fun I => ∀ (x3 : Value) (x4 : Value) (x16 : Value) (w : World), (S.v P (S.nilC a0) (fun t12 w => S.v P (Instr.fieldAt 44 t12 0) (fun t13 w =>
    S.v P (Instr.loadAt 32 t13) (fun t14 w => S.v P (Builtin.len_ #[32] 3 #[t14]) (fun t15 w => S.v P (S.bin Go.BinOp.lss 3 (Go.Operand.tmp 10) (Go.Operand.tmp
    15) x4 t15) (fun t16 w => br t16 (S.v P (S.nilC a0) (fun t21 w => S.v P (Instr.fieldAt 44 t21 0) (fun t22 w => S.v P (Instr.loadAt 32 t22) (fun t23 w =>
    S.v P (Instr.indexAt 32 t23 x4) (fun t25 w => S.v P (Instr.loadAt 22 t25) (fun t26 w => S.v P (Builtin.len_ #[22] 3 #[t26]) (fun t27 w => S.v P (S.bin
    Go.BinOp.add 3 (Go.Operand.tmp 19) (Go.Operand.tmp 27) x3 t27) (fun t28 w => S.v P (S.bin Go.BinOp.add 3 (Go.Operand.tmp 17) (Go.Operand.const
    (Go.Value.int Go.IntKind.i64 1)) x4 (Go.Value.int Go.IntKind.i64 1)) (fun t18 w => I [t28, t18, t16] w) w) w) w) w) w) w) w) w) (K x3 w)) w) w) w) w) w) →
    I [x3, x4, x16] w) [t9, (Go.Value.int Go.IntKind.i64 0), undef] w) w) w) w) w
theorem F21_chk : chkFn Try.f21 (bodyOf Try.f21) [0, 2, 3, 4, 16] [] 1 = true := by kernel_rfl
theorem F21_eq (a0 : Value) (K : Value → World → Prop) (w : World) : F21 Try.prog a0 K w = denFn Try.prog (has ents) [] [0, 2, 3, 4, 16] (bodyOf Try.f21) Try.f21.results.toList [a0] K w := by kernel_rfl
theorem F21_link {a0 : Value} {K : Value → World → Prop} {w : World} (h : F21 Try.prog a0 K w) : S.call Try.prog 21 [a0] K w :=
  calls_of_den entOk mixOk Try.func21 rfl F21_chk (Eq.mp (F21_eq a0 K w) h)
/-- (*lanyard/lanyardref22.Queue).Depth -/
def F22 (P : Program) (a0 : Value) (K : Value → World → Prop) (w : World) : Prop :=
  S.v P (S.nilC a0) (fun t4 w => S.v P (Instr.fieldAt 44 t4 0) (fun t5 w => S.v P (Instr.loadAt 32 t5) (fun t6 w => S.v P (Builtin.len_ #[32] 3 #[t6]) (fun t7 w
    => K t7 w) w) w) w) w
theorem F22_chk : chkFn Try.f22 (bodyOf Try.f22) [0, 2] [] 1 = true := by kernel_rfl
theorem F22_eq (a0 : Value) (K : Value → World → Prop) (w : World) : F22 Try.prog a0 K w = denFn Try.prog (has ents) [] [0, 2] (bodyOf Try.f22) Try.f22.results.toList [a0] K w := by kernel_rfl
theorem F22_link {a0 : Value} {K : Value → World → Prop} {w : World} (h : F22 Try.prog a0 K w) : S.call Try.prog 22 [a0] K w :=
  calls_of_den entOk mixOk Try.func22 rfl F22_chk (Eq.mp (F22_eq a0 K w) h)
/-- (*lanyard/macro.Queue).room -/
def F23 (P : Program) (a0 a1 : Value) (K : Value → World → Prop) (w : World) : Prop :=
  S.call P 24 [a0] (fun t6 w => br t6 (K (Go.Value.int Go.IntKind.i64 2) w) (S.v P (S.nilC a0) (fun t9 w => S.v P (Instr.fieldAt 55 t9 0) (fun t10 w => S.v P
    (Instr.loadAt 22 t10) (fun t11 w => S.v P (Builtin.len_ #[22] 3 #[t11]) (fun t12 w => S.v P (S.bin Go.BinOp.sub 3 (Go.Operand.const (Go.Value.int
    Go.IntKind.i64 65536)) (Go.Operand.tmp 12) (Go.Value.int Go.IntKind.i64 65536) t12) (fun t13 w => S.v P (S.bin Go.BinOp.gtr 3 (Go.Operand.tmp 7)
    (Go.Operand.tmp 13) a1 t13) (fun t14 w => br t14 (K (Go.Value.int Go.IntKind.i64 3) w) (K (Go.Value.int Go.IntKind.i64 0) w)) w) w) w) w) w) w)) w
theorem F23_chk : chkFn Try.f23 (bodyOf Try.f23) [0, 1, 4, 6, 14] [] 2 = true := by kernel_rfl
theorem F23_eq (a0 a1 : Value) (K : Value → World → Prop) (w : World) : F23 Try.prog a0 a1 K w = denFn Try.prog (has ents) [] [0, 1, 4, 6, 14] (bodyOf Try.f23) Try.f23.results.toList [a0, a1] K w := by kernel_rfl
theorem F23_link {a0 a1 : Value} {K : Value → World → Prop} {w : World} (h : F23 Try.prog a0 a1 K w) : S.call Try.prog 23 [a0, a1] K w :=
  calls_of_den entOk mixOk Try.func23 rfl F23_chk (Eq.mp (F23_eq a0 a1 K w) h)
/-- (*lanyard/macro.Queue).none -/
def F24 (P : Program) (a0 : Value) (K : Value → World → Prop) (w : World) : Prop :=
  S.v P (S.bin Go.BinOp.eql 23 (Go.Operand.tmp 3) (Go.Operand.const (Go.Value.pointer none)) a0 (Go.Value.pointer none)) (fun t4 w => br t4 (K (Go.Value.bool
    true) w) (S.v P (S.nilC a0) (fun t7 w => S.v P (Instr.fieldAt 55 t7 3) (fun t8 w => S.v P (Instr.loadAt 4 t8) (fun t9 w => S.v P (Op.unary Go.UnOp.not t9)
    (fun t10 w => K t10 w) w) w) w) w)) w
theorem F24_chk : chkFn Try.f24 (bodyOf Try.f24) [0, 2] [] 1 = true := by kernel_rfl
theorem F24_eq (a0 : Value) (K : Value → World → Prop) (w : World) : F24 Try.prog a0 K w = denFn Try.prog (has ents) [] [0, 2] (bodyOf Try.f24) Try.f24.results.toList [a0] K w := by kernel_rfl
theorem F24_link {a0 : Value} {K : Value → World → Prop} {w : World} (h : F24 Try.prog a0 K w) : S.call Try.prog 24 [a0] K w :=
  calls_of_den entOk mixOk Try.func24 rfl F24_chk (Eq.mp (F24_eq a0 K w) h)
/-- (*lanyard/macro.Recorder).none -/
def F25 (P : Program) (a0 : Value) (K : Value → World → Prop) (w : World) : Prop :=
  S.v P (S.bin Go.BinOp.eql 33 (Go.Operand.tmp 3) (Go.Operand.const (Go.Value.pointer none)) a0 (Go.Value.pointer none)) (fun t4 w => br t4 (K (Go.Value.bool
    true) w) (S.v P (S.nilC a0) (fun t7 w => S.v P (Instr.fieldAt 58 t7 4) (fun t8 w => S.v P (Instr.loadAt 4 t8) (fun t9 w => S.v P (Op.unary Go.UnOp.not t9)
    (fun t10 w => K t10 w) w) w) w) w)) w
theorem F25_chk : chkFn Try.f25 (bodyOf Try.f25) [0, 2] [] 1 = true := by kernel_rfl
theorem F25_eq (a0 : Value) (K : Value → World → Prop) (w : World) : F25 Try.prog a0 K w = denFn Try.prog (has ents) [] [0, 2] (bodyOf Try.f25) Try.f25.results.toList [a0] K w := by kernel_rfl
theorem F25_link {a0 : Value} {K : Value → World → Prop} {w : World} (h : F25 Try.prog a0 K w) : S.call Try.prog 25 [a0] K w :=
  calls_of_den entOk mixOk Try.func25 rfl F25_chk (Eq.mp (F25_eq a0 K w) h)
/-- (*lanyard/macro.Recorder).wants -/
def F27 (P : Program) (a0 : Value) (K : Value → World → Prop) (w : World) : Prop :=
  S.call P 25 [a0] (fun t4 w => br t4 (K (Go.Value.int Go.IntKind.i64 2) w) (S.v P (S.nilC a0) (fun t6 w => S.v P (Instr.fieldAt 58 t6 1) (fun t7 w => S.v P
    (Instr.loadAt 4 t7) (fun t8 w => S.v P (Op.unary Go.UnOp.not t8) (fun t9 w => br t9 (K (Go.Value.int Go.IntKind.i64 6) w) (K (Go.Value.int Go.IntKind.i64
    0) w)) w) w) w) w)) w
theorem F27_chk : chkFn Try.f27 (bodyOf Try.f27) [0, 2, 4, 9] [] 1 = true := by kernel_rfl
theorem F27_eq (a0 : Value) (K : Value → World → Prop) (w : World) : F27 Try.prog a0 K w = denFn Try.prog (has ents) [] [0, 2, 4, 9] (bodyOf Try.f27) Try.f27.results.toList [a0] K w := by kernel_rfl
theorem F27_link {a0 : Value} {K : Value → World → Prop} {w : World} (h : F27 Try.prog a0 K w) : S.call Try.prog 27 [a0] K w :=
  calls_of_den entOk mixOk Try.func27 rfl F27_chk (Eq.mp (F27_eq a0 K w) h)
/-- (*lanyard/lanyardref22.Queue).Put -/
def F28 (P : Program) (a0 a1 : Value) (K : Value → World → Prop) (w : World) : Prop :=
  S.v P (Builtin.len_ #[22] 3 #[a1]) (fun t6 w => S.v P (S.nilC a0) (fun t8 w => S.v P (Instr.fieldAt 44 t8 1) (fun t9 w => S.v P (Instr.loadAt 22 t9) (fun t10 w
    => S.v P (Builtin.len_ #[22] 3 #[t10]) (fun t11 w => S.v P (S.bin Go.BinOp.sub 3 (Go.Operand.const (Go.Value.int Go.IntKind.i64 65536)) (Go.Operand.tmp 11)
    (Go.Value.int Go.IntKind.i64 65536) t11) (fun t12 w => S.v P (S.bin Go.BinOp.gtr 3 (Go.Operand.tmp 6) (Go.Operand.tmp 12) t6 t12) (fun t13 w => br t13 (K
    (Go.Value.int Go.IntKind.i64 3) w) (S.v P (S.nilC a0) (fun t16 w => S.v P (Instr.fieldAt 44 t16 1) (fun t17 w => S.v P (Instr.loadAt 22 t17) (fun t18 w =>
    S.call P 42 [t18, a1] (fun t20 w => S.v P (S.nilC a0) (fun t21 w => S.v P (Instr.fieldAt 44 t21 1) (fun t22 w => S.u P (Instr.storeAt 22 t22 t20) (fun w =>
    K (Go.Value.int Go.IntKind.i64 0) w) w) w) w) w) w) w) w)) w) w) w) w) w) w) w
theorem F28_chk : chkFn Try.f28 (bodyOf Try.f28) [0, 1, 4, 13] [] 2 = true := by kernel_rfl
theorem F28_eq (a0 a1 : Value) (K : Value → World → Prop) (w : World) : F28 Try.prog a0 a1 K w = denFn Try.prog (has ents) [] [0, 1, 4, 13] (bodyOf Try.f28) Try.f28.results.toList [a0, a1] K w := by kernel_rfl
theorem F28_link {a0 a1 : Value} {K : Value → World → Prop} {w : World} (h : F28 Try.prog a0 a1 K w) : S.call Try.prog 28 [a0, a1] K w :=
  calls_of_den entOk mixOk Try.func28 rfl F28_chk (Eq.mp (F28_eq a0 a1 K w) h)
/-- (*lanyard/lanyardref22.Queue).Push -/
def F29 (P : Program) (a0 a1 : Value) (K : Value → World → Prop) (w : World) : Prop :=
  S.v P (Builtin.len_ #[22] 3 #[a1]) (fun t6 w => S.v P (S.bin Go.BinOp.gtr 3 (Go.Operand.tmp 6) (Go.Operand.const (Go.Value.int Go.IntKind.i64 128)) t6
    (Go.Value.int Go.IntKind.i64 128)) (fun t7 w => br t7 (K (Go.Value.int Go.IntKind.i64 3) w) (S.v P (S.nilC a0) (fun t9 w => S.v P (Instr.fieldAt 44 t9 0)
    (fun t10 w => S.v P (Instr.loadAt 32 t10) (fun t11 w => S.v P (Builtin.len_ #[32] 3 #[t11]) (fun t12 w => S.v P (S.bin Go.BinOp.geq 3 (Go.Operand.tmp 12)
    (Go.Operand.const (Go.Value.int Go.IntKind.i64 16)) t12 (Go.Value.int Go.IntKind.i64 16)) (fun t13 w => br t13 (K (Go.Value.int Go.IntKind.i64 6) w) (S.v P
    (S.nilC a0) (fun t16 w => S.v P (Instr.fieldAt 44 t16 0) (fun t17 w => S.v P (Instr.loadAt 32 t17) (fun t18 w => S.v P (Builtin.append_ #[32, 32] 32
    #[(Go.Value.slice none 0 0), t18]) (fun t19 w => S.call P 42 [(Go.Value.slice none 0 0), a1] (fun t21 w => S.v P (Instr.buildSlice 32 1 #[(0, t21)]) (fun
    t22 w => S.v P (Builtin.append_ #[32, 32] 32 #[t19, t22]) (fun t23 w => S.v P (S.nilC a0) (fun t24 w => S.v P (Instr.fieldAt 44 t24 0) (fun t25 w => S.u P
    (Instr.storeAt 32 t25 t23) (fun w => S.call P 43 [a0] (fun t27 w => K (Go.Value.int Go.IntKind.i64 0) w) w) w) w) w) w) w) w) w) w) w) w)) w) w) w) w) w))
    w) w
theorem F29_chk : chkFn Try.f29 (bodyOf Try.f29) [0, 1, 4, 7, 13] [] 2 = true := by kernel_rfl
theorem F29_eq (a0 a1 : Value) (K : Value → World → Prop) (w : World) : F29 Try.prog a0 a1 K w = denFn Try.prog (has ents) [] [0, 1, 4, 7, 13] (bodyOf Try.f29) Try.f29.results.toList [a0, a1] K w := by kernel_rfl
theorem F29_link {a0 a1 : Value} {K : Value → World → Prop} {w : World} (h : F29 Try.prog a0 a1 K w) : S.call Try.prog 29 [a0, a1] K w :=
  calls_of_den entOk mixOk Try.func29 rfl F29_chk (Eq.mp (F29_eq a0 a1 K w) h)
/-- (*lanyard/macro.Queue).Back -/
def F30 (P : Program) (a0 a1 : Value) (K : Value → World → Prop) (w : World) : Prop :=
  S.call P 24 [a0] (fun t8 w => br t8 (K (Go.Value.int Go.IntKind.i64 2) w) (S.v P (S.nilC a0) (fun t10 w => S.v P (Instr.fieldAt 55 t10 1) (fun t11 w => S.v P
    (Instr.loadAt 32 t11) (fun t12 w => S.v P (Builtin.len_ #[32] 3 #[t12]) (fun t13 w => S.v P (S.bin Go.BinOp.sub 3 (Go.Operand.tmp 13) (Go.Operand.const
    (Go.Value.int Go.IntKind.i64 1)) t13 (Go.Value.int Go.IntKind.i64 1)) (fun t14 w => S.v P (Builtin.len_ #[22] 3 #[a1]) (fun t17 w => S.v P (S.bin
    Go.BinOp.eql 3 (Go.Operand.tmp 17) (Go.Operand.const (Go.Value.int Go.IntKind.i64 0)) t17 (Go.Value.int Go.IntKind.i64 0)) (fun t18 w => br t18 (K
    (Go.Value.int Go.IntKind.i64 0) w) (S.v P (S.bin Go.BinOp.geq 3 (Go.Operand.tmp 20) (Go.Operand.const (Go.Value.int Go.IntKind.i64 0)) t14 (Go.Value.int
    Go.IntKind.i64 0)) (fun t21 w => br t21 (S.drawn (fun w => ∃ H : World → Prop, H w ∧ (S.h P H (S.nilC a0) (fun t23 w => S.h P H (Instr.fieldAt 55 t23 1)
    (fun t24 w => S.h P H (Instr.loadAt 32 t24) (fun t25 w => S.h P H (S.nilC a0) (fun t29 w => S.h P H (Instr.fieldAt 55 t29 1) (fun t30 w => S.h P H
    (Instr.loadAt 32 t30) (fun t31 w => S.h P H (Instr.indexAt 32 t31 t14) (fun t33 w => S.h P H (Instr.loadAt 22 t33) (fun t34 w => S.v P (Instr.buildSlice 32
    2 #[(0, a1), (1, t34)]) (fun t35 w => H w ∧ (S.call P 44 [t35] (fun t36 w => H w ∧ (S.h P H (Instr.indexAt 32 t25 t14) (fun t37 w => S.u P (Instr.storeAt
    22 t37 t36) (fun w => K (Go.Value.int Go.IntKind.i64 0) w) w) w)) w)) w) w) w) w) w) w) w) w) w)) w) (S.v P (S.nilC a0) (fun t40 w => S.v P (Instr.fieldAt
    55 t40 2) (fun t41 w => S.v P (Instr.loadAt 3 t41) (fun t42 w => S.v P (S.bin Go.BinOp.gtr 3 (Go.Operand.tmp 42) (Go.Operand.const (Go.Value.int
    Go.IntKind.i64 0)) t42 (Go.Value.int Go.IntKind.i64 0)) (fun t43 w => br t43 (S.call P 45 [a1] (fun t46 w => S.v P (Instr.buildSlice 32 1 #[(0, t46)]) (fun
    t47 w => S.v P (S.nilC a0) (fun t48 w => S.v P (Instr.fieldAt 55 t48 1) (fun t49 w => S.u P (Instr.storeAt 32 t49 t47) (fun w => K (Go.Value.int
    Go.IntKind.i64 0) w) w) w) w) w) w) (S.v P (Builtin.len_ #[22] 3 #[a1]) (fun t52 w => S.call P 23 [a0, t52] (fun t53 w => S.v P (S.bin Go.BinOp.neq 26
    (Go.Operand.tmp 54) (Go.Operand.const (Go.Value.int Go.IntKind.i64 0)) t53 (Go.Value.int Go.IntKind.i64 0)) (fun t55 w => br t55 (K t53 w) (S.v P (S.nilC
    a0) (fun t60 w => S.v P (Instr.fieldAt 55 t60 0) (fun t61 w => S.v P (Instr.loadAt 22 t61) (fun t62 w => S.v P (Instr.buildSlice 32 2 #[(0, a1), (1, t62)])
    (fun t63 w => S.call P 44 [t63] (fun t64 w => S.v P (S.nilC a0) (fun t65 w => S.v P (Instr.fieldAt 55 t65 0) (fun t66 w => S.u P (Instr.storeAt 22 t66 t64)
    (fun w => K (Go.Value.int Go.IntKind.i64 0) w) w) w) w) w) w) w) w) w)) w) w) w)) w) w) w) w)) w)) w) w) w) w) w) w) w)) w
theorem F30_chk : chkFn Try.f30 (bodyOf Try.f30) [0, 1, 4, 5, 6, 8, 15, 19, 38, 55] [(7, { ord := (.step 0 true (.step 1 true (.step 2 true (.step 3 true (.step 4 true (.step 5 true (.step 6 true (.step 7 true (.step 8 true (.step 9 true (.step 10 true (.step 11 true (.step 12 true (.step 13 false (.step 14 false (.step 15 true (.step 16 false .fin))))))))))))))))), flags := [13, 14], held := true, init := true })] 2 = true := by kernel_rfl
theorem F30_eq (a0 a1 : Value) (K : Value → World → Prop) (w : World) : F30 Try.prog a0 a1 K w = denFn Try.prog (has ents) [(7, { ord := (.step 0 true (.step 1 true (.step 2 true (.step 3 true (.step 4 true (.step 5 true (.step 6 true (.step 7 true (.step 8 true (.step 9 true (.step 10 true (.step 11 true (.step 12 true (.step 13 false (.step 14 false (.step 15 true (.step 16 false .fin))))))))))))))))), flags := [13, 14], held := true, init := true })] [0, 1, 4, 5, 6, 8, 15, 19, 38, 55] (bodyOf Try.f30) Try.f30.results.toList [a0, a1] K w := by kernel_rfl
theorem F30_link {a0 a1 : Value} {K : Value → World → Prop} {w : World} (h : F30 Try.prog a0 a1 K w) : S.call Try.prog 30 [a0, a1] K w :=
  calls_of_den entOk mixOk Try.func30 rfl F30_chk (Eq.mp (F30_eq a0 a1 K w) h)
/-- (*lanyard/lanyardref22.Queue).Back -/
def F31 (P : Program) (a0 a1 : Value) (K : Value → World → Prop) (w : World) : Prop :=
  S.v P (S.nilC a0) (fun t7 w => S.v P (Instr.fieldAt 44 t7 0) (fun t8 w => S.v P (Instr.loadAt 32 t8) (fun t9 w => S.v P (Builtin.len_ #[32] 3 #[t9]) (fun t10 w
    => S.v P (S.bin Go.BinOp.gtr 3 (Go.Operand.tmp 11) (Go.Operand.const (Go.Value.int Go.IntKind.i64 0)) t10 (Go.Value.int Go.IntKind.i64 0)) (fun t12 w => br
    t12 (S.drawn (fun w => ∃ H : World → Prop, H w ∧ (S.h P H (S.nilC a0) (fun t14 w => S.h P H (Instr.fieldAt 44 t14 0) (fun t15 w => S.h P H (Instr.loadAt 32
    t15) (fun t16 w => S.h P H (S.bin Go.BinOp.sub 3 (Go.Operand.tmp 17) (Go.Operand.const (Go.Value.int Go.IntKind.i64 1)) t10 (Go.Value.int Go.IntKind.i64
    1)) (fun t18 w => S.h P H (S.nilC a0) (fun t21 w => S.h P H (Instr.fieldAt 44 t21 0) (fun t22 w => S.h P H (Instr.loadAt 32 t22) (fun t23 w => S.h P H
    (S.bin Go.BinOp.sub 3 (Go.Operand.tmp 24) (Go.Operand.const (Go.Value.int Go.IntKind.i64 1)) t10 (Go.Value.int Go.IntKind.i64 1)) (fun t25 w => S.h P H
    (Instr.indexAt 32 t23 t25) (fun t26 w => S.h P H (Instr.loadAt 22 t26) (fun t27 w => S.call P 42 [a1, t27] (fun t28 w => H w ∧ (S.h P H (Instr.indexAt 32
    t16 t18) (fun t29 w => S.u P (Instr.storeAt 22 t29 t28) (fun w => K (Go.Value.int Go.IntKind.i64 0) w) w) w)) w) w) w) w) w) w) w) w) w) w) w)) w) (S.v P
    (S.nilC a0) (fun t31 w => S.v P (Instr.fieldAt 44 t31 2) (fun t32 w => S.v P (Instr.loadAt 3 t32) (fun t33 w => S.v P (S.bin Go.BinOp.gtr 3 (Go.Operand.tmp
    33) (Go.Operand.const (Go.Value.int Go.IntKind.i64 0)) t33 (Go.Value.int Go.IntKind.i64 0)) (fun t34 w => br t34 (S.v P (Builtin.len_ #[22] 3 #[a1]) (fun
    t37 w => S.v P (S.bin Go.BinOp.gtr 3 (Go.Operand.tmp 37) (Go.Operand.const (Go.Value.int Go.IntKind.i64 0)) t37 (Go.Value.int Go.IntKind.i64 0)) (fun t38 w
    => br t38 (S.call P 42 [(Go.Value.slice none 0 0), a1] (fun t42 w => S.v P (Instr.buildSlice 32 1 #[(0, t42)]) (fun t43 w => S.v P (S.nilC a0) (fun t44 w
    => S.v P (Instr.fieldAt 44 t44 0) (fun t45 w => S.u P (Instr.storeAt 32 t45 t43) (fun w => K (Go.Value.int Go.IntKind.i64 0) w) w) w) w) w) w) (S.v P
    (Builtin.len_ #[22] 3 #[a1]) (fun t47 w => S.v P (S.nilC a0) (fun t49 w => S.v P (Instr.fieldAt 44 t49 1) (fun t50 w => S.v P (Instr.loadAt 22 t50) (fun
    t51 w => S.v P (Builtin.len_ #[22] 3 #[t51]) (fun t52 w => S.v P (S.bin Go.BinOp.sub 3 (Go.Operand.const (Go.Value.int Go.IntKind.i64 65536))
    (Go.Operand.tmp 52) (Go.Value.int Go.IntKind.i64 65536) t52) (fun t53 w => S.v P (S.bin Go.BinOp.gtr 3 (Go.Operand.tmp 47) (Go.Operand.tmp 53) t47 t53)
    (fun t54 w => br t54 (K (Go.Value.int Go.IntKind.i64 3) w) (S.v P (S.nilC a0) (fun t58 w => S.v P (Instr.fieldAt 44 t58 1) (fun t59 w => S.v P
    (Instr.loadAt 22 t59) (fun t60 w => S.call P 42 [a1, t60] (fun t61 w => S.v P (S.nilC a0) (fun t62 w => S.v P (Instr.fieldAt 44 t62 1) (fun t63 w => S.u P
    (Instr.storeAt 22 t63 t61) (fun w => K (Go.Value.int Go.IntKind.i64 0) w) w) w) w) w) w) w) w)) w) w) w) w) w) w) w)) w) w) (S.v P (Builtin.len_ #[22] 3
    #[a1]) (fun t47_1 w => S.v P (S.nilC a0) (fun t49_1 w => S.v P (Instr.fieldAt 44 t49_1 1) (fun t50_1 w => S.v P (Instr.loadAt 22 t50_1) (fun t51_1 w => S.v
    P (Builtin.len_ #[22] 3 #[t51_1]) (fun t52_1 w => S.v P (S.bin Go.BinOp.sub 3 (Go.Operand.const (Go.Value.int Go.IntKind.i64 65536)) (Go.Operand.tmp 52)
    (Go.Value.int Go.IntKind.i64 65536) t52_1) (fun t53_1 w => S.v P (S.bin Go.BinOp.gtr 3 (Go.Operand.tmp 47) (Go.Operand.tmp 53) t47_1 t53_1) (fun t54_1 w =>
    br t54_1 (K (Go.Value.int Go.IntKind.i64 3) w) (S.v P (S.nilC a0) (fun t58_1 w => S.v P (Instr.fieldAt 44 t58_1 1) (fun t59_1 w => S.v P (Instr.loadAt 22
    t59_1) (fun t60_1 w => S.call P 42 [a1, t60_1] (fun t61_1 w => S.v P (S.nilC a0) (fun t62_1 w => S.v P (Instr.fieldAt 44 t62_1 1) (fun t63_1 w => S.u P
    (Instr.storeAt 22 t63_1 t61_1) (fun w => K (Go.Value.int Go.IntKind.i64 0) w) w) w) w) w) w) w) w)) w) w) w) w) w) w) w)) w) w) w) w)) w) w) w) w) w
theorem F31_chk : chkFn Try.f31 (bodyOf Try.f31) [0, 1, 4, 5, 12, 39, 54] [(3, { ord := (.step 0 true (.step 1 true (.step 2 true (.step 3 true (.step 4 true (.step 5 true (.step 6 true (.step 7 true (.step 8 true (.step 9 true (.step 10 true (.step 11 true (.step 12 true (.step 13 true (.step 14 true (.step 15 false (.step 16 true (.step 17 false .fin)))))))))))))))))), flags := [15], held := true, init := true })] 2 = true := by kernel_rfl
theorem F31_eq (a0 a1 : Value) (K : Value → World → Prop) (w : World) : F31 Try.prog a0 a1 K w = denFn Try.prog (has ents) [(3, { ord := (.step 0 true (.step 1 true (.step 2 true (.step 3 true (.step 4 true (.step 5 true (.step 6 true (.step 7 true (.step 8 true (.step 9 true (.step 10 true (.step 11 true (.step 12 true (.step 13 true (.step 14 true (.step 15 false (.step 16 true (.step 17 false .fin)))))))))))))))))), flags := [15], held := true, init := true })] [0, 1, 4, 5, 12, 39, 54] (bodyOf Try.f31) Try.f31.results.toList [a0, a1] K w := by kernel_rfl
theorem F31_link {a0 a1 : Value} {K : Value → World → Prop} {w : World} (h : F31 Try.prog a0 a1 K w) : S.call Try.prog 31 [a0, a1] K w :=
  calls_of_den entOk mixOk Try.func31 rfl F31_chk (Eq.mp (F31_eq a0 a1 K w) h)
/-- (*lanyard/lanyardref22.Queue).Next -/
def F32 (P : Program) (a0 : Value) (K : Value → World → Prop) (w : World) : Prop :=
  S.seq (fun vs w => S.v P (S.nilC a0) (fun t17 w => S.v P (Instr.fieldAt 44 t17 0) (fun t18 w => S.v P (Instr.loadAt 32 t18) (fun t19 w => S.v P (Builtin.len_
    #[32] 3 #[t19]) (fun t20 w => S.v P (S.bin Go.BinOp.gtr 3 (Go.Operand.tmp 21) (Go.Operand.const (Go.Value.int Go.IntKind.i64 0)) t20 (Go.Value.int
    Go.IntKind.i64 0)) (fun t22 w => br t22 (S.v P (S.nilC a0) (fun t24 w => S.v P (Instr.fieldAt 44 t24 0) (fun t25 w => S.v P (Instr.loadAt 32 t25) (fun t26
    w => S.v P (S.bin Go.BinOp.sub 3 (Go.Operand.tmp 27) (Go.Operand.const (Go.Value.int Go.IntKind.i64 1)) t20 (Go.Value.int Go.IntKind.i64 1)) (fun t28 w =>
    S.v P (Instr.indexAt 32 t26 t28) (fun t29 w => S.v P (Instr.loadAt 22 t29) (fun t30 w => S.v P (Instr.indexAt 22 t30 (Go.Value.int Go.IntKind.i64 0)) (fun
    t31 w => S.v P (Instr.loadAt 5 t31) (fun t32 w => S.drawn (fun w => S.p P (S.nilC a0) (fun t34 w => S.p P (Instr.fieldAt 44 t34 0) (fun t35 w => S.p P
    (Instr.loadAt 32 t35) (fun t36 w => S.p P (S.bin Go.BinOp.sub 3 (Go.Operand.tmp 37) (Go.Operand.const (Go.Value.int Go.IntKind.i64 1)) t20 (Go.Value.int
    Go.IntKind.i64 1)) (fun t38 w => S.p P (S.nilC a0) (fun t40 w => S.p P (Instr.fieldAt 44 t40 0) (fun t41 w => S.p P (Instr.loadAt 32 t41) (fun t42 w => S.p
    P (S.bin Go.BinOp.sub 3 (Go.Operand.tmp 43) (Go.Operand.const (Go.Value.int Go.IntKind.i64 1)) t20 (Go.Value.int Go.IntKind.i64 1)) (fun t44 w => S.p P
    (Instr.indexAt 32 t42 t44) (fun t45 w => S.p P (Instr.loadAt 22 t45) (fun t46 w => S.p P (Instr.sliceAt 22 t46 (some (Go.Value.int Go.IntKind.i64 1)) none
    none) (fun t47 w => S.p P (Instr.indexAt 32 t36 t38) (fun t48 w => S.u P (Instr.storeAt 22 t48 t47) (fun w => S.call P 43 [a0] (fun t50 w => S.v P (S.nilC
    a0) (fun t52 w => S.v P (Instr.fieldAt 44 t52 2) (fun t53 w => S.v P (Instr.loadAt 3 t53) (fun t54 w => S.v P (S.bin Go.BinOp.add 3 (Go.Operand.tmp 54)
    (Go.Operand.const (Go.Value.int Go.IntKind.i64 1)) t54 (Go.Value.int Go.IntKind.i64 1)) (fun t55 w => S.v P (S.nilC a0) (fun t56 w => S.v P (Instr.fieldAt
    44 t56 2) (fun t57 w => S.u P (Instr.storeAt 3 t57 t55) (fun w => K (.tuple #[t32, (Go.Value.bool true), (Go.Value.bool false)]) w) w) w) w) w) w) w) w) w)
    w) w) w) w) w) w) w) w) w) w) w) w) w) w) w) w) w) w) w) w) w) w) (S.v P (S.nilC a0) (fun t60 w => S.v P (Instr.fieldAt 44 t60 1) (fun t61 w => S.v P
    (Instr.loadAt 22 t61) (fun t62 w => S.v P (Builtin.len_ #[22] 3 #[t62]) (fun t63 w => S.v P (S.bin Go.BinOp.eql 3 (Go.Operand.tmp 63) (Go.Operand.const
    (Go.Value.int Go.IntKind.i64 0)) t63 (Go.Value.int Go.IntKind.i64 0)) (fun t64 w => br t64 (K (.tuple #[(Go.Value.int Go.IntKind.u8 0), (Go.Value.bool
    false), (Go.Value.bool false)]) w) (S.v P (S.nilC a0) (fun t66 w => S.v P (Instr.fieldAt 44 t66 1) (fun t67 w => S.v P (Instr.loadAt 22 t67) (fun t68 w =>
    S.v P (Instr.indexAt 22 t68 (Go.Value.int Go.IntKind.i64 0)) (fun t69 w => S.v P (Instr.loadAt 5 t69) (fun t70 w => S.v P (S.nilC a0) (fun t73 w => S.v P
    (Instr.fieldAt 44 t73 1) (fun t74 w => S.v P (Instr.loadAt 22 t74) (fun t75 w => S.v P (Instr.sliceAt 22 t75 (some (Go.Value.int Go.IntKind.i64 1)) none
    none) (fun t76 w => S.v P (S.nilC a0) (fun t77 w => S.v P (Instr.fieldAt 44 t77 1) (fun t78 w => S.u P (Instr.storeAt 22 t78 t76) (fun w => S.v P (S.nilC
    a0) (fun t80 w => S.v P (Instr.fieldAt 44 t80 2) (fun t81 w => S.u P (Instr.storeAt 3 t81 (Go.Value.int Go.IntKind.i64 0)) (fun w => K (.tuple #[t70,
    (Go.Value.bool true), (Go.Value.bool true)]) w) w) w) w) w) w) w) w) w) w) w) w) w) w) w) w)) w) w) w) w) w)) w) w) w) w) w) (fun J => S.v P (S.nilC a0)
    (fun t9 w => S.v P (Instr.fieldAt 44 t9 2) (fun t10 w => S.v P (Instr.loadAt 3 t10) (fun t11 w => S.v P (S.bin Go.BinOp.geq 3 (Go.Operand.tmp 11)
    (Go.Operand.const (Go.Value.int Go.IntKind.i64 256)) t11 (Go.Value.int Go.IntKind.i64 256)) (fun t12 w => br t12 (S.v P (S.nilC a0) (fun t14 w => S.v P
    (Instr.fieldAt 44 t14 0) (fun t15 w => S.u P (Instr.storeAt 32 t15 (Go.Value.slice none 0 0)) (fun w => J [t12] w) w) w) w) (J [t12] w)) w) w) w) w)
theorem F32_chk : chkFn Try.f32 (bodyOf Try.f32) [0, 2, 3, 4, 5, 6, 7, 12, 22, 64] [(6, { ord := (.step 0 true (.step 1 true (.step 2 true (.step 3 true (.step 4 true (.step 5 true (.step 6 true (.step 7 true (.step 8 true (.step 9 true (.step 10 true (.step 11 true (.step 12 true (.step 13 true (.step 14 true (.step 15 true (.step 16 false .fin))))))))))))))))), flags := [], held := false, init := true })] 1 = true := by kernel_rfl
theorem F32_eq (a0 : Value) (K : Value → World → Prop) (w : World) : F32 Try.prog a0 K w = denFn Try.prog (has ents) [(6, { ord := (.step 0 true (.step 1 true (.step 2 true (.step 3 true (.step 4 true (.step 5 true (.step 6 true (.step 7 true (.step 8 true (.step 9 true (.step 10 true (.step 11 true (.step 12 true (.step 13 true (.step 14 true (.step 15 true (.step 16 false .fin))))))))))))))))), flags := [], held := false, init := true })] [0, 2, 3, 4, 5, 6, 7, 12, 22, 64] (bodyOf Try.f32) Try.f32.results.toList [a0] K w := by kernel_rfl
theorem F32_link {a0 : Value} {K : Value → World → Prop} {w : World} (h : F32 Try.prog a0 K w) : S.call Try.prog 32 [a0] K w :=
  calls_of_den entOk mixOk Try.func32 rfl F32_chk (Eq.mp (F32_eq a0 K w) h)
/-- (*lanyard/macro.Queue).Drop -/
def F33 (P : Program) (a0 : Value) (K : Value → World → Prop) (w : World) : Prop :=
  S.call P 24 [a0] (fun t5 w => br t5 (K (Go.Value.int Go.IntKind.i64 0) w) (S.drawn (fun w => ∃ H : World → Prop, H w ∧ (S.h P H (S.nilC a0) (fun t9 w => S.h P
    H (Instr.fieldAt 55 t9 0) (fun t10 w => S.h P H (Instr.loadAt 22 t10) (fun t11 w => S.h P H (Builtin.len_ #[22] 3 #[t11]) (fun t12 w => S.call P 12 [a0]
    (fun t7 w => H w ∧ (S.h P H (S.bin Go.BinOp.sub 3 (Go.Operand.tmp 7) (Go.Operand.tmp 12) t7 t12) (fun t13 w => S.v P (S.nilC a0) (fun t15 w => S.v P
    (Instr.fieldAt 55 t15 1) (fun t16 w => S.u P (Instr.storeAt 32 t16 (Go.Value.slice none 0 0)) (fun w => K t13 w) w) w) w) w)) w) w) w) w) w)) w)) w
theorem F33_chk : chkFn Try.f33 (bodyOf Try.f33) [0, 2, 3, 5] [(3, { ord := (.step 0 true (.step 2 true (.step 3 true (.step 4 true (.step 5 true (.step 6 true (.step 1 false (.step 7 true (.step 8 true .fin))))))))), flags := [1], held := true, init := true })] 1 = true := by kernel_rfl
theorem F33_eq (a0 : Value) (K : Value → World → Prop) (w : World) : F33 Try.prog a0 K w = denFn Try.prog (has ents) [(3, { ord := (.step 0 true (.step 2 true (.step 3 true (.step 4 true (.step 5 true (.step 6 true (.step 1 false (.step 7 true (.step 8 true .fin))))))))), flags := [1], held := true, init := true })] [0, 2, 3, 5] (bodyOf Try.f33) Try.f33.results.toList [a0] K w := by kernel_rfl
theorem F33_link {a0 : Value} {K : Value → World → Prop} {w : World} (h : F33 Try.prog a0 K w) : S.call Try.prog 33 [a0] K w :=
  calls_of_den entOk mixOk Try.func33 rfl F33_chk (Eq.mp (F33_eq a0 K w) h)
/-- (*lanyard/lanyardref22.Queue).Drop -/
def F34 (P : Program) (a0 : Value) (K : Value → World → Prop) (w : World) : Prop :=
  S.drawn (fun w => ∃ H : World → Prop, H w ∧ (S.h P H (S.nilC a0) (fun t7 w => S.h P H (Instr.fieldAt 44 t7 1) (fun t8 w => S.h P H (Instr.loadAt 22 t8) (fun t9
    w => S.h P H (Builtin.len_ #[22] 3 #[t9]) (fun t10 w => S.call P 21 [a0] (fun t5 w => H w ∧ (S.h P H (S.bin Go.BinOp.sub 3 (Go.Operand.tmp 5)
    (Go.Operand.tmp 10) t5 t10) (fun t11 w => S.v P (S.nilC a0) (fun t13 w => S.v P (Instr.fieldAt 44 t13 0) (fun t14 w => S.u P (Instr.storeAt 32 t14
    (Go.Value.slice none 0 0)) (fun w => K t11 w) w) w) w) w)) w) w) w) w) w)) w
theorem F34_chk : chkFn Try.f34 (bodyOf Try.f34) [0, 2, 3] [(1, { ord := (.step 0 true (.step 2 true (.step 3 true (.step 4 true (.step 5 true (.step 6 true (.step 1 false (.step 7 true (.step 8 true .fin))))))))), flags := [1], held := true, init := true })] 1 = true := by kernel_rfl
theorem F34_eq (a0 : Value) (K : Value → World → Prop) (w : World) : F34 Try.prog a0 K w = denFn Try.prog (has ents) [(1, { ord := (.step 0 true (.step 2 true (.step 3 true (.step 4 true (.step 5 true (.step 6 true (.step 1 false (.step 7 true (.step 8 true .fin))))))))), flags := [1], held := true, init := true })] [0, 2, 3] (bodyOf Try.f34) Try.f34.results.toList [a0] K w := by kernel_rfl
theorem F34_link {a0 : Value} {K : Value → World → Prop} {w : World} (h : F34 Try.prog a0 K w) : S.call Try.prog 34 [a0] K w :=
  calls_of_den entOk mixOk Try.func34 rfl F34_chk (Eq.mp (F34_eq a0 K w) h)
/-- (*lanyard/macro.Queue).Clone -/
def F35 (P : Program) (a0 : Value) (K : Value → World → Prop) (w : World) : Prop :=
  S.call P 24 [a0] (fun t7 w => br t7 (K (Go.Value.pointer none) w) (S.drawn (fun w => ∃ H : World → Prop, H w ∧ (S.h P H (S.nilC a0) (fun t9 w => S.h P H
    (Instr.fieldAt 55 t9 0) (fun t10 w => S.h P H (Instr.loadAt 22 t10) (fun t11 w => S.h P H (S.nilC a0) (fun t14 w => S.h P H (Instr.fieldAt 55 t14 2) (fun
    t15 w => S.h P H (Instr.loadAt 3 t15) (fun t16 w => S.call P 45 [t11] (fun t12 w => H w ∧ (S.h P H (Instr.build 55 #[(0, t12), (2, t16), (3, (Go.Value.bool
    true))]) (fun t17 w => S.v P (Instr.box 55 t17) (fun t18 w => H w ∧ (S.v P (S.nilC a0) (fun t20 w => S.v P (Instr.fieldAt 55 t20 1) (fun t21 w => S.v P
    (Instr.loadAt 32 t21) (fun t22 w => S.v P (Builtin.len_ #[32] 3 #[t22]) (fun t23 w => S.loop (fun I => ∀ (x5 : Value) (x24 : Value) (x25 : Value) (w :
    World), (S.v P (S.bin Go.BinOp.lss 3 (Go.Operand.tmp 24) (Go.Operand.tmp 23) x24 t23) (fun t25 w => br t25 (S.v P (Instr.indexAt 32 t22 x24) (fun t26 w =>
    S.v P (Instr.loadAt 22 t26) (fun t27 w => S.drawn (fun w => ∃ H_1 : World → Prop, H_1 w ∧ (S.h P H_1 (S.nilC t18) (fun t30 w => S.h P H_1 (Instr.fieldAt 55
    t30 1) (fun t31 w => S.h P H_1 (Instr.loadAt 32 t31) (fun t32 w => S.call P 45 [t27] (fun t34 w => H_1 w ∧ (S.v P (Instr.buildSlice 32 1 #[(0, t34)]) (fun
    t35 w => H_1 w ∧ (S.v P (Builtin.append_ #[32, 32] 32 #[t32, t35]) (fun t36 w => H_1 w ∧ (S.v P (S.nilC t18) (fun t37 w => S.v P (Instr.fieldAt 55 t37 1)
    (fun t38 w => S.u P (Instr.storeAt 32 t38 t36) (fun w => S.v P (S.bin Go.BinOp.add 3 (Go.Operand.tmp 24) (Go.Operand.const (Go.Value.int Go.IntKind.i64 1))
    x24 (Go.Value.int Go.IntKind.i64 1)) (fun t39 w => I [t27, t39, t25] w) w) w) w) w)) w)) w)) w) w) w) w)) w) w) w) (K t18 w)) w) → I [x5, x24, x25] w)
    [undef, (Go.Value.int Go.IntKind.i64 0), undef] w) w) w) w) w)) w) w)) w) w) w) w) w) w) w)) w)) w
theorem F35_chk : chkFn Try.f35 (bodyOf Try.f35) [0, 2, 3, 5, 7, 22, 23, 24, 25] [(3, { ord := (.step 0 true (.step 1 true (.step 2 true (.step 3 true (.step 5 true (.step 6 true (.step 7 true (.step 8 true (.step 4 false (.step 9 true (.step 10 false (.step 11 true .fin)))))))))))), flags := [4, 10], held := true, init := true }), (7, { ord := (.step 0 true (.step 1 true (.step 2 true (.step 3 true (.step 4 true (.step 5 true (.step 6 false (.step 7 false (.step 8 false (.step 9 false (.step 10 false (.step 11 false .fin)))))))))))), flags := [6, 7, 8], held := true, init := true })] 1 = true := by kernel_rfl
theorem F35_eq (a0 : Value) (K : Value → World → Prop) (w : World) : F35 Try.prog a0 K w = denFn Try.prog (has ents) [(3, { ord := (.step 0 true (.step 1 true (.step 2 true (.step 3 true (.step 5 true (.step 6 true (.step 7 true (.step 8 true (.step 4 false (.step 9 true (.step 10 false (.step 11 true .fin)))))))))))), flags := [4, 10], held := true, init := true }), (7, { ord := (.step 0 true (.step 1 true (.step 2 true (.step 3 true (.step 4 true (.step 5 true (.step 6 false (.step 7 false (.step 8 false (.step 9 false (.step 10 false (.step 11 false .fin)))))))))))), flags := [6, 7, 8], held := true, init := true })] [0, 2, 3, 5, 7, 22, 23, 24, 25] (bodyOf Try.f35) Try.f35.results.toList [a0] K w := by kernel_rfl
theorem F35_link {a0 : Value} {K : Value → World → Prop} {w : World} (h : F35 Try.prog a0 K w) : S.call Try.prog 35 [a0] K w :=
  calls_of_den entOk mixOk Try.func35 rfl F35_chk (Eq.mp (F35_eq a0 K w) h)
/-- (*lanyard/macro.Recorder).Clone -/
def F36 (P : Program) (a0 : Value) (K : Value → World → Prop) (w : World) : Prop :=
  S.call P 25 [a0] (fun t5 w => br t5 (K (Go.Value.pointer none) w) (S.v P (S.nilC a0) (fun t7 w => S.v P (Instr.loadAt 58 t7) (fun t8 w => S.v P (Instr.alloc 58
    true (.tuple #[])) (fun t3 w => S.u P (Instr.storeAt 58 t3 t8) (fun w => S.v P (S.nilC a0) (fun t10 w => S.v P (Instr.fieldAt 58 t10 0) (fun t11 w => S.v P
    (Instr.loadAt 22 t11) (fun t12 w => S.call P 45 [t12] (fun t13 w => S.v P (Instr.fieldAt 58 t3 0) (fun t14 w => S.u P (Instr.storeAt 22 t14 t13) (fun w =>
    K t3 w) w) w) w) w) w) w) w) w) w) w)) w
theorem F36_chk : chkFn Try.f36 (bodyOf Try.f36) [0, 2, 3, 5] [] 1 = true := by kernel_rfl
theorem F36_eq (a0 : Value) (K : Value → World → Prop) (w : World) : F36 Try.prog a0 K w = denFn Try.prog (has ents) [] [0, 2, 3, 5] (bodyOf Try.f36) Try.f36.results.toList [a0] K w := by kernel_rfl
theorem F36_link {a0 : Value} {K : Value → World → Prop} {w : World} (h : F36 Try.prog a0 K w) : S.call Try.prog 36 [a0] K w :=
  calls_of_den entOk mixOk Try.func36 rfl F36_chk (Eq.mp (F36_eq a0 K w) h)
/-- (*lanyard/lanyardref22.Recorder).Start -/
def F37 (P : Program) (a0 : Value) (K : Value → World → Prop) (w : World) : Prop :=
  S.v P (S.nilC a0) (fun t4 w => S.v P (Instr.fieldAt 47 t4 0) (fun t5 w => S.v P (Instr.loadAt 4 t5) (fun t6 w => br t6 (K (Go.Value.int Go.IntKind.i64 6) w)
    (S.v P (S.nilC a0) (fun t8 w => S.v P (Instr.fieldAt 47 t8 0) (fun t9 w => S.u P (Instr.storeAt 4 t9 (Go.Value.bool true)) (fun w => S.v P (S.nilC a0) (fun
    t11 w => S.v P (Instr.fieldAt 47 t11 1) (fun t12 w => S.u P (Instr.storeAt 22 t12 (Go.Value.slice none 0 0)) (fun w => K (Go.Value.int Go.IntKind.i64 0) w)
    w) w) w) w) w) w)) w) w) w
theorem F37_chk : chkFn Try.f37 (bodyOf Try.f37) [0, 2, 6] [] 1 = true := by kernel_rfl
theorem F37_eq (a0 : Value) (K : Value → World → Prop) (w : World) : F37 Try.prog a0 K w = denFn Try.prog (has ents) [] [0, 2, 6] (bodyOf Try.f37) Try.f37.results.toList [a0] K w := by kernel_rfl
theorem F37_link {a0 : Value} {K : Value → World → Prop} {w : World} (h : F37 Try.prog a0 K w) : S.call Try.prog 37 [a0] K w :=
  calls_of_den entOk mixOk Try.func37 rfl F37_chk (Eq.mp (F37_eq a0 K w) h)
/-- (*lanyard/lanyardref22.Recorder).End -/
def F38 (P : Program) (a0 : Value) (K : Value → World → Prop) (w : World) : Prop :=
  S.v P (S.nilC a0) (fun t4 w => S.v P (Instr.fieldAt 47 t4 0) (fun t5 w => S.v P (Instr.loadAt 4 t5) (fun t6 w => S.v P (Op.unary Go.UnOp.not t6) (fun t7 w =>
    br t7 (K (Go.Value.int Go.IntKind.i64 6) w) (S.v P (S.nilC a0) (fun t9 w => S.v P (Instr.fieldAt 47 t9 0) (fun t10 w => S.u P (Instr.storeAt 4 t10
    (Go.Value.bool false)) (fun w => S.v P (S.nilC a0) (fun t12 w => S.v P (Instr.fieldAt 47 t12 2) (fun t13 w => S.u P (Instr.storeAt 4 t13 (Go.Value.bool
    true)) (fun w => S.v P (S.nilC a0) (fun t16 w => S.v P (Instr.fieldAt 47 t16 1) (fun t17 w => S.v P (Instr.loadAt 22 t17) (fun t18 w => S.v P (Go.convert
    22 9 t18) (fun t19 w => S.v P (S.nilC a0) (fun t20 w => S.v P (Instr.fieldAt 47 t20 3) (fun t21 w => S.u P (Instr.storeAt 9 t21 t19) (fun w => K
    (Go.Value.int Go.IntKind.i64 0) w) w) w) w) w) w) w) w) w) w) w) w) w) w)) w) w) w) w
theorem F38_chk : chkFn Try.f38 (bodyOf Try.f38) [0, 2, 7] [] 1 = true := by kernel_rfl
theorem F38_eq (a0 : Value) (K : Value → World → Prop) (w : World) : F38 Try.prog a0 K w = denFn Try.prog (has ents) [] [0, 2, 7] (bodyOf Try.f38) Try.f38.results.toList [a0] K w := by kernel_rfl
theorem F38_link {a0 : Value} {K : Value → World → Prop} {w : World} (h : F38 Try.prog a0 K w) : S.call Try.prog 38 [a0] K w :=
  calls_of_den entOk mixOk Try.func38 rfl F38_chk (Eq.mp (F38_eq a0 K w) h)
/-- (*lanyard/lanyardref22.Recorder).Put -/
def F39 (P : Program) (a0 a1 : Value) (K : Value → World → Prop) (w : World) : Prop :=
  S.v P (S.nilC a0) (fun t6 w => S.v P (Instr.fieldAt 47 t6 0) (fun t7 w => S.v P (Instr.loadAt 4 t7) (fun t8 w => S.v P (Op.unary Go.UnOp.not t8) (fun t9 w =>
    br t9 (K (Go.Value.int Go.IntKind.i64 6) w) (S.v P (Builtin.len_ #[22] 3 #[a1]) (fun t11 w => S.v P (S.nilC a0) (fun t13 w => S.v P (Instr.fieldAt 47 t13
    1) (fun t14 w => S.v P (Instr.loadAt 22 t14) (fun t15 w => S.v P (Builtin.len_ #[22] 3 #[t15]) (fun t16 w => S.v P (S.bin Go.BinOp.sub 3 (Go.Operand.const
    (Go.Value.int Go.IntKind.i64 128)) (Go.Operand.tmp 16) (Go.Value.int Go.IntKind.i64 128) t16) (fun t17 w => S.v P (S.bin Go.BinOp.gtr 3 (Go.Operand.tmp 11)
    (Go.Operand.tmp 17) t11 t17) (fun t18 w => br t18 (S.v P (S.nilC a0) (fun t20 w => S.v P (Instr.fieldAt 47 t20 0) (fun t21 w => S.u P (Instr.storeAt 4 t21
    (Go.Value.bool false)) (fun w => K (Go.Value.int Go.IntKind.i64 3) w) w) w) w) (S.v P (S.nilC a0) (fun t24 w => S.v P (Instr.fieldAt 47 t24 1) (fun t25 w
    => S.v P (Instr.loadAt 22 t25) (fun t26 w => S.call P 42 [t26, a1] (fun t28 w => S.v P (S.nilC a0) (fun t29 w => S.v P (Instr.fieldAt 47 t29 1) (fun t30 w
    => S.u P (Instr.storeAt 22 t30 t28) (fun w => K (Go.Value.int Go.IntKind.i64 0) w) w) w) w) w) w) w) w)) w) w) w) w) w) w) w)) w) w) w) w
theorem F39_chk : chkFn Try.f39 (bodyOf Try.f39) [0, 1, 4, 9, 18] [] 2 = true := by kernel_rfl
theorem F39_eq (a0 a1 : Value) (K : Value → World → Prop) (w : World) : F39 Try.prog a0 a1 K w = denFn Try.prog (has ents) [] [0, 1, 4, 9, 18] (bodyOf Try.f39) Try.f39.results.toList [a0, a1] K w := by kernel_rfl
theorem F39_link {a0 a1 : Value} {K : Value → World → Prop} {w : World} (h : F39 Try.prog a0 a1 K w) : S.call Try.prog 39 [a0, a1] K w :=
  calls_of_den entOk mixOk Try.func39 rfl F39_chk (Eq.mp (F39_eq a0 a1 K w) h)
/-- (*lanyard/macro.Recorder).Cancel -/
def F40 (P : Program) (a0 : Value) (K : Value → World → Prop) (w : World) : Prop :=
  S.call P 27 [a0] (fun t5 w => S.v P (S.bin Go.BinOp.neq 26 (Go.Operand.tmp 6) (Go.Operand.const (Go.Value.int Go.IntKind.i64 0)) t5 (Go.Value.int
    Go.IntKind.i64 0)) (fun t7 w => br t7 (K t5 w) (S.v P (S.nilC a0) (fun t11 w => S.v P (Instr.fieldAt 58 t11 1) (fun t12 w => S.u P (Instr.storeAt 4 t12
    (Go.Value.bool false)) (fun w => S.v P (S.nilC a0) (fun t13 w => S.v P (Instr.fieldAt 58 t13 0) (fun t14 w => S.u P (Instr.storeAt 22 t14 (Go.Value.slice
    none 0 0)) (fun w => K (Go.Value.int Go.IntKind.i64 0) w) w) w) w) w) w) w)) w) w
theorem F40_chk : chkFn Try.f40 (bodyOf Try.f40) [0, 2, 3, 7] [] 1 = true := by kernel_rfl
theorem F40_eq (a0 : Value) (K : Value → World → Prop) (w : World) : F40 Try.prog a0 K w = denFn Try.prog (has ents) [] [0, 2, 3, 7] (bodyOf Try.f40) Try.f40.results.toList [a0] K w := by kernel_rfl
theorem F40_link {a0 : Value} {K : Value → World → Prop} {w : World} (h : F40 Try.prog a0 K w) : S.call Try.prog 40 [a0] K w :=
  calls_of_den entOk mixOk Try.func40 rfl F40_chk (Eq.mp (F40_eq a0 K w) h)
/-- (*lanyard/lanyardref22.Recorder).Cancel -/
def F41 (P : Program) (a0 : Value) (K : Value → World → Prop) (w : World) : Prop :=
  S.v P (S.nilC a0) (fun t4 w => S.v P (Instr.fieldAt 47 t4 0) (fun t5 w => S.v P (Instr.loadAt 4 t5) (fun t6 w => S.v P (Op.unary Go.UnOp.not t6) (fun t7 w =>
    br t7 (K (Go.Value.int Go.IntKind.i64 6) w) (S.v P (S.nilC a0) (fun t9 w => S.v P (Instr.fieldAt 47 t9 0) (fun t10 w => S.u P (Instr.storeAt 4 t10
    (Go.Value.bool false)) (fun w => K (Go.Value.int Go.IntKind.i64 0) w) w) w) w)) w) w) w) w
theorem F41_chk : chkFn Try.f41 (bodyOf Try.f41) [0, 2, 7] [] 1 = true := by kernel_rfl
theorem F41_eq (a0 : Value) (K : Value → World → Prop) (w : World) : F41 Try.prog a0 K w = denFn Try.prog (has ents) [] [0, 2, 7] (bodyOf Try.f41) Try.f41.results.toList [a0] K w := by kernel_rfl
theorem F41_link {a0 : Value} {K : Value → World → Prop} {w : World} (h : F41 Try.prog a0 K w) : S.call Try.prog 41 [a0] K w :=
  calls_of_den entOk mixOk Try.func41 rfl F41_chk (Eq.mp (F41_eq a0 K w) h)
/-- lanyard/lanyardref22.join -/
def F42 (P : Program) (a0 a1 : Value) (K : Value → World → Prop) (w : World) : Prop :=
  S.v P (Builtin.append_ #[22, 22] 22 #[(Go.Value.slice none 0 0), a0]) (fun t6 w => S.v P (Builtin.append_ #[22, 22] 22 #[t6, a1]) (fun t8 w => K t8 w) w) w
theorem F42_chk : chkFn Try.f42 (bodyOf Try.f42) [0, 1, 4] [] 2 = true := by kernel_rfl
theorem F42_eq (a0 a1 : Value) (K : Value → World → Prop) (w : World) : F42 Try.prog a0 a1 K w = denFn Try.prog (has ents) [] [0, 1, 4] (bodyOf Try.f42) Try.f42.results.toList [a0, a1] K w := by kernel_rfl
theorem F42_link {a0 a1 : Value} {K : Value → World → Prop} {w : World} (h : F42 Try.prog a0 a1 K w) : S.call Try.prog 42 [a0, a1] K w :=
  calls_of_den entOk mixOk Try.func42 rfl F42_chk (Eq.mp (F42_eq a0 a1 K w) h)
/-- (*lanyard/lanyardref22.Queue).clean -/
def F43 (P : Program) (a0 : Value) (K : Value → World → Prop) (w : World) : Prop :=
  S.loop (fun I => ∀ (x2 : Value) (x3 : Value) (x10 : Value) (x21 : Value) (w : World), (S.v P (S.nilC a0) (fun t6 w => S.v P (Instr.fieldAt 44 t6 0) (fun t7 w
    => S.v P (Instr.loadAt 32 t7) (fun t8 w => S.v P (Builtin.len_ #[32] 3 #[t8]) (fun t9 w => S.v P (S.bin Go.BinOp.lss 3 (Go.Operand.tmp 4) (Go.Operand.tmp
    9) x3 t9) (fun t10 w => br t10 (S.seq (fun vs w => S.v P (S.bin Go.BinOp.add 3 (Go.Operand.tmp 11) (Go.Operand.const (Go.Value.int Go.IntKind.i64 1)) x3
    (Go.Value.int Go.IntKind.i64 1)) (fun t12 w => I [(nth vs 0), t12, t10, (nth vs 1)] w) w) (fun J => S.v P (S.nilC a0) (fun t14 w => S.v P (Instr.fieldAt 44
    t14 0) (fun t15 w => S.v P (Instr.loadAt 32 t15) (fun t16 w => S.v P (Instr.indexAt 32 t16 x3) (fun t18 w => S.v P (Instr.loadAt 22 t18) (fun t19 w => S.v
    P (Builtin.len_ #[22] 3 #[t19]) (fun t20 w => S.v P (S.bin Go.BinOp.gtr 3 (Go.Operand.tmp 20) (Go.Operand.const (Go.Value.int Go.IntKind.i64 0)) t20
    (Go.Value.int Go.IntKind.i64 0)) (fun t21 w => br t21 (S.v P (S.nilC a0) (fun t24 w => S.v P (Instr.fieldAt 44 t24 0) (fun t25 w => S.v P (Instr.loadAt 32
    t25) (fun t26 w => S.v P (Instr.indexAt 32 t26 x3) (fun t28 w => S.v P (Instr.loadAt 22 t28) (fun t29 w => S.v P (Instr.buildSlice 32 1 #[(0, t29)]) (fun
    t30 w => S.v P (Builtin.append_ #[32, 32] 32 #[x2, t30]) (fun t31 w => J [t31, t21] w) w) w) w) w) w) w) w) (J [x2, t21] w)) w) w) w) w) w) w) w)) (S.v P
    (S.nilC a0) (fun t34 w => S.v P (Instr.fieldAt 44 t34 0) (fun t35 w => S.u P (Instr.storeAt 32 t35 x2) (fun w => K (.tuple #[]) w) w) w) w)) w) w) w) w) w)
    → I [x2, x3, x10, x21] w) [(Go.Value.slice none 0 0), (Go.Value.int Go.IntKind.i64 0), undef, undef] w
theorem F43_chk : chkFn Try.f43 (bodyOf Try.f43) [0, 2, 3, 10, 21] [] 1 = true := by kernel_rfl
theorem F43_eq (a0 : Value) (K : Value → World → Prop) (w : World) : F43 Try.prog a0 K w = denFn Try.prog (has ents) [] [0, 2, 3, 10, 21] (bodyOf Try.f43) Try.f43.results.toList [a0] K w := by kernel_rfl
theorem F43_link {a0 : Value} {K : Value → World → Prop} {w : World} (h : F43 Try.prog a0 K w) : S.call Try.prog 43 [a0] K w :=
  calls_of_den entOk mixOk Try.func43 rfl F43_chk (Eq.mp (F43_eq a0 K w) h)
/-- slices.Concat[[]byte,byte] -/
def F44 (P : Program) (a0 : Value) (K : Value → World → Prop) (w : World) : Prop :=
  S.v P (Builtin.len_ #[32] 3 #[a0]) (fun t10 w => S.loop (fun I => ∀ (x3 : Value) (x5 : Value) (x11 : Value) (x12 : Value) (x20 : Value) (w : World), (S.v P
    (S.bin Go.BinOp.lss 3 (Go.Operand.tmp 11) (Go.Operand.tmp 10) x11 t10) (fun t12 w => br t12 (S.seq (fun vs w => S.v P (S.bin Go.BinOp.add 3 (Go.Operand.tmp
    11) (Go.Operand.const (Go.Value.int Go.IntKind.i64 1)) x11 (Go.Value.int Go.IntKind.i64 1)) (fun t22 w => I [(nth vs 0), (nth vs 1), t22, t12, (nth vs 2)]
    w) w) (fun J => S.v P (Instr.indexAt 32 a0 x11) (fun t13 w => S.v P (Instr.loadAt 22 t13) (fun t14 w => S.v P (Builtin.len_ #[22] 3 #[t14]) (fun t17 w =>
    S.v P (S.bin Go.BinOp.add 3 (Go.Operand.tmp 15) (Go.Operand.tmp 17) x3 t17) (fun t18 w => S.v P (S.bin Go.BinOp.lss 3 (Go.Operand.tmp 19) (Go.Operand.const
    (Go.Value.int Go.IntKind.i64 0)) t18 (Go.Value.int Go.IntKind.i64 0)) (fun t20 w => br t20 (S.v P (Instr.makeInterface 9 (Go.Value.string { data := #[108,
    101, 110, 32, 111, 117, 116, 32, 111, 102, 32, 114, 97, 110, 103, 101] })) (fun t21 w => S.v P (Instr.panic t21) (fun _ w => J [t18, t14, t20] w) w) w) (J
    [t18, t14, t20] w)) w) w) w) w) w)) (S.call P 46 [(Go.Value.slice none 0 0), x3] (fun t24 w => S.v P (Builtin.len_ #[32] 3 #[a0]) (fun t26 w => S.loop (fun
    I_1 => ∀ (x6 : Value) (x8 : Value) (x27 : Value) (x28 : Value) (w : World), (S.v P (S.bin Go.BinOp.lss 3 (Go.Operand.tmp 27) (Go.Operand.tmp 26) x27 t26)
    (fun t28 w => br t28 (S.v P (Instr.indexAt 32 a0 x27) (fun t29 w => S.v P (Instr.loadAt 22 t29) (fun t30 w => S.v P (Builtin.append_ #[22, 22] 22 #[x6,
    t30]) (fun t33 w => S.v P (S.bin Go.BinOp.add 3 (Go.Operand.tmp 27) (Go.Operand.const (Go.Value.int Go.IntKind.i64 1)) x27 (Go.Value.int Go.IntKind.i64 1))
    (fun t34 w => I_1 [t33, t30, t34, t28] w) w) w) w) w) (K x6 w)) w) → I_1 [x6, x8, x27, x28] w) [t24, undef, (Go.Value.int Go.IntKind.i64 0), undef] w) w)
    w)) w) → I [x3, x5, x11, x12, x20] w) [(Go.Value.int Go.IntKind.i64 0), undef, (Go.Value.int Go.IntKind.i64 0), undef, undef] w) w
theorem F44_chk : chkFn Try.f44 (bodyOf Try.f44) [0, 2, 3, 5, 6, 8, 9, 10, 11, 12, 20, 25, 26, 27, 28] [] 1 = true := by kernel_rfl
theorem F44_eq (a0 : Value) (K : Value → World → Prop) (w : World) : F44 Try.prog a0 K w = denFn Try.prog (has ents) [] [0, 2, 3, 5, 6, 8, 9, 10, 11, 12, 20, 25, 26, 27, 28] (bodyOf Try.f44) Try.f44.results.toList [a0] K w := by kernel_rfl
theorem F44_link {a0 : Value} {K : Value → World → Prop} {w : World} (h : F44 Try.prog a0 K w) : S.call Try.prog 44 [a0] K w :=
  calls_of_den entOk mixOk Try.func44 rfl F44_chk (Eq.mp (F44_eq a0 K w) h)
/-- slices.Clone[[]byte,byte] -/
def F45 (P : Program) (a0 : Value) (K : Value → World → Prop) (w : World) : Prop :=
  S.v P (S.bin Go.BinOp.eql 22 (Go.Operand.tmp 3) (Go.Operand.const (Go.Value.slice none 0 0)) a0 (Go.Value.slice none 0 0)) (fun t4 w => br t4 (K
    (Go.Value.slice none 0 0) w) (S.v P (Instr.buildSlice 22 0 #[]) (fun t5 w => S.v P (Builtin.append_ #[22, 22] 22 #[t5, a0]) (fun t7 w => K t7 w) w) w)) w
theorem F45_chk : chkFn Try.f45 (bodyOf Try.f45) [0, 2, 4] [] 1 = true := by kernel_rfl
theorem F45_eq (a0 : Value) (K : Value → World → Prop) (w : World) : F45 Try.prog a0 K w = denFn Try.prog (has ents) [] [0, 2, 4] (bodyOf Try.f45) Try.f45.results.toList [a0] K w := by kernel_rfl
theorem F45_link {a0 : Value} {K : Value → World → Prop} {w : World} (h : F45 Try.prog a0 K w) : S.call Try.prog 45 [a0] K w :=
  calls_of_den entOk mixOk Try.func45 rfl F45_chk (Eq.mp (F45_eq a0 K w) h)
/-- slices.Grow[[]byte,byte] -/
def F46 (P : Program) (a0 a1 : Value) (K : Value → World → Prop) (w : World) : Prop :=
  S.seq (fun vs w => S.seq (fun vs_1 w => K (nth vs_1 0) w) (fun J_1 => S.v P (Builtin.cap_ #[22] 3 #[a0]) (fun t10 w => S.v P (Builtin.len_ #[22] 3 #[a0]) (fun
    t12 w => S.v P (S.bin Go.BinOp.sub 3 (Go.Operand.tmp 10) (Go.Operand.tmp 12) t10 t12) (fun t13 w => S.v P (S.bin Go.BinOp.sub 3 (Go.Operand.tmp 8)
    (Go.Operand.tmp 13) a1 t13) (fun t14 w => S.v P (S.bin Go.BinOp.gtr 3 (Go.Operand.tmp 15) (Go.Operand.const (Go.Value.int Go.IntKind.i64 0)) t14
    (Go.Value.int Go.IntKind.i64 0)) (fun t16 w => br t16 (S.v P (Builtin.cap_ #[22] 3 #[a0]) (fun t19 w => S.v P (Instr.sliceAt 22 a0 none (some t19) none)
    (fun t20 w => S.v P (Builtin.append_ #[22, 3] 22 #[t20, t14]) (fun t22 w => S.v P (Builtin.len_ #[22] 3 #[a0]) (fun t24 w => S.v P (Instr.sliceAt 22 t22
    none (some t24) none) (fun t25 w => J_1 [t25, t14, t16] w) w) w) w) w) w) (J_1 [a0, t14, t16] w)) w) w) w) w) w)) (fun J => S.v P (S.bin Go.BinOp.lss 3
    (Go.Operand.tmp 5) (Go.Operand.const (Go.Value.int Go.IntKind.i64 0)) a1 (Go.Value.int Go.IntKind.i64 0)) (fun t6 w => br t6 (S.v P (Instr.makeInterface 9
    (Go.Value.string { data := #[99, 97, 110, 110, 111, 116, 32, 98, 101, 32, 110, 101, 103, 97, 116, 105, 118, 101] })) (fun t7 w => S.v P (Instr.panic t7)
    (fun _ w => J [t6] w) w) w) (J [t6] w)) w)
theorem F46_chk : chkFn Try.f46 (bodyOf Try.f46) [0, 1, 4, 6, 16] [] 2 = true := by kernel_rfl
theorem F46_eq (a0 a1 : Value) (K : Value → World → Prop) (w : World) : F46 Try.prog a0 a1 K w = denFn Try.prog (has ents) [] [0, 1, 4, 6, 16] (bodyOf Try.f46) Try.f46.results.toList [a0, a1] K w := by kernel_rfl
theorem F46_link {a0 a1 : Value} {K : Value → World → Prop} {w : World} (h : F46 Try.prog a0 a1 K w) : S.call Try.prog 46 [a0, a1] K w :=
  calls_of_den entOk mixOk Try.func46 rfl F46_chk (Eq.mp (F46_eq a0 a1 K w) h)
end Go.Proofs.Ythpbiliajcameaa
