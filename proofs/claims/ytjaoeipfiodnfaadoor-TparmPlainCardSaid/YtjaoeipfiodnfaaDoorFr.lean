import Derived.Test.YtjaoeipfiodnfaaDoorFn
set_option linter.unusedVariables false
set_option maxRecDepth 100000
namespace Go.Proofs.YtjaoeipfiodnfaaDoor
open Go Go.Fw Go.Proofs
/-- strings.Replace -/
def F27 (P : Program) (a0 a1 a2 a3 : Value) (K : Value → World → Prop) (w : World) : Prop :=
  S.v P (S.bin Go.BinOp.eql 9 (Go.Operand.tmp 16) (Go.Operand.tmp 17) a1 a2) (fun t18 w => br t18 (K a0 w) (S.v P (S.bin Go.BinOp.eql 3 (Go.Operand.tmp 20)
    (Go.Operand.const (Go.Value.int Go.IntKind.i64 0)) a3 (Go.Value.int Go.IntKind.i64 0)) (fun t21 w => br t21 (K a0 w) (S.seq (fun vs w => S.v P (Instr.alloc
    86 true (.tuple #[])) (fun t10 w => S.v P (Builtin.len_ #[9] 3 #[a0]) (fun t39 w => S.v P (Builtin.len_ #[9] 3 #[a2]) (fun t42 w => S.v P (Builtin.len_
    #[9] 3 #[a1]) (fun t44 w => S.v P (S.bin Go.BinOp.sub 3 (Go.Operand.tmp 42) (Go.Operand.tmp 44) t42 t44) (fun t45 w => S.v P (S.bin Go.BinOp.mul 3
    (Go.Operand.tmp 40) (Go.Operand.tmp 45) (nth vs 0) t45) (fun t46 w => S.v P (S.bin Go.BinOp.add 3 (Go.Operand.tmp 39) (Go.Operand.tmp 46) t39 t46) (fun t47
    w => S.call P 38 [t10, t47] (fun t48 w => S.seq (fun vs_1 w => S.v P (Instr.sliceAt 9 a0 (some (nth vs_1 0)) none none) (fun t101 w => S.call P 39 [t10,
    t101] (fun t102 w => S.call P 41 [t10] (fun t103 w => K t103 w) w) w) w) (fun J_1 => S.v P (Builtin.len_ #[9] 3 #[a1]) (fun t50 w => S.v P (S.bin
    Go.BinOp.gtr 3 (Go.Operand.tmp 50) (Go.Operand.const (Go.Value.int Go.IntKind.i64 0)) t50 (Go.Value.int Go.IntKind.i64 0)) (fun t51 w => br t51 (S.loop
    (fun I => ∀ (x11 : Value) (x12 : Value) (x53 : Value) (x54 : Value) (w : World), (S.v P (S.bin Go.BinOp.lss 3 (Go.Operand.tmp 53) (Go.Operand.tmp 52) x53
    (nth vs 0)) (fun t54 w => br t54 (S.v P (Instr.sliceAt 9 a0 (some x11) none none) (fun t58 w => S.call P 49 [t58, a1] (fun t60 w => S.v P (S.bin
    Go.BinOp.add 3 (Go.Operand.tmp 55) (Go.Operand.tmp 60) x11 t60) (fun t61 w => S.v P (Instr.sliceAt 9 a0 (some x11) (some t61) none) (fun t65 w => S.call P
    39 [t10, t65] (fun t66 w => S.call P 39 [t10, a2] (fun t68 w => S.v P (Builtin.len_ #[9] 3 #[a1]) (fun t71 w => S.v P (S.bin Go.BinOp.add 3 (Go.Operand.tmp
    69) (Go.Operand.tmp 71) t61 t71) (fun t72 w => S.v P (S.bin Go.BinOp.add 3 (Go.Operand.tmp 53) (Go.Operand.const (Go.Value.int Go.IntKind.i64 1)) x53
    (Go.Value.int Go.IntKind.i64 1)) (fun t73 w => I [t72, t61, t73, t54] w) w) w) w) w) w) w) w) w) w) (J_1 [x11, x12, undef, undef, t51, (nth vs 0), x53,
    t54, undef, undef, undef] w)) w) → I [x11, x12, x53, x54] w) [(Go.Value.int Go.IntKind.i64 0), undef, (Go.Value.int Go.IntKind.i64 0), undef] w) (S.call P
    39 [t10, a2] (fun t75 w => S.v P (S.bin Go.BinOp.sub 3 (Go.Operand.tmp 76) (Go.Operand.const (Go.Value.int Go.IntKind.i64 1)) (nth vs 0) (Go.Value.int
    Go.IntKind.i64 1)) (fun t77 w => S.loop (fun I_1 => ∀ (x11_1 : Value) (x14 : Value) (x15 : Value) (x78 : Value) (x79 : Value) (w : World), (S.v P (S.bin
    Go.BinOp.lss 3 (Go.Operand.tmp 78) (Go.Operand.tmp 77) x78 t77) (fun t79 w => br t79 (S.v P (Instr.sliceAt 9 a0 (some x11_1) none none) (fun t83 w =>
    S.call P 50 [t83] (fun t84 w => S.v P (Instr.extract t84 0) (fun t85 w => S.v P (Instr.extract t84 1) (fun t86 w => S.v P (S.bin Go.BinOp.add 3
    (Go.Operand.tmp 87) (Go.Operand.tmp 88) x11_1 t86) (fun t89 w => S.v P (Instr.sliceAt 9 a0 (some x11_1) (some t89) none) (fun t93 w => S.call P 39 [t10,
    t93] (fun t94 w => S.call P 39 [t10, a2] (fun t96 w => S.v P (S.bin Go.BinOp.add 3 (Go.Operand.tmp 78) (Go.Operand.const (Go.Value.int Go.IntKind.i64 1))
    x78 (Go.Value.int Go.IntKind.i64 1)) (fun t98 w => I_1 [t89, t86, t89, t98, t79] w) w) w) w) w) w) w) w) w) w) (J_1 [x11_1, undef, x14, x15, t51, undef,
    undef, undef, t77, x78, t79] w)) w) → I_1 [x11_1, x14, x15, x78, x79] w) [(Go.Value.int Go.IntKind.i64 0), undef, undef, (Go.Value.int Go.IntKind.i64 0),
    undef] w) w) w)) w) w)) w) w) w) w) w) w) w) w) (fun J => S.call P 48 [a0, a1] (fun t26 w => S.v P (S.bin Go.BinOp.eql 3 (Go.Operand.tmp 27)
    (Go.Operand.const (Go.Value.int Go.IntKind.i64 0)) t26 (Go.Value.int Go.IntKind.i64 0)) (fun t28 w => br t28 (K a0 w) (S.v P (S.bin Go.BinOp.lss 3
    (Go.Operand.tmp 30) (Go.Operand.const (Go.Value.int Go.IntKind.i64 0)) a3 (Go.Value.int Go.IntKind.i64 0)) (fun t31 w => br t31 (J [t26, (Go.Value.string {
    data := #[] }), t26, t28, (Go.Value.bool true)] w) (S.v P (S.bin Go.BinOp.lss 3 (Go.Operand.tmp 33) (Go.Operand.tmp 34) t26 a3) (fun t35 w => br t35 (J
    [t26, (Go.Value.string { data := #[] }), t26, t28, t35] w) (J [a3, (Go.Value.string { data := #[] }), t26, t28, t35] w)) w)) w)) w) w))) w)) w
theorem F27_chk : chkFn Tryd.f27 (bodyOf Tryd.f27) [0, 1, 2, 3, 8, 9, 10, 11, 12, 14, 15, 22, 28, 36, 51, 52, 53, 54, 77, 78, 79] [] 4 = true := by kernel_rfl
theorem F27_eq (a0 a1 a2 a3 : Value) (K : Value → World → Prop) (w : World) : F27 Tryd.prog a0 a1 a2 a3 K w = denFn Tryd.prog (has ents) [] [0, 1, 2, 3, 8, 9, 10, 11, 12, 14, 15, 22, 28, 36, 51, 52, 53, 54, 77, 78, 79] (bodyOf Tryd.f27) Tryd.f27.results.toList [a0, a1, a2, a3] K w := by kernel_rfl
theorem F27_link {a0 a1 a2 a3 : Value} {K : Value → World → Prop} {w : World} (h : F27 Tryd.prog a0 a1 a2 a3 K w) : S.call Tryd.prog 27 [a0, a1, a2, a3] K w :=
  calls_of_den entOk mixOk Tryd.func27 rfl F27_chk (Eq.mp (F27_eq a0 a1 a2 a3 K w) h)
end Go.Proofs.YtjaoeipfiodnfaaDoor
