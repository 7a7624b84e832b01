import Derived.Test.YtjaoeipfiodnfaaDoorFn
set_option linter.unusedVariables false
set_option maxRecDepth 100000
namespace Go.Proofs.YtjaoeipfiodnfaaDoor
open Go Go.Fw Go.Proofs
/-- internal/strconv.FormatUint -/
def F35 (P : Program) (a0 a1 : Value) (K : Value → World → Prop) (w : World) : Prop :=
  S.v P (S.bin Go.BinOp.eql 3 (Go.Operand.tmp 9) (Go.Operand.const (Go.Value.int Go.IntKind.i64 10)) a1 (Go.Value.int Go.IntKind.i64 10)) (fun t10 w => br t10
    (S.v P (S.bin Go.BinOp.lss 39 (Go.Operand.tmp 11) (Go.Operand.const (Go.Value.int Go.IntKind.u64 100)) a0 (Go.Value.int Go.IntKind.u64 100)) (fun t12 w =>
    br t12 (S.v P (Go.convert 39 3 a0) (fun t14 w => S.call P 59 [t14] (fun t15 w => K t15 w) w) w) (S.v P (Instr.alloc 117 true (.tuple #[])) (fun t5 w =>
    S.call P 60 [a0] (fun t17 w => S.v P (Instr.sliceAt 117 t5 none (some t17) none) (fun t19 w => S.call P 61 [t19, a0] (fun t21 w => S.v P (Instr.sliceAt 117
    t5 none (some t17) none) (fun t23 w => S.v P (Go.convert 71 9 t23) (fun t24 w => K t24 w) w) w) w) w) w) w)) w) (S.call P 62 [(Go.Value.slice none 0 0),
    a0, a1, (Go.Value.bool false), (Go.Value.bool false)] (fun t28 w => S.v P (Instr.extract t28 0) (fun t29 w => S.v P (Instr.extract t28 1) (fun t30 w => K
    t30 w) w) w) w)) w
theorem F35_chk : chkFn Tryd.f35 (bodyOf Tryd.f35) [0, 1, 4, 5, 6, 8, 10, 12] [] 2 = true := by kernel_rfl
theorem F35_eq (a0 a1 : Value) (K : Value → World → Prop) (w : World) : F35 Tryd.prog a0 a1 K w = denFn Tryd.prog (has ents) [] [0, 1, 4, 5, 6, 8, 10, 12] (bodyOf Tryd.f35) Tryd.f35.results.toList [a0, a1] K w := by kernel_rfl
theorem F35_link {a0 a1 : Value} {K : Value → World → Prop} {w : World} (h : F35 Tryd.prog a0 a1 K w) : S.call Tryd.prog 35 [a0, a1] K w :=
  calls_of_den entOk mixOk Tryd.func35 rfl F35_chk (Eq.mp (F35_eq a0 a1 K w) h)
/-- internal/strconv.formatBits -/
def F62 (P : Program) (a0 a1 a2 a3 a4 : Value) (K : Value → World → Prop) (w : World) : Prop :=
  S.seq (fun vs w => S.v P (Instr.alloc 138 true (.tuple #[])) (fun t12 w => S.seq (fun vs_1 w => S.seq (fun vs_2 w => S.seq (fun vs_3 w => br a4 (S.v P
    (Instr.sliceAt 138 t12 (some (nth vs_3 0)) none none) (fun t97 w => S.v P (Builtin.append_ #[71, 71] 71 #[a0, t97]) (fun t98 w => K (.tuple #[t98,
    (Go.Value.string { data := #[] })]) w) w) w) (S.v P (Instr.sliceAt 138 t12 (some (nth vs_3 0)) none none) (fun t100 w => S.v P (Go.convert 71 9 t100) (fun
    t101 w => K (.tuple #[(Go.Value.slice none 0 0), t101]) w) w) w)) (fun J_3 => br a3 (S.v P (S.bin Go.BinOp.sub 3 (Go.Operand.tmp 90) (Go.Operand.const
    (Go.Value.int Go.IntKind.i64 1)) (nth vs_2 1) (Go.Value.int Go.IntKind.i64 1)) (fun t91 w => S.v P (Instr.indexAt 138 t12 t91) (fun t93 w => S.u P
    (Instr.storeAt 5 t93 (Go.Value.int Go.IntKind.u8 45)) (fun w => J_3 [t91, a3] w) w) w) w) (J_3 [(nth vs_2 1), a3] w))) (fun J_2 => S.call P 83 [a2] (fun
    t34 w => br t34 (S.v P (Go.convert 3 80 a2) (fun t36 w => S.call P 84 [t36] (fun t37 w => S.v P (Go.convert 3 80 t37) (fun t38 w => S.v P (Go.convert 3 39
    a2) (fun t40 w => S.v P (Go.convert 3 80 a2) (fun t42 w => S.v P (S.bin Go.BinOp.sub 80 (Go.Operand.tmp 42) (Go.Operand.const (Go.Value.int Go.IntKind.u64
    1)) t42 (Go.Value.int Go.IntKind.u64 1)) (fun t43 w => S.loop (fun I => ∀ (x1 : Value) (x13 : Value) (x46 : Value) (w : World), (S.v P (S.bin Go.BinOp.geq
    39 (Go.Operand.tmp 44) (Go.Operand.tmp 45) x1 t40) (fun t46 w => br t46 (S.v P (S.bin Go.BinOp.sub 3 (Go.Operand.tmp 47) (Go.Operand.const (Go.Value.int
    Go.IntKind.i64 1)) x13 (Go.Value.int Go.IntKind.i64 1)) (fun t48 w => S.v P (S.bin Go.BinOp.and 80 (Go.Operand.tmp 50) (Go.Operand.tmp 51) x1 t43) (fun t52
    w => S.v P (Instr.index 9 (Go.Value.string { data := #[48, 49, 50, 51, 52, 53, 54, 55, 56, 57, 97, 98, 99, 100, 101, 102, 103, 104, 105, 106, 107, 108,
    109, 110, 111, 112, 113, 114, 115, 116, 117, 118, 119, 120, 121, 122] }) t52) (fun t53 w => S.v P (Instr.indexAt 138 t12 t48) (fun t54 w => S.u P
    (Instr.storeAt 5 t54 t53) (fun w => S.v P (S.bin Go.BinOp.shr 39 (Go.Operand.tmp 55) (Go.Operand.tmp 56) x1 t38) (fun t57 w => I [t57, t48, t46] w) w) w)
    w) w) w) w) (S.v P (S.bin Go.BinOp.sub 3 (Go.Operand.tmp 58) (Go.Operand.const (Go.Value.int Go.IntKind.i64 1)) x13 (Go.Value.int Go.IntKind.i64 1)) (fun
    t59 w => S.v P (Instr.index 9 (Go.Value.string { data := #[48, 49, 50, 51, 52, 53, 54, 55, 56, 57, 97, 98, 99, 100, 101, 102, 103, 104, 105, 106, 107, 108,
    109, 110, 111, 112, 113, 114, 115, 116, 117, 118, 119, 120, 121, 122] }) x1) (fun t62 w => S.v P (Instr.indexAt 138 t12 t59) (fun t63 w => S.u P
    (Instr.storeAt 5 t63 t62) (fun w => J_2 [x1, t59, t38, t40, t43, undef, undef, t34, t46, undef] w) w) w) w) w)) w) → I [x1, x13, x46] w) [(nth vs_1 0),
    (Go.Value.int Go.IntKind.i64 65), undef] w) w) w) w) w) w) w) (S.v P (Go.convert 3 39 a2) (fun t65 w => S.loop (fun I_1 => ∀ (x1_1 : Value) (x13_1 : Value)
    (x18 : Value) (x68 : Value) (w : World), (S.v P (S.bin Go.BinOp.geq 39 (Go.Operand.tmp 66) (Go.Operand.tmp 67) x1_1 t65) (fun t68 w => br t68 (S.v P (S.bin
    Go.BinOp.sub 3 (Go.Operand.tmp 69) (Go.Operand.const (Go.Value.int Go.IntKind.i64 1)) x13_1 (Go.Value.int Go.IntKind.i64 1)) (fun t70 w => S.v P (S.bin
    Go.BinOp.quo 39 (Go.Operand.tmp 71) (Go.Operand.tmp 72) x1_1 t65) (fun t73 w => S.v P (S.bin Go.BinOp.mul 39 (Go.Operand.tmp 76) (Go.Operand.tmp 77) t73
    t65) (fun t78 w => S.v P (S.bin Go.BinOp.sub 39 (Go.Operand.tmp 75) (Go.Operand.tmp 78) x1_1 t78) (fun t79 w => S.v P (Instr.index 9 (Go.Value.string {
    data := #[48, 49, 50, 51, 52, 53, 54, 55, 56, 57, 97, 98, 99, 100, 101, 102, 103, 104, 105, 106, 107, 108, 109, 110, 111, 112, 113, 114, 115, 116, 117,
    118, 119, 120, 121, 122] }) t79) (fun t80 w => S.v P (Instr.indexAt 138 t12 t70) (fun t81 w => S.u P (Instr.storeAt 5 t81 t80) (fun w => I_1 [t73, t70,
    t73, t68] w) w) w) w) w) w) w) w) (S.v P (S.bin Go.BinOp.sub 3 (Go.Operand.tmp 83) (Go.Operand.const (Go.Value.int Go.IntKind.i64 1)) x13_1 (Go.Value.int
    Go.IntKind.i64 1)) (fun t84 w => S.v P (Instr.index 9 (Go.Value.string { data := #[48, 49, 50, 51, 52, 53, 54, 55, 56, 57, 97, 98, 99, 100, 101, 102, 103,
    104, 105, 106, 107, 108, 109, 110, 111, 112, 113, 114, 115, 116, 117, 118, 119, 120, 121, 122] }) x1_1) (fun t87 w => S.v P (Instr.indexAt 138 t12 t84)
    (fun t88 w => S.u P (Instr.storeAt 5 t88 t87) (fun w => J_2 [x1_1, t84, undef, undef, undef, t65, x18, t34, undef, t68] w) w) w) w) w)) w) → I_1 [x1_1,
    x13_1, x18, x68] w) [(nth vs_1 0), (Go.Value.int Go.IntKind.i64 65), undef, undef] w) w)) w)) (fun J_1 => br a3 (S.v P (Op.unary Go.UnOp.neg a1) (fun t32 w
    => J_1 [t32, a3] w) w) (J_1 [a1, a3] w))) w) (fun J => S.v P (S.bin Go.BinOp.lss 3 (Go.Operand.tmp 19) (Go.Operand.const (Go.Value.int Go.IntKind.i64 2))
    a2 (Go.Value.int Go.IntKind.i64 2)) (fun t20 w => br t20 (S.v P (Instr.makeInterface 9 (Go.Value.string { data := #[115, 116, 114, 99, 111, 110, 118, 58,
    32, 105, 108, 108, 101, 103, 97, 108, 32, 65, 112, 112, 101, 110, 100, 73, 110, 116, 47, 70, 111, 114, 109, 97, 116, 73, 110, 116, 32, 98, 97, 115, 101]
    })) (fun t29 w => S.v P (Instr.panic t29) (fun _ w => J [(Go.Value.bool true)] w) w) w) (S.v P (S.bin Go.BinOp.eql 3 (Go.Operand.tmp 22) (Go.Operand.const
    (Go.Value.int Go.IntKind.i64 10)) a2 (Go.Value.int Go.IntKind.i64 10)) (fun t23 w => br t23 (S.v P (Instr.makeInterface 9 (Go.Value.string { data := #[115,
    116, 114, 99, 111, 110, 118, 58, 32, 105, 108, 108, 101, 103, 97, 108, 32, 65, 112, 112, 101, 110, 100, 73, 110, 116, 47, 70, 111, 114, 109, 97, 116, 73,
    110, 116, 32, 98, 97, 115, 101] })) (fun t29_1 w => S.v P (Instr.panic t29_1) (fun _ w => J [(Go.Value.bool true)] w) w) w) (S.v P (S.bin Go.BinOp.gtr 3
    (Go.Operand.tmp 26) (Go.Operand.const (Go.Value.int Go.IntKind.i64 36)) a2 (Go.Value.int Go.IntKind.i64 36)) (fun t27 w => br t27 (S.v P
    (Instr.makeInterface 9 (Go.Value.string { data := #[115, 116, 114, 99, 111, 110, 118, 58, 32, 105, 108, 108, 101, 103, 97, 108, 32, 65, 112, 112, 101, 110,
    100, 73, 110, 116, 47, 70, 111, 114, 109, 97, 116, 73, 110, 116, 32, 98, 97, 115, 101] })) (fun t29_2 w => S.v P (Instr.panic t29_2) (fun _ w => J [t27] w)
    w) w) (J [t27] w)) w)) w)) w)
theorem F62_chk : chkFn Tryd.f62 (bodyOf Tryd.f62) [0, 1, 2, 3, 4, 10, 11, 12, 13, 14, 15, 16, 17, 18, 28, 30, 34, 46, 68, 89, 94] [] 5 = true := by kernel_rfl
theorem F62_eq (a0 a1 a2 a3 a4 : Value) (K : Value → World → Prop) (w : World) : F62 Tryd.prog a0 a1 a2 a3 a4 K w = denFn Tryd.prog (has ents) [] [0, 1, 2, 3, 4, 10, 11, 12, 13, 14, 15, 16, 17, 18, 28, 30, 34, 46, 68, 89, 94] (bodyOf Tryd.f62) Tryd.f62.results.toList [a0, a1, a2, a3, a4] K w := by kernel_rfl
theorem F62_link {a0 a1 a2 a3 a4 : Value} {K : Value → World → Prop} {w : World} (h : F62 Tryd.prog a0 a1 a2 a3 a4 K w) : S.call Tryd.prog 62 [a0, a1, a2, a3, a4] K w :=
  calls_of_den entOk mixOk Tryd.func62 rfl F62_chk (Eq.mp (F62_eq a0 a1 a2 a3 a4 K w) h)
/-- internal/strconv.isPowerOfTwo -/
def F83 (P : Program) (a0 : Value) (K : Value → World → Prop) (w : World) : Prop :=
  S.v P (S.bin Go.BinOp.sub 3 (Go.Operand.tmp 4) (Go.Operand.const (Go.Value.int Go.IntKind.i64 1)) a0 (Go.Value.int Go.IntKind.i64 1)) (fun t5 w => S.v P (S.bin
    Go.BinOp.and 3 (Go.Operand.tmp 3) (Go.Operand.tmp 5) a0 t5) (fun t6 w => S.v P (S.bin Go.BinOp.eql 3 (Go.Operand.tmp 6) (Go.Operand.const (Go.Value.int
    Go.IntKind.i64 0)) t6 (Go.Value.int Go.IntKind.i64 0)) (fun t7 w => K t7 w) w) w) w
theorem F83_chk : chkFn Tryd.f83 (bodyOf Tryd.f83) [0, 2] [] 1 = true := by kernel_rfl
theorem F83_eq (a0 : Value) (K : Value → World → Prop) (w : World) : F83 Tryd.prog a0 K w = denFn Tryd.prog (has ents) [] [0, 2] (bodyOf Tryd.f83) Tryd.f83.results.toList [a0] K w := by kernel_rfl
theorem F83_link {a0 : Value} {K : Value → World → Prop} {w : World} (h : F83 Tryd.prog a0 K w) : S.call Tryd.prog 83 [a0] K w :=
  calls_of_den entOk mixOk Tryd.func83 rfl F83_chk (Eq.mp (F83_eq a0 K w) h)
/-- math/bits.TrailingZeros -/
def F84 (P : Program) (a0 : Value) (K : Value → World → Prop) (w : World) : Prop :=
  S.call P 99 [a0] (fun t7 w => K t7 w) w
theorem F84_chk : chkFn Tryd.f84 (bodyOf Tryd.f84) [0, 2] [] 1 = true := by kernel_rfl
theorem F84_eq (a0 : Value) (K : Value → World → Prop) (w : World) : F84 Tryd.prog a0 K w = denFn Tryd.prog (has ents) [] [0, 2] (bodyOf Tryd.f84) Tryd.f84.results.toList [a0] K w := by kernel_rfl
theorem F84_link {a0 : Value} {K : Value → World → Prop} {w : World} (h : F84 Tryd.prog a0 K w) : S.call Tryd.prog 84 [a0] K w :=
  calls_of_den entOk mixOk Tryd.func84 rfl F84_chk (Eq.mp (F84_eq a0 K w) h)
/-- math/bits.TrailingZeros64 -/
def F99 (P : Program) (a0 : Value) (K : Value → World → Prop) (w : World) : Prop :=
  S.v P (S.bin Go.BinOp.eql 39 (Go.Operand.tmp 3) (Go.Operand.const (Go.Value.int Go.IntKind.u64 0)) a0 (Go.Value.int Go.IntKind.u64 0)) (fun t4 w => br t4 (K
    (Go.Value.int Go.IntKind.i64 64) w) (S.v P (Op.unary Go.UnOp.neg a0) (fun t7 w => S.v P (S.bin Go.BinOp.and 39 (Go.Operand.tmp 5) (Go.Operand.tmp 7) a0 t7)
    (fun t8 w => S.v P (S.bin Go.BinOp.mul 39 (Go.Operand.tmp 8) (Go.Operand.const (Go.Value.int Go.IntKind.u64 285870213051353865)) t8 (Go.Value.int
    Go.IntKind.u64 285870213051353865)) (fun t9 w => S.v P (S.bin Go.BinOp.shr 39 (Go.Operand.tmp 9) (Go.Operand.const (Go.Value.int Go.IntKind.u64 58)) t9
    (Go.Value.int Go.IntKind.u64 58)) (fun t10 w => S.v P (Instr.indexAt 159 (Go.Value.pointer (some ⟨5, 0, none⟩)) t10) (fun t11 w => S.v P (Instr.loadAt 5
    t11) (fun t12 w => S.v P (Go.convert 5 3 t12) (fun t13 w => K t13 w) w) w) w) w) w) w) w)) w
theorem F99_chk : chkFn Tryd.f99 (bodyOf Tryd.f99) [0, 2, 4] [] 1 = true := by kernel_rfl
theorem F99_eq (a0 : Value) (K : Value → World → Prop) (w : World) : F99 Tryd.prog a0 K w = denFn Tryd.prog (has ents) [] [0, 2, 4] (bodyOf Tryd.f99) Tryd.f99.results.toList [a0] K w := by kernel_rfl
theorem F99_link {a0 : Value} {K : Value → World → Prop} {w : World} (h : F99 Tryd.prog a0 K w) : S.call Tryd.prog 99 [a0] K w :=
  calls_of_den entOk mixOk Tryd.func99 rfl F99_chk (Eq.mp (F99_eq a0 K w) h)
end Go.Proofs.YtjaoeipfiodnfaaDoor
