import Derived.Test.YtjaoeipfiodnfaaDoorFn
set_option linter.unusedVariables false
set_option maxRecDepth 100000
namespace Go.Proofs.YtjaoeipfiodnfaaDoor
open Go Go.Fw Go.Proofs
/-- lanyard/lanyardlaw04.TparmPlain -/
def F3 (P : Program) (a0 a1 a2 : Value) (K : Value → World → Prop) (w : World) : Prop :=
  S.call P 9 [] (fun t13 w => S.v P (Op.unary Go.UnOp.not t13) (fun t14 w => br t14 (K (Go.Value.bool false) w) (S.call P 10 [a0, (Go.Value.string { data :=
    #[37] }), (Go.Value.string { data := #[] })] (fun t16 w => S.call P 11 [a1] (fun t19 w => S.call P 13 [] (fun t20 w => S.call P 12 [t19, t20, a2] (fun t22
    w => S.v P (Instr.extract t22 0) (fun t23 w => S.v P (Instr.extract t22 1) (fun t24 w => S.v P (Instr.extract t22 2) (fun t25 w => S.v P (S.bin
    Go.BinOp.add 9 (Go.Operand.tmp 27) (Go.Operand.tmp 28) t16 a1) (fun t29 w => S.call P 11 [t29] (fun t30 w => S.call P 13 [] (fun t31 w => S.call P 12 [t30,
    t31, a2] (fun t33 w => S.v P (Instr.extract t33 0) (fun t34 w => S.v P (Instr.extract t33 1) (fun t35 w => S.v P (Instr.extract t33 2) (fun t36 w => S.v P
    (Builtin.len_ #[9] 3 #[t16]) (fun t38 w => S.v P (Builtin.len_ #[9] 3 #[a1]) (fun t40 w => S.v P (S.bin Go.BinOp.add 3 (Go.Operand.tmp 38) (Go.Operand.tmp
    40) t38 t40) (fun t41 w => S.v P (S.bin Go.BinOp.gtr 3 (Go.Operand.tmp 41) (Go.Operand.const (Go.Value.int Go.IntKind.i64 4096)) t41 (Go.Value.int
    Go.IntKind.i64 4096)) (fun t42 w => br t42 (K (Go.Value.bool true) w) (S.v P (Builtin.len_ #[9] 3 #[t16]) (fun t45 w => S.v P (Builtin.len_ #[9] 3 #[t23])
    (fun t47 w => S.v P (S.bin Go.BinOp.sub 3 (Go.Operand.const (Go.Value.int Go.IntKind.i64 16384)) (Go.Operand.tmp 47) (Go.Value.int Go.IntKind.i64 16384)
    t47) (fun t48 w => S.v P (S.bin Go.BinOp.gtr 3 (Go.Operand.tmp 45) (Go.Operand.tmp 48) t45 t48) (fun t49 w => br t49 (K (Go.Value.bool true) w) (S.v P
    (S.bin Go.BinOp.eql 25 (Go.Operand.tmp 51) (Go.Operand.const (Go.Value.int Go.IntKind.i64 0)) t25 (Go.Value.int Go.IntKind.i64 0)) (fun t53 w => br t53
    (S.v P (S.bin Go.BinOp.eql 25 (Go.Operand.tmp 54) (Go.Operand.const (Go.Value.int Go.IntKind.i64 0)) t36 (Go.Value.int Go.IntKind.i64 0)) (fun t55 w => br
    t55 (S.v P (S.bin Go.BinOp.add 9 (Go.Operand.tmp 58) (Go.Operand.tmp 59) t16 t23) (fun t60 w => S.v P (S.bin Go.BinOp.eql 9 (Go.Operand.tmp 57)
    (Go.Operand.tmp 60) t34 t60) (fun t61 w => br t61 (S.v P (S.bin Go.BinOp.eql 3 (Go.Operand.tmp 64) (Go.Operand.const (Go.Value.int Go.IntKind.i64 0)) t35
    (Go.Value.int Go.IntKind.i64 0)) (fun t65 w => K t65 w) w) (K (Go.Value.bool false) w)) w) w) (K (Go.Value.bool false) w)) w) (S.seq (fun vs w => br (nth
    vs 0) (S.v P (S.bin Go.BinOp.eql 25 (Go.Operand.tmp 70) (Go.Operand.tmp 71) t36 t25) (fun t72 w => br t72 (S.v P (Builtin.len_ #[9] 3 #[t16]) (fun t77 w =>
    S.v P (S.bin Go.BinOp.add 3 (Go.Operand.tmp 75) (Go.Operand.tmp 77) t24 t77) (fun t78 w => S.v P (S.bin Go.BinOp.eql 3 (Go.Operand.tmp 74) (Go.Operand.tmp
    78) t35 t78) (fun t79 w => br t79 (S.v P (S.bin Go.BinOp.eql 9 (Go.Operand.tmp 82) (Go.Operand.const (Go.Value.string { data := #[] })) t34
    (Go.Value.string { data := #[] })) (fun t83 w => br t83 (K (Go.Value.bool true) w) (S.v P (S.bin Go.BinOp.eql 25 (Go.Operand.tmp 86) (Go.Operand.const
    (Go.Value.int Go.IntKind.i64 3)) t36 (Go.Value.int Go.IntKind.i64 3)) (fun t87 w => K t87 w) w)) w) (S.v P (S.bin Go.BinOp.eql 25 (Go.Operand.tmp 86)
    (Go.Operand.const (Go.Value.int Go.IntKind.i64 3)) t36 (Go.Value.int Go.IntKind.i64 3)) (fun t87_1 w => K t87_1 w) w)) w) w) w) (S.v P (S.bin Go.BinOp.eql
    25 (Go.Operand.tmp 86) (Go.Operand.const (Go.Value.int Go.IntKind.i64 3)) t36 (Go.Value.int Go.IntKind.i64 3)) (fun t87_2 w => K t87_2 w) w)) w) (S.v P
    (S.bin Go.BinOp.eql 25 (Go.Operand.tmp 51) (Go.Operand.const (Go.Value.int Go.IntKind.i64 3)) t25 (Go.Value.int Go.IntKind.i64 3)) (fun t90 w => br t90
    (S.v P (S.bin Go.BinOp.eql 25 (Go.Operand.tmp 91) (Go.Operand.const (Go.Value.int Go.IntKind.i64 3)) t36 (Go.Value.int Go.IntKind.i64 3)) (fun t92 w => K
    t92 w) w) (S.v P (S.bin Go.BinOp.eql 25 (Go.Operand.tmp 93) (Go.Operand.tmp 94) t36 t25) (fun t95 w => K t95 w) w)) w)) (fun J => S.v P (S.bin Go.BinOp.eql
    25 (Go.Operand.tmp 51) (Go.Operand.const (Go.Value.int Go.IntKind.i64 40)) t25 (Go.Value.int Go.IntKind.i64 40)) (fun t68 w => br t68 (J [t68] w) (S.v P
    (S.bin Go.BinOp.eql 25 (Go.Operand.tmp 51) (Go.Operand.const (Go.Value.int Go.IntKind.i64 41)) t25 (Go.Value.int Go.IntKind.i64 41)) (fun t69 w => J [t69]
    w) w)) w))) w)) w) w) w) w)) w) w) w) w) w) w) w) w) w) w) w) w) w) w) w) w) w) w)) w) w
theorem F3_chk : chkFn Tryd.f3 (bodyOf Tryd.f3) [0, 1, 2, 6, 7, 8, 9, 10, 11, 12, 14, 50, 51, 52, 67, 89] [] 3 = true := by kernel_rfl
theorem F3_eq (a0 a1 a2 : Value) (K : Value → World → Prop) (w : World) : F3 Tryd.prog a0 a1 a2 K w = denFn Tryd.prog (has ents) [] [0, 1, 2, 6, 7, 8, 9, 10, 11, 12, 14, 50, 51, 52, 67, 89] (bodyOf Tryd.f3) Tryd.f3.results.toList [a0, a1, a2] K w := by kernel_rfl
theorem F3_link {a0 a1 a2 : Value} {K : Value → World → Prop} {w : World} (h : F3 Tryd.prog a0 a1 a2 K w) : S.call Tryd.prog 3 [a0, a1, a2] K w :=
  calls_of_den entOk mixOk Tryd.func3 rfl F3_chk (Eq.mp (F3_eq a0 a1 a2 K w) h)
/-- lanyard/lanyardlaw04.TparmChooses -/
def F4 (P : Program) (a0 a1 : Value) (K : Value → World → Prop) (w : World) : Prop :=
  S.call P 9 [] (fun t12 w => S.v P (Op.unary Go.UnOp.not t12) (fun t13 w => br t13 (S.call P 9 [] (fun t19 w => K t19 w) w) (S.v P (Builtin.len_ #[33] 3 #[a1])
    (fun t16 w => S.v P (S.bin Go.BinOp.gtr 3 (Go.Operand.tmp 16) (Go.Operand.const (Go.Value.int Go.IntKind.i64 60)) t16 (Go.Value.int Go.IntKind.i64 60))
    (fun t17 w => br t17 (S.call P 9 [] (fun t19_1 w => K t19_1 w) w) (S.v P (Builtin.len_ #[33] 3 #[a1]) (fun t21 w => S.loop (fun I => ∀ (x1 : Value) (x5 :
    Value) (x6 : Value) (x7 : Value) (x22 : Value) (x23 : Value) (w : World), (S.v P (S.bin Go.BinOp.lss 3 (Go.Operand.tmp 22) (Go.Operand.tmp 21) x22 t21)
    (fun t23 w => br t23 (S.v P (Instr.indexAt 33 a1 x22) (fun t25 w => S.v P (Instr.loadAt 9 t25) (fun t26 w => S.call P 10 [t26, (Go.Value.string { data :=
    #[37] }), (Go.Value.string { data := #[] })] (fun t28 w => S.seq (fun vs w => S.call P 14 [x22] (fun t43 w => S.v P (S.bin Go.BinOp.add 9 (Go.Operand.const
    (Go.Value.string { data := #[37, 112, 49, 37, 123] })) (Go.Operand.tmp 43) (Go.Value.string { data := #[37, 112, 49, 37, 123] }) t43) (fun t44 w => S.v P
    (S.bin Go.BinOp.add 9 (Go.Operand.tmp 44) (Go.Operand.const (Go.Value.string { data := #[125, 37, 61, 37, 116] })) t44 (Go.Value.string { data := #[125,
    37, 61, 37, 116] })) (fun t45 w => S.v P (S.bin Go.BinOp.add 9 (Go.Operand.tmp 45) (Go.Operand.tmp 46) t45 t28) (fun t47 w => S.v P (S.bin Go.BinOp.add 9
    (Go.Operand.tmp 47) (Go.Operand.const (Go.Value.string { data := #[37, 101] })) t47 (Go.Value.string { data := #[37, 101] })) (fun t48 w => S.v P (S.bin
    Go.BinOp.add 9 (Go.Operand.tmp 41) (Go.Operand.tmp 48) x5 t48) (fun t49 w => S.v P (S.bin Go.BinOp.add 3 (Go.Operand.tmp 22) (Go.Operand.const
    (Go.Value.int Go.IntKind.i64 1)) x22 (Go.Value.int Go.IntKind.i64 1)) (fun t50 w => I [(nth vs 0), t49, x22, t28, t50, t23] w) w) w) w) w) w) w) w) (fun J
    => S.drawn (fun w => ∃ H : World → Prop, H w ∧ (S.h P H (Instr.sliceAt 33 x1 none (some x22) none) (fun t31 w => S.h P H (S.bin Go.BinOp.add 3
    (Go.Operand.tmp 36) (Go.Operand.const (Go.Value.int Go.IntKind.i64 1)) x22 (Go.Value.int Go.IntKind.i64 1)) (fun t37 w => S.h P H (Instr.sliceAt 33 x1
    (some t37) none none) (fun t38 w => (S.v P (Builtin.append_ #[33, 33] 33 #[(Go.Value.slice none 0 0), t31]) (fun t32 w => H w ∧ (S.v P (Instr.buildSlice 33
    1 #[(0, t28)]) (fun t34 w => H w ∧ (S.v P (Builtin.append_ #[33, 33] 33 #[t34, t38]) (fun t39 w => H w ∧ (S.v P (Builtin.append_ #[33, 33] 33 #[t32, t39])
    (fun t40 w => H w ∧ (J [t40] w)) w)) w)) w)) w) ∧ (S.v P (Instr.buildSlice 33 1 #[(0, t28)]) (fun t34_1 w => H w ∧ (S.v P (Builtin.append_ #[33, 33] 33
    #[(Go.Value.slice none 0 0), t31]) (fun t32_1 w => H w ∧ (S.v P (Builtin.append_ #[33, 33] 33 #[t34_1, t38]) (fun t39_1 w => H w ∧ (S.v P (Builtin.append_
    #[33, 33] 33 #[t32_1, t39_1]) (fun t40_1 w => H w ∧ (J [t40_1] w)) w)) w)) w)) w)) w) w) w)) w)) w) w) w) (S.v P (S.bin Go.BinOp.add 9 (Go.Operand.tmp 51)
    (Go.Operand.const (Go.Value.string { data := #[110, 111, 110, 101, 37, 59, 33] })) x5 (Go.Value.string { data := #[110, 111, 110, 101, 37, 59, 33] })) (fun
    t52 w => S.v P (Builtin.len_ #[9] 3 #[t52]) (fun t54 w => S.v P (S.bin Go.BinOp.gtr 3 (Go.Operand.tmp 54) (Go.Operand.const (Go.Value.int Go.IntKind.i64
    4096)) t54 (Go.Value.int Go.IntKind.i64 4096)) (fun t55 w => br t55 (K (Go.Value.bool true) w) (S.seq (fun vs_1 w => S.call P 11 [t52] (fun t72 w => S.call
    P 13 [] (fun t73 w => S.v P (Instr.build 36 #[(0, a0)]) (fun t75 w => S.v P (Instr.buildSlice 22 1 #[(0, t75)]) (fun t76 w => S.call P 12 [t72, t73, t76]
    (fun t77 w => S.v P (Instr.extract t77 0) (fun t78 w => S.v P (Instr.extract t77 1) (fun t79 w => S.v P (Instr.extract t77 2) (fun t80 w => S.v P (S.bin
    Go.BinOp.eql 25 (Go.Operand.tmp 81) (Go.Operand.const (Go.Value.int Go.IntKind.i64 0)) t80 (Go.Value.int Go.IntKind.i64 0)) (fun t82 w => br t82 (S.v P
    (S.bin Go.BinOp.eql 9 (Go.Operand.tmp 84) (Go.Operand.tmp 85) t78 (nth vs_1 0)) (fun t86 w => K t86 w) w) (K (Go.Value.bool false) w)) w) w) w) w) w) w) w)
    w) w) (fun J_1 => S.v P (S.bin Go.BinOp.geq 21 (Go.Operand.tmp 56) (Go.Operand.const (Go.Value.int Go.IntKind.i32 0)) a0 (Go.Value.int Go.IntKind.i32 0))
    (fun t57 w => br t57 (S.v P (Go.convert 21 3 a0) (fun t60 w => S.v P (Builtin.len_ #[33] 3 #[x1]) (fun t62 w => S.v P (S.bin Go.BinOp.lss 3 (Go.Operand.tmp
    60) (Go.Operand.tmp 62) t60 t62) (fun t63 w => br t63 (S.v P (Instr.indexAt 33 x1 a0) (fun t67 w => S.v P (Instr.loadAt 9 t67) (fun t68 w => S.v P (S.bin
    Go.BinOp.add 9 (Go.Operand.tmp 68) (Go.Operand.const (Go.Value.string { data := #[33] })) t68 (Go.Value.string { data := #[33] })) (fun t69 w => J_1 [t69,
    t63] w) w) w) w) (J_1 [(Go.Value.string { data := #[110, 111, 110, 101, 33] }), t63] w)) w) w) w) (J_1 [(Go.Value.string { data := #[110, 111, 110, 101,
    33] }), (Go.Value.bool false)] w)) w))) w) w) w)) w) → I [x1, x5, x6, x7, x22, x23] w) [a1, (Go.Value.string { data := #[37, 63] }), undef, undef,
    (Go.Value.int Go.IntKind.i64 0), undef] w) w)) w) w)) w) w
theorem F4_chk : chkFn Tryd.f4 (bodyOf Tryd.f4) [0, 1, 4, 5, 6, 7, 8, 9, 11, 18, 20, 21, 22, 23, 55, 64] [(8, { ord := (.step 0 true (.step 1 true (.step 2 true (.step 4 true (.step 6 true (.step 7 true (.step 8 true (.step 9 true (.fork (.step 3 false (.step 5 false (.step 10 false (.step 11 false (.step 12 true .fin))))) (.step 5 false (.step 3 false (.step 10 false (.step 11 false (.step 12 true .fin)))))))))))))), flags := [3, 5, 10, 11], held := true, init := true })] 2 = true := by kernel_rfl
theorem F4_eq (a0 a1 : Value) (K : Value → World → Prop) (w : World) : F4 Tryd.prog a0 a1 K w = denFn Tryd.prog (has ents) [(8, { ord := (.step 0 true (.step 1 true (.step 2 true (.step 4 true (.step 6 true (.step 7 true (.step 8 true (.step 9 true (.fork (.step 3 false (.step 5 false (.step 10 false (.step 11 false (.step 12 true .fin))))) (.step 5 false (.step 3 false (.step 10 false (.step 11 false (.step 12 true .fin)))))))))))))), flags := [3, 5, 10, 11], held := true, init := true })] [0, 1, 4, 5, 6, 7, 8, 9, 11, 18, 20, 21, 22, 23, 55, 64] (bodyOf Tryd.f4) Tryd.f4.results.toList [a0, a1] K w := by kernel_rfl
theorem F4_link {a0 a1 : Value} {K : Value → World → Prop} {w : World} (h : F4 Tryd.prog a0 a1 K w) : S.call Tryd.prog 4 [a0, a1] K w :=
  calls_of_den entOk mixOk Tryd.func4 rfl F4_chk (Eq.mp (F4_eq a0 a1 K w) h)
/-- lanyard/lanyardlaw04.TparmNumbers -/
def F5 (P : Program) (a0 a1 : Value) (K : Value → World → Prop) (w : World) : Prop :=
  S.call P 9 [] (fun t11 w => S.v P (Op.unary Go.UnOp.not t11) (fun t12 w => br t12 (K (Go.Value.bool false) w) (S.v P (Go.convert 5 3 a1) (fun t14 w => S.call P
    14 [t14] (fun t17 w => S.v P (S.bin Go.BinOp.add 9 (Go.Operand.const (Go.Value.string { data := #[37, 112, 49, 37, 100, 44, 37, 112, 49, 37, 120, 44, 37,
    112, 49, 37] })) (Go.Operand.tmp 17) (Go.Value.string { data := #[37, 112, 49, 37, 100, 44, 37, 112, 49, 37, 120, 44, 37, 112, 49, 37] }) t17) (fun t18 w
    => S.v P (S.bin Go.BinOp.add 9 (Go.Operand.tmp 18) (Go.Operand.const (Go.Value.string { data := #[100] })) t18 (Go.Value.string { data := #[100] })) (fun
    t19 w => S.call P 11 [t19] (fun t20 w => S.call P 13 [] (fun t21 w => S.v P (Instr.build 36 #[(0, a0)]) (fun t23 w => S.v P (Instr.buildSlice 22 1 #[(0,
    t23)]) (fun t24 w => S.call P 12 [t20, t21, t24] (fun t25 w => S.v P (Instr.extract t25 0) (fun t26 w => S.v P (Instr.extract t25 1) (fun t27 w => S.v P
    (Instr.extract t25 2) (fun t28 w => S.v P (Go.convert 21 3 a0) (fun t30 w => S.call P 14 [t30] (fun t31 w => S.v P (S.bin Go.BinOp.add 9 (Go.Operand.tmp
    32) (Go.Operand.const (Go.Value.string { data := #[44] })) t31 (Go.Value.string { data := #[44] })) (fun t33 w => S.v P (Go.convert 21 40 a0) (fun t35 w =>
    S.v P (Go.convert 40 39 t35) (fun t36 w => S.call P 15 [t36, (Go.Value.int Go.IntKind.i64 16)] (fun t37 w => S.v P (S.bin Go.BinOp.add 9 (Go.Operand.tmp
    33) (Go.Operand.tmp 37) t33 t37) (fun t38 w => S.v P (S.bin Go.BinOp.add 9 (Go.Operand.tmp 38) (Go.Operand.const (Go.Value.string { data := #[44] })) t38
    (Go.Value.string { data := #[44] })) (fun t39 w => S.v P (Builtin.len_ #[9] 3 #[t31]) (fun t42 w => S.v P (S.bin Go.BinOp.sub 3 (Go.Operand.tmp 40)
    (Go.Operand.tmp 42) t14 t42) (fun t43 w => S.v P (Builtin.max_ #[3, 3] 3 #[(Go.Value.int Go.IntKind.i64 0), t43]) (fun t44 w => S.call P 16
    [(Go.Value.string { data := #[32] }), t44] (fun t45 w => S.v P (S.bin Go.BinOp.add 9 (Go.Operand.tmp 39) (Go.Operand.tmp 45) t39 t45) (fun t46 w => S.v P
    (S.bin Go.BinOp.add 9 (Go.Operand.tmp 46) (Go.Operand.tmp 47) t46 t31) (fun t48 w => S.v P (S.bin Go.BinOp.eql 25 (Go.Operand.tmp 49) (Go.Operand.const
    (Go.Value.int Go.IntKind.i64 0)) t28 (Go.Value.int Go.IntKind.i64 0)) (fun t50 w => br t50 (S.v P (S.bin Go.BinOp.eql 9 (Go.Operand.tmp 52) (Go.Operand.tmp
    53) t26 t48) (fun t54 w => K t54 w) w) (K (Go.Value.bool false) w)) w) w) w) w) w) w) w) w) w) w) w) w) w) w) w) w) w) w) w) w) w) w) w) w) w) w) w)) w) w
theorem F5_chk : chkFn Tryd.f5 (bodyOf Tryd.f5) [0, 1, 4, 5, 6, 8, 9, 10, 12] [] 2 = true := by kernel_rfl
theorem F5_eq (a0 a1 : Value) (K : Value → World → Prop) (w : World) : F5 Tryd.prog a0 a1 K w = denFn Tryd.prog (has ents) [] [0, 1, 4, 5, 6, 8, 9, 10, 12] (bodyOf Tryd.f5) Tryd.f5.results.toList [a0, a1] K w := by kernel_rfl
theorem F5_link {a0 a1 : Value} {K : Value → World → Prop} {w : World} (h : F5 Tryd.prog a0 a1 K w) : S.call Tryd.prog 5 [a0, a1] K w :=
  calls_of_den entOk mixOk Tryd.func5 rfl F5_chk (Eq.mp (F5_eq a0 a1 K w) h)
/-- lanyard/lanyardlaw04.TparmSums -/
def F6 (P : Program) (a0 a1 : Value) (K : Value → World → Prop) (w : World) : Prop :=
  S.call P 9 [] (fun t11 w => S.v P (Op.unary Go.UnOp.not t11) (fun t12 w => br t12 (K (Go.Value.bool false) w) (S.v P (S.bin Go.BinOp.add 21 (Go.Operand.tmp 13)
    (Go.Operand.tmp 14) a0 a1) (fun t15 w => S.v P (S.bin Go.BinOp.sub 21 (Go.Operand.tmp 16) (Go.Operand.tmp 17) a0 a1) (fun t18 w => S.v P (S.bin
    Go.BinOp.mul 21 (Go.Operand.tmp 19) (Go.Operand.tmp 20) a0 a1) (fun t21 w => S.v P (Instr.buildSlice 43 5 #[(0, t15), (1, t18), (2, t21), (3, (Go.Value.int
    Go.IntKind.i32 0)), (4, (Go.Value.int Go.IntKind.i32 0))]) (fun t22 w => S.seq (fun vs w => S.v P (Instr.buildSlice 33 5 #[(0, (Go.Value.string { data :=
    #[43] })), (1, (Go.Value.string { data := #[45] })), (2, (Go.Value.string { data := #[42] })), (3, (Go.Value.string { data := #[47] })), (4,
    (Go.Value.string { data := #[109] }))]) (fun t41 w => S.v P (Builtin.len_ #[33] 3 #[t41]) (fun t42 w => S.loop (fun I => ∀ (x4 : Value) (x6 : Value) (x7 :
    Value) (x8 : Value) (x10 : Value) (x43 : Value) (x44 : Value) (x74 : Value) (w : World), (S.v P (S.bin Go.BinOp.lss 3 (Go.Operand.tmp 43) (Go.Operand.tmp
    42) x43 t42) (fun t44 w => br t44 (S.v P (Instr.indexAt 33 t41 x43) (fun t46 w => S.v P (Instr.loadAt 9 t46) (fun t47 w => S.v P (S.bin Go.BinOp.add 9
    (Go.Operand.const (Go.Value.string { data := #[37, 112, 49, 37, 112, 50, 37] })) (Go.Operand.tmp 49) (Go.Value.string { data := #[37, 112, 49, 37, 112, 50,
    37] }) t47) (fun t50 w => S.v P (S.bin Go.BinOp.add 9 (Go.Operand.tmp 50) (Go.Operand.const (Go.Value.string { data := #[37, 100] })) t50 (Go.Value.string
    { data := #[37, 100] })) (fun t51 w => S.call P 11 [t51] (fun t52 w => S.call P 13 [] (fun t53 w => S.v P (Instr.build 36 #[(0, a0)]) (fun t55 w => S.v P
    (Instr.build 36 #[(0, a1)]) (fun t57 w => S.v P (Instr.buildSlice 22 2 #[(0, t55), (1, t57)]) (fun t58 w => S.call P 12 [t52, t53, t58] (fun t59 w => S.v P
    (Instr.extract t59 0) (fun t60 w => S.v P (Instr.extract t59 1) (fun t61 w => S.v P (Instr.extract t59 2) (fun t62 w => S.v P (S.bin Go.BinOp.neq 25
    (Go.Operand.tmp 63) (Go.Operand.const (Go.Value.int Go.IntKind.i64 0)) t62 (Go.Value.int Go.IntKind.i64 0)) (fun t64 w => br t64 (K (Go.Value.bool false)
    w) (S.v P (Instr.indexAt 43 t22 x43) (fun t69 w => S.v P (Instr.loadAt 21 t69) (fun t70 w => S.v P (Go.convert 21 3 t70) (fun t71 w => S.call P 14 [t71]
    (fun t72 w => S.v P (S.bin Go.BinOp.neq 9 (Go.Operand.tmp 66) (Go.Operand.tmp 72) t60 t72) (fun t73 w => br t73 (K (Go.Value.bool false) w) (S.v P (S.bin
    Go.BinOp.add 3 (Go.Operand.tmp 43) (Go.Operand.const (Go.Value.int Go.IntKind.i64 1)) x43 (Go.Value.int Go.IntKind.i64 1)) (fun t75 w => I [x4, x43, t47,
    t60, t62, t75, t44, t73] w) w)) w) w) w) w) w)) w) w) w) w) w) w) w) w) w) w) w) w) w) w) (K (Go.Value.bool true) w)) w) → I [x4, x6, x7, x8, x10, x43,
    x44, x74] w) [(Go.Value.bool false), undef, undef, undef, undef, (Go.Value.int Go.IntKind.i64 0), undef, undef] w) w) w) (fun J => S.v P (S.bin
    Go.BinOp.neq 21 (Go.Operand.tmp 23) (Go.Operand.const (Go.Value.int Go.IntKind.i32 0)) a1 (Go.Value.int Go.IntKind.i32 0)) (fun t24 w => br t24 (S.v P
    (Go.convert 21 2 a0) (fun t27 w => S.v P (Go.convert 21 2 a1) (fun t29 w => S.v P (S.bin Go.BinOp.quo 2 (Go.Operand.tmp 27) (Go.Operand.tmp 29) t27 t29)
    (fun t30 w => S.v P (Go.convert 2 21 t30) (fun t31 w => S.v P (Instr.indexAt 43 t22 (Go.Value.int Go.IntKind.i64 3)) (fun t32 w => S.u P (Instr.storeAt 21
    t32 t31) (fun w => S.v P (Go.convert 21 2 a0) (fun t35 w => S.v P (Go.convert 21 2 a1) (fun t37 w => S.v P (S.bin Go.BinOp.rem 2 (Go.Operand.tmp 35)
    (Go.Operand.tmp 37) t35 t37) (fun t38 w => S.v P (Go.convert 2 21 t38) (fun t39 w => S.v P (Instr.indexAt 43 t22 (Go.Value.int Go.IntKind.i64 4)) (fun t40
    w => S.u P (Instr.storeAt 21 t40 t39) (fun w => J [t24] w) w) w) w) w) w) w) w) w) w) w) w) w) (J [t24] w)) w)) w) w) w) w)) w) w
theorem F6_chk : chkFn Tryd.f6 (bodyOf Tryd.f6) [0, 1, 4, 5, 6, 7, 8, 10, 12, 24, 41, 42, 43, 44, 74] [] 2 = true := by kernel_rfl
theorem F6_eq (a0 a1 : Value) (K : Value → World → Prop) (w : World) : F6 Tryd.prog a0 a1 K w = denFn Tryd.prog (has ents) [] [0, 1, 4, 5, 6, 7, 8, 10, 12, 24, 41, 42, 43, 44, 74] (bodyOf Tryd.f6) Tryd.f6.results.toList [a0, a1] K w := by kernel_rfl
theorem F6_link {a0 a1 : Value} {K : Value → World → Prop} {w : World} (h : F6 Tryd.prog a0 a1 K w) : S.call Tryd.prog 6 [a0, a1] K w :=
  calls_of_den entOk mixOk Tryd.func6 rfl F6_chk (Eq.mp (F6_eq a0 a1 K w) h)
/-- lanyard/lanyardlaw04.TparmVars -/
def F7 (P : Program) (a0 a1 a2 : Value) (K : Value → World → Prop) (w : World) : Prop :=
  S.v P (Instr.box 36 a2) (fun t5 w => S.call P 17 [a0] (fun t14 w => S.v P (Instr.extract t14 0) (fun t15 w => S.v P (Instr.extract t14 1) (fun t16 w => S.call
    P 9 [] (fun t17 w => S.v P (Op.unary Go.UnOp.not t17) (fun t18 w => br t18 (K (Go.Value.bool false) w) (S.v P (S.bin Go.BinOp.eql 30 (Go.Operand.tmp 20)
    (Go.Operand.const (Go.Value.pointer none)) t15 (Go.Value.pointer none)) (fun t21 w => br t21 (K (Go.Value.bool false) w) (S.call P 18 [t15, t16] (fun t26 w
    => S.v P (Op.unary Go.UnOp.not t26) (fun t27 w => br t27 (K (Go.Value.bool false) w) (S.call P 19 [t15] (fun t30 w => S.v P (S.bin Go.BinOp.eql 30
    (Go.Operand.tmp 31) (Go.Operand.const (Go.Value.pointer none)) t30 (Go.Value.pointer none)) (fun t32 w => br t32 (K (Go.Value.bool false) w) (S.drawn (fun
    w => ∃ H : World → Prop, H w ∧ (S.h P H (Instr.loadAt 36 t5) (fun t35 w => S.h P H (Instr.loadAt 36 t5) (fun t39 w => S.call P 20 [t15, a1, t35] (fun t36 w
    => H w ∧ (S.call P 21 [t16, a1, t39] (fun t40 w => H w ∧ (S.h P H (S.bin Go.BinOp.neq 25 (Go.Operand.tmp 36) (Go.Operand.tmp 40) t36 t40) (fun t41 w => br
    t41 (K (Go.Value.bool false) w) (S.call P 18 [t15, t16] (fun t45 w => H w ∧ (S.h P H (Op.unary Go.UnOp.not t45) (fun t46 w => br t46 (K (Go.Value.bool
    false) w) (S.call P 17 [a0] (fun t50 w => S.v P (Instr.extract t50 0) (fun t51 w => S.v P (Instr.extract t50 1) (fun t52 w => S.call P 18 [t30, t52] (fun
    t55 w => K t55 w) w) w) w) w)) w)) w)) w)) w)) w) w) w)) w)) w) w)) w) w)) w)) w) w) w) w) w) w
theorem F7_chk : chkFn Tryd.f7 (bodyOf Tryd.f7) [0, 1, 2, 5, 6, 7, 8, 9, 11, 28, 32, 47] [(7, { ord := (.step 0 true (.step 1 true (.step 2 true (.step 4 true (.step 5 true (.step 6 true (.step 3 false (.step 7 false (.step 8 true (.step 9 true (.step 10 true (.step 11 true (.step 12 false (.step 13 true (.step 14 true .fin))))))))))))))), flags := [3, 7, 12], held := true, init := true })] 3 = true := by kernel_rfl
theorem F7_eq (a0 a1 a2 : Value) (K : Value → World → Prop) (w : World) : F7 Tryd.prog a0 a1 a2 K w = denFn Tryd.prog (has ents) [(7, { ord := (.step 0 true (.step 1 true (.step 2 true (.step 4 true (.step 5 true (.step 6 true (.step 3 false (.step 7 false (.step 8 true (.step 9 true (.step 10 true (.step 11 true (.step 12 false (.step 13 true (.step 14 true .fin))))))))))))))), flags := [3, 7, 12], held := true, init := true })] [0, 1, 2, 5, 6, 7, 8, 9, 11, 28, 32, 47] (bodyOf Tryd.f7) Tryd.f7.results.toList [a0, a1, a2] K w := by kernel_rfl
theorem F7_link {a0 a1 a2 : Value} {K : Value → World → Prop} {w : World} (h : F7 Tryd.prog a0 a1 a2 K w) : S.call Tryd.prog 7 [a0, a1, a2] K w :=
  calls_of_den entOk mixOk Tryd.func7 rfl F7_chk (Eq.mp (F7_eq a0 a1 a2 K w) h)
/-- lanyard/lanyardlaw04.TparmNone -/
def F8 (P : Program) (a0 a1 a2 : Value) (K : Value → World → Prop) (w : World) : Prop :=
  S.v P (Instr.box 36 a2) (fun t5 w => S.call P 9 [] (fun t21 w => S.v P (Op.unary Go.UnOp.not t21) (fun t22 w => br t22 (K (Go.Value.bool false) w) (S.v P
    (Instr.build 53 #[]) (fun t23 w => S.v P (Instr.box 53 t23) (fun t24 w => S.v P (Instr.buildSlice 54 2 #[(0, (Go.Value.pointer none)), (1, t24)]) (fun t25
    w => S.v P (Builtin.len_ #[54] 3 #[t25]) (fun t26 w => S.loop (fun I => ∀ (x6 : Value) (x8 : Value) (x9 : Value) (x10 : Value) (x11 : Value) (x12 : Value)
    (x13 : Value) (x27 : Value) (x28 : Value) (x67 : Value) (w : World), (S.v P (S.bin Go.BinOp.lss 3 (Go.Operand.tmp 27) (Go.Operand.tmp 26) x27 t26) (fun t28
    w => br t28 (S.v P (Instr.indexAt 54 t25 x27) (fun t29 w => S.v P (Instr.loadAt 27 t29) (fun t30 w => S.call P 22 [t30] (fun t33 w => S.v P (Instr.extract
    t33 0) (fun t34 w => S.v P (Instr.extract t33 1) (fun t35 w => S.seq (fun vs w => S.v P (S.bin Go.BinOp.neq 3 (Go.Operand.tmp 45) (Go.Operand.const
    (Go.Value.int Go.IntKind.i64 0)) t34 (Go.Value.int Go.IntKind.i64 0)) (fun t46 w => br t46 (K (Go.Value.bool false) w) (S.v P (S.bin Go.BinOp.neq 3
    (Go.Operand.tmp 48) (Go.Operand.const (Go.Value.int Go.IntKind.i64 0)) (nth vs 1) (Go.Value.int Go.IntKind.i64 0)) (fun t49 w => br t49 (K (Go.Value.bool
    false) w) (S.v P (S.bin Go.BinOp.neq 9 (Go.Operand.tmp 52) (Go.Operand.const (Go.Value.string { data := #[] })) (nth vs 0) (Go.Value.string { data := #[]
    })) (fun t53 w => br t53 (K (Go.Value.bool false) w) (S.v P (S.bin Go.BinOp.neq 25 (Go.Operand.tmp 56) (Go.Operand.const (Go.Value.int Go.IntKind.i64 2))
    t35 (Go.Value.int Go.IntKind.i64 2)) (fun t57 w => br t57 (K (Go.Value.bool false) w) (S.v P (S.bin Go.BinOp.neq 25 (Go.Operand.tmp 60) (Go.Operand.const
    (Go.Value.int Go.IntKind.i64 2)) (nth vs 2) (Go.Value.int Go.IntKind.i64 2)) (fun t61 w => br t61 (K (Go.Value.bool false) w) (S.call P 23 [t30] (fun t65 w
    => S.v P (S.bin Go.BinOp.neq 3 (Go.Operand.tmp 65) (Go.Operand.const (Go.Value.int Go.IntKind.i64 0)) t65 (Go.Value.int Go.IntKind.i64 0)) (fun t66 w => br
    t66 (K (Go.Value.bool false) w) (S.v P (S.bin Go.BinOp.add 3 (Go.Operand.tmp 27) (Go.Operand.const (Go.Value.int Go.IntKind.i64 1)) x27 (Go.Value.int
    Go.IntKind.i64 1)) (fun t68 w => I [x6, t30, t34, t35, (nth vs 0), (nth vs 1), (nth vs 2), t68, t28, t66] w) w)) w) w)) w)) w)) w)) w)) w) (fun J =>
    S.drawn (fun w => ∃ H : World → Prop, H w ∧ (S.h P H (Instr.loadAt 36 t5) (fun t39 w => (S.call P 13 [] (fun t38 w => H w ∧ (S.v P (Instr.buildSlice 22 1
    #[(0, t39)]) (fun t40 w => S.call P 12 [t30, t38, t40] (fun t41 w => H w ∧ (S.h P H (Instr.extract t41 0) (fun t42 w => S.h P H (Instr.extract t41 1) (fun
    t43 w => S.h P H (Instr.extract t41 2) (fun t44 w => J [t42, t43, t44] w) w) w) w)) w) w)) w) ∧ (S.v P (Instr.buildSlice 22 1 #[(0, t39)]) (fun t40_1 w =>
    S.call P 13 [] (fun t38_1 w => H w ∧ (S.call P 12 [t30, t38_1, t40_1] (fun t41_1 w => H w ∧ (S.h P H (Instr.extract t41_1 0) (fun t42_1 w => S.h P H
    (Instr.extract t41_1 1) (fun t43_1 w => S.h P H (Instr.extract t41_1 2) (fun t44_1 w => J [t42_1, t43_1, t44_1] w) w) w) w)) w)) w) w)) w)) w)) w) w) w) w)
    w) (S.call P 24 [a0] (fun t71 w => S.v P (Instr.extract t71 0) (fun t72 w => S.v P (Instr.extract t71 1) (fun t73 w => S.v P (Instr.build 61 #[]) (fun t74
    w => S.v P (Instr.box 61 t74) (fun t75 w => S.v P (Instr.buildSlice 62 2 #[(0, (Go.Value.pointer none)), (1, t75)]) (fun t76 w => S.v P (Builtin.len_ #[62]
    3 #[t76]) (fun t77 w => S.loop (fun I_1 => ∀ (x6_1 : Value) (x17 : Value) (x18 : Value) (x19 : Value) (x20 : Value) (x78 : Value) (x79 : Value) (x98 :
    Value) (x134 : Value) (w : World), (S.v P (S.bin Go.BinOp.lss 3 (Go.Operand.tmp 78) (Go.Operand.tmp 77) x78 t77) (fun t79 w => br t79 (S.v P (Instr.indexAt
    62 t76 x78) (fun t80 w => S.v P (Instr.loadAt 30 t80) (fun t81 w => S.call P 25 [t81, a1] (fun t84 w => S.v P (Instr.build 36 #[]) (fun t85 w => S.v P
    (S.bin Go.BinOp.neq 36 (Go.Operand.tmp 84) (Go.Operand.tmp 85) t84 t85) (fun t86 w => br t86 (K (Go.Value.bool false) w) (S.v P (Instr.loadAt 36 t5) (fun
    t90 w => S.call P 20 [t81, a1, t90] (fun t91 w => S.v P (S.bin Go.BinOp.neq 25 (Go.Operand.tmp 91) (Go.Operand.const (Go.Value.int Go.IntKind.i64 2)) t91
    (Go.Value.int Go.IntKind.i64 2)) (fun t92 w => br t92 (K (Go.Value.bool false) w) (S.call P 19 [t81] (fun t96 w => S.v P (S.bin Go.BinOp.neq 30
    (Go.Operand.tmp 96) (Go.Operand.const (Go.Value.pointer none)) t96 (Go.Value.pointer none)) (fun t97 w => br t97 (K (Go.Value.bool false) w) (S.call P 11
    [a0] (fun t101 w => S.call P 12 [t101, t81, (Go.Value.slice none 0 0)] (fun t103 w => S.v P (Instr.extract t103 0) (fun t104 w => S.v P (Instr.extract t103
    1) (fun t105 w => S.v P (Instr.extract t103 2) (fun t106 w => S.v P (S.bin Go.BinOp.neq 9 (Go.Operand.tmp 107) (Go.Operand.const (Go.Value.string { data :=
    #[] })) t104 (Go.Value.string { data := #[] })) (fun t108 w => br t108 (K (Go.Value.bool false) w) (S.v P (S.bin Go.BinOp.neq 25 (Go.Operand.tmp 110)
    (Go.Operand.const (Go.Value.int Go.IntKind.i64 0)) t73 (Go.Value.int Go.IntKind.i64 0)) (fun t111 w => br t111 (S.v P (S.bin Go.BinOp.neq 25
    (Go.Operand.tmp 113) (Go.Operand.tmp 114) t106 t73) (fun t115 w => br t115 (K (Go.Value.bool false) w) (S.v P (S.bin Go.BinOp.neq 3 (Go.Operand.tmp 117)
    (Go.Operand.tmp 118) t105 t72) (fun t119 w => br t119 (K (Go.Value.bool false) w) (S.v P (S.bin Go.BinOp.eql 25 (Go.Operand.tmp 124) (Go.Operand.const
    (Go.Value.int Go.IntKind.i64 0)) t73 (Go.Value.int Go.IntKind.i64 0)) (fun t125 w => br t125 (S.v P (S.bin Go.BinOp.neq 25 (Go.Operand.tmp 127)
    (Go.Operand.const (Go.Value.int Go.IntKind.i64 2)) t106 (Go.Value.int Go.IntKind.i64 2)) (fun t128 w => br t128 (K (Go.Value.bool false) w) (S.v P (S.bin
    Go.BinOp.neq 3 (Go.Operand.tmp 130) (Go.Operand.const (Go.Value.int Go.IntKind.i64 0)) t105 (Go.Value.int Go.IntKind.i64 0)) (fun t131 w => br t131 (K
    (Go.Value.bool false) w) (S.v P (S.bin Go.BinOp.add 3 (Go.Operand.tmp 78) (Go.Operand.const (Go.Value.int Go.IntKind.i64 1)) x78 (Go.Value.int
    Go.IntKind.i64 1)) (fun t135 w => I_1 [x6_1, t81, t104, t105, t106, t135, t79, t97, t131] w) w)) w)) w) (S.v P (S.bin Go.BinOp.add 3 (Go.Operand.tmp 78)
    (Go.Operand.const (Go.Value.int Go.IntKind.i64 1)) x78 (Go.Value.int Go.IntKind.i64 1)) (fun t135_1 w => I_1 [x6_1, t81, t104, t105, t106, t135_1, t79,
    t97, (Go.Value.bool false)] w) w)) w)) w)) w) (S.v P (S.bin Go.BinOp.eql 25 (Go.Operand.tmp 124) (Go.Operand.const (Go.Value.int Go.IntKind.i64 0)) t73
    (Go.Value.int Go.IntKind.i64 0)) (fun t125_1 w => br t125_1 (S.v P (S.bin Go.BinOp.neq 25 (Go.Operand.tmp 127) (Go.Operand.const (Go.Value.int
    Go.IntKind.i64 2)) t106 (Go.Value.int Go.IntKind.i64 2)) (fun t128_1 w => br t128_1 (K (Go.Value.bool false) w) (S.v P (S.bin Go.BinOp.neq 3
    (Go.Operand.tmp 130) (Go.Operand.const (Go.Value.int Go.IntKind.i64 0)) t105 (Go.Value.int Go.IntKind.i64 0)) (fun t131_1 w => br t131_1 (K (Go.Value.bool
    false) w) (S.v P (S.bin Go.BinOp.add 3 (Go.Operand.tmp 78) (Go.Operand.const (Go.Value.int Go.IntKind.i64 1)) x78 (Go.Value.int Go.IntKind.i64 1)) (fun
    t135_2 w => I_1 [x6_1, t81, t104, t105, t106, t135_2, t79, t97, t131_1] w) w)) w)) w) (S.v P (S.bin Go.BinOp.add 3 (Go.Operand.tmp 78) (Go.Operand.const
    (Go.Value.int Go.IntKind.i64 1)) x78 (Go.Value.int Go.IntKind.i64 1)) (fun t135_3 w => I_1 [x6_1, t81, t104, t105, t106, t135_3, t79, t97, (Go.Value.bool
    false)] w) w)) w)) w)) w) w) w) w) w) w)) w) w)) w) w) w)) w) w) w) w) w) (K (Go.Value.bool true) w)) w) → I_1 [x6_1, x17, x18, x19, x20, x78, x79, x98,
    x134] w) [x6, undef, undef, undef, undef, (Go.Value.int Go.IntKind.i64 0), undef, undef, undef] w) w) w) w) w) w) w) w)) w) → I [x6, x8, x9, x10, x11, x12,
    x13, x27, x28, x67] w) [(Go.Value.bool false), undef, undef, undef, undef, undef, undef, (Go.Value.int Go.IntKind.i64 0), undef, undef] w) w) w) w) w)) w)
    w) w
theorem F8_chk : chkFn Tryd.f8 (bodyOf Tryd.f8) [0, 1, 2, 5, 6, 8, 9, 10, 11, 12, 13, 14, 15, 17, 18, 19, 20, 22, 25, 26, 27, 28, 67, 76, 77, 78, 79, 98, 134] [(7, { ord := (.step 0 true (.step 2 true (.fork (.step 1 false (.step 3 false (.step 4 false (.step 5 true (.step 6 true (.step 7 true (.step 8 true (.step 9 true (.step 10 true (.step 11 true .fin)))))))))) (.step 3 false (.step 1 false (.step 4 false (.step 5 true (.step 6 true (.step 7 true (.step 8 true (.step 9 true (.step 10 true (.step 11 true .fin))))))))))))), flags := [1, 4], held := true, init := true })] 3 = true := by kernel_rfl
theorem F8_eq (a0 a1 a2 : Value) (K : Value → World → Prop) (w : World) : F8 Tryd.prog a0 a1 a2 K w = denFn Tryd.prog (has ents) [(7, { ord := (.step 0 true (.step 2 true (.fork (.step 1 false (.step 3 false (.step 4 false (.step 5 true (.step 6 true (.step 7 true (.step 8 true (.step 9 true (.step 10 true (.step 11 true .fin)))))))))) (.step 3 false (.step 1 false (.step 4 false (.step 5 true (.step 6 true (.step 7 true (.step 8 true (.step 9 true (.step 10 true (.step 11 true .fin))))))))))))), flags := [1, 4], held := true, init := true })] [0, 1, 2, 5, 6, 8, 9, 10, 11, 12, 13, 14, 15, 17, 18, 19, 20, 22, 25, 26, 27, 28, 67, 76, 77, 78, 79, 98, 134] (bodyOf Tryd.f8) Tryd.f8.results.toList [a0, a1, a2] K w := by kernel_rfl
theorem F8_link {a0 a1 a2 : Value} {K : Value → World → Prop} {w : World} (h : F8 Tryd.prog a0 a1 a2 K w) : S.call Tryd.prog 8 [a0, a1, a2] K w :=
  calls_of_den entOk mixOk Tryd.func8 rfl F8_chk (Eq.mp (F8_eq a0 a1 a2 K w) h)
/-- lanyard/lanyardlaw04.begun -/
def F9 (P : Program) (K : Value → World → Prop) (w : World) : Prop :=
  S.call P 11 [(Go.Value.string { data := #[27, 91, 37, 105, 37, 112, 49, 37, 100, 59, 37, 112, 50, 37, 100, 72] })] (fun t5 w => S.call P 13 [] (fun t6 w =>
    S.call P 26 [(Go.Value.int Go.IntKind.i64 4)] (fun t7 w => S.call P 26 [(Go.Value.int Go.IntKind.i64 9)] (fun t8 w => S.v P (Instr.buildSlice 22 2 #[(0,
    t7), (1, t8)]) (fun t9 w => S.call P 12 [t5, t6, t9] (fun t10 w => S.v P (Instr.extract t10 0) (fun t11 w => S.v P (Instr.extract t10 1) (fun t12 w => S.v
    P (Instr.extract t10 2) (fun t13 w => S.v P (S.bin Go.BinOp.eql 9 (Go.Operand.tmp 14) (Go.Operand.const (Go.Value.string { data := #[27, 91, 53, 59, 49,
    48, 72] })) t11 (Go.Value.string { data := #[27, 91, 53, 59, 49, 48, 72] })) (fun t15 w => br t15 (S.v P (S.bin Go.BinOp.eql 3 (Go.Operand.tmp 17)
    (Go.Operand.const (Go.Value.int Go.IntKind.i64 0)) t12 (Go.Value.int Go.IntKind.i64 0)) (fun t18 w => br t18 (S.v P (S.bin Go.BinOp.eql 25 (Go.Operand.tmp
    21) (Go.Operand.const (Go.Value.int Go.IntKind.i64 0)) t13 (Go.Value.int Go.IntKind.i64 0)) (fun t22 w => K t22 w) w) (K (Go.Value.bool false) w)) w) (K
    (Go.Value.bool false) w)) w) w) w) w) w) w) w) w) w) w
theorem F9_chk : chkFn Tryd.f9 (bodyOf Tryd.f9) [0, 1, 2, 3] [] 0 = true := by kernel_rfl
theorem F9_eq (K : Value → World → Prop) (w : World) : F9 Tryd.prog K w = denFn Tryd.prog (has ents) [] [0, 1, 2, 3] (bodyOf Tryd.f9) Tryd.f9.results.toList [] K w := by kernel_rfl
theorem F9_link {K : Value → World → Prop} {w : World} (h : F9 Tryd.prog K w) : S.call Tryd.prog 9 [] K w :=
  calls_of_den entOk mixOk Tryd.func9 rfl F9_chk (Eq.mp (F9_eq K w) h)
/-- strings.ReplaceAll -/
def F10 (P : Program) (a0 a1 a2 : Value) (K : Value → World → Prop) (w : World) : Prop :=
  S.call P 27 [a0, a1, a2, (Go.Value.int Go.IntKind.i64 (-1))] (fun t10 w => K t10 w) w
theorem F10_chk : chkFn Tryd.f10 (bodyOf Tryd.f10) [0, 1, 2, 6] [] 3 = true := by kernel_rfl
theorem F10_eq (a0 a1 a2 : Value) (K : Value → World → Prop) (w : World) : F10 Tryd.prog a0 a1 a2 K w = denFn Tryd.prog (has ents) [] [0, 1, 2, 6] (bodyOf Tryd.f10) Tryd.f10.results.toList [a0, a1, a2] K w := by kernel_rfl
theorem F10_link {a0 a1 a2 : Value} {K : Value → World → Prop} {w : World} (h : F10 Tryd.prog a0 a1 a2 K w) : S.call Tryd.prog 10 [a0, a1, a2] K w :=
  calls_of_den entOk mixOk Tryd.func10 rfl F10_chk (Eq.mp (F10_eq a0 a1 a2 K w) h)
/-- lanyard/tparm.New -/
def F11 (P : Program) (a0 : Value) (K : Value → World → Prop) (w : World) : Prop :=
  S.v P (Instr.build 53 #[(0, a0), (4, (Go.Value.bool true))]) (fun t5 w => S.v P (Instr.box 53 t5) (fun t6 w => S.v P (Builtin.len_ #[9] 3 #[a0]) (fun t8 w =>
    S.v P (S.bin Go.BinOp.gtr 3 (Go.Operand.tmp 8) (Go.Operand.const (Go.Value.int Go.IntKind.i64 4096)) t8 (Go.Value.int Go.IntKind.i64 4096)) (fun t9 w => br
    t9 (S.v P (S.nilC t6) (fun t11 w => S.v P (Instr.fieldAt 53 t11 3) (fun t12 w => S.u P (Instr.storeAt 25 t12 (Go.Value.int Go.IntKind.i64 3)) (fun w => K
    t6 w) w) w) w) (S.call P 28 [a0] (fun t19 w => S.v P (Instr.extract t19 0) (fun t20 w => S.v P (Instr.extract t19 1) (fun t21 w => S.v P (Instr.extract t19
    2) (fun t22 w => S.v P (S.nilC t6) (fun t23 w => S.v P (Instr.fieldAt 53 t23 1) (fun t24 w => S.u P (Instr.storeAt 51 t24 t20) (fun w => S.v P (S.nilC t6)
    (fun t25 w => S.v P (Instr.fieldAt 53 t25 2) (fun t26 w => S.u P (Instr.storeAt 3 t26 t21) (fun w => S.v P (S.nilC t6) (fun t27 w => S.v P (Instr.fieldAt
    53 t27 3) (fun t28 w => S.u P (Instr.storeAt 25 t28 t22) (fun w => K t6 w) w) w) w) w) w) w) w) w) w) w) w) w) w)) w) w) w) w
theorem F11_chk : chkFn Tryd.f11 (bodyOf Tryd.f11) [0, 2, 3, 9] [] 1 = true := by kernel_rfl
theorem F11_eq (a0 : Value) (K : Value → World → Prop) (w : World) : F11 Tryd.prog a0 K w = denFn Tryd.prog (has ents) [] [0, 2, 3, 9] (bodyOf Tryd.f11) Tryd.f11.results.toList [a0] K w := by kernel_rfl
theorem F11_link {a0 : Value} {K : Value → World → Prop} {w : World} (h : F11 Tryd.prog a0 K w) : S.call Tryd.prog 11 [a0] K w :=
  calls_of_den entOk mixOk Tryd.func11 rfl F11_chk (Eq.mp (F11_eq a0 K w) h)
/-- (*lanyard/tparm.Cap).Run -/
def F12 (P : Program) (a0 a1 a2 : Value) (K : Value → World → Prop) (w : World) : Prop :=
  S.call P 22 [a0] (fun t20 w => S.v P (Instr.extract t20 0) (fun t21 w => S.v P (Instr.extract t20 1) (fun t22 w => S.v P (S.bin Go.BinOp.neq 25 (Go.Operand.tmp
    23) (Go.Operand.const (Go.Value.int Go.IntKind.i64 0)) t22 (Go.Value.int Go.IntKind.i64 0)) (fun t24 w => br t24 (K (.tuple #[(Go.Value.string { data :=
    #[] }), t21, t22]) w) (S.call P 29 [a1] (fun t28 w => br t28 (K (.tuple #[(Go.Value.string { data := #[] }), (Go.Value.int Go.IntKind.i64 0), (Go.Value.int
    Go.IntKind.i64 2)]) w) (S.v P (Instr.build 73 #[(0, a1)]) (fun t30 w => S.v P (Instr.box 73 t30) (fun t31 w => S.v P (Builtin.len_ #[22] 3 #[a2]) (fun t33
    w => S.v P (S.bin Go.BinOp.gtr 3 (Go.Operand.tmp 33) (Go.Operand.const (Go.Value.int Go.IntKind.i64 9)) t33 (Go.Value.int Go.IntKind.i64 9)) (fun t34 w =>
    br t34 (K (.tuple #[(Go.Value.string { data := #[] }), (Go.Value.int Go.IntKind.i64 0), (Go.Value.int Go.IntKind.i64 1)]) w) (S.v P (Builtin.len_ #[22] 3
    #[a2]) (fun t36 w => S.loop (fun I => ∀ (x6 : Value) (x7 : Value) (x8 : Value) (x12 : Value) (x13 : Value) (x37 : Value) (x38 : Value) (x44 : Value) (w :
    World), (S.v P (S.bin Go.BinOp.lss 3 (Go.Operand.tmp 37) (Go.Operand.tmp 36) x37 t36) (fun t38 w => br t38 (S.v P (Instr.indexAt 22 a2 x37) (fun t40 w =>
    S.v P (Instr.loadAt 36 t40) (fun t41 w => S.v P (Instr.alloc 36 true (.tuple #[])) (fun t13 w => S.u P (Instr.storeAt 36 t13 t41) (fun w => S.v P
    (Instr.loadAt 36 t13) (fun t42 w => S.call P 30 [t42] (fun t43 w => S.v P (Op.unary Go.UnOp.not t43) (fun t44 w => br t44 (K (.tuple #[(Go.Value.string {
    data := #[] }), (Go.Value.int Go.IntKind.i64 0), (Go.Value.int Go.IntKind.i64 1)]) w) (S.drawn (fun w => ∃ H : World → Prop, H w ∧ (S.h P H (Instr.loadAt
    36 t13) (fun t47 w => S.v P (S.nilC t31) (fun t48 w => H w ∧ (S.v P (Instr.fieldAt 73 t48 1) (fun t49 w => H w ∧ (S.h P H (Instr.indexAt 70 t49 x37) (fun
    t50 w => S.u P (Instr.storeAt 36 t50 t47) (fun w => S.v P (S.bin Go.BinOp.add 3 (Go.Operand.tmp 37) (Go.Operand.const (Go.Value.int Go.IntKind.i64 1)) x37
    (Go.Value.int Go.IntKind.i64 1)) (fun t51 w => I [x6, x7, x8, x37, t13, t51, t38, t44] w) w) w) w)) w)) w) w)) w)) w) w) w) w) w) w) w) (S.loop (fun I_1 =>
    ∀ (x6_1 : Value) (x7_1 : Value) (x8_1 : Value) (x14 : Value) (x15 : Value) (x16 : Value) (x17 : Value) (x58 : Value) (x72 : Value) (x76 : Value) (x82 :
    Value) (x89 : Value) (x99 : Value) (x108 : Value) (x113 : Value) (w : World), (S.v P (S.nilC a0) (fun t54 w => S.v P (Instr.fieldAt 53 t54 1) (fun t55 w =>
    S.v P (Instr.loadAt 51 t55) (fun t56 w => S.v P (Builtin.len_ #[51] 3 #[t56]) (fun t57 w => S.v P (S.bin Go.BinOp.lss 3 (Go.Operand.tmp 52) (Go.Operand.tmp
    57) x15 t57) (fun t58 w => br t58 (S.seq (fun vs w => S.v P (S.bin Go.BinOp.add 3 (Go.Operand.tmp 59) (Go.Operand.const (Go.Value.int Go.IntKind.i64 1))
    (nth vs 4) (Go.Value.int Go.IntKind.i64 1)) (fun t60 w => I_1 [(nth vs 0), (nth vs 1), (nth vs 2), (nth vs 3), t60, (nth vs 5), (nth vs 6), t58, (nth vs
    7), (nth vs 8), (nth vs 9), (nth vs 10), (nth vs 11), (nth vs 12), (nth vs 13)] w) w) (fun J => S.v P (S.nilC a0) (fun t62 w => S.v P (Instr.fieldAt 53 t62
    1) (fun t63 w => S.v P (Instr.loadAt 51 t63) (fun t64 w => S.v P (Instr.indexAt 51 t64 x15) (fun t66 w => S.v P (Instr.loadAt 76 t66) (fun t67 w => S.v P
    (Instr.alloc 76 true (.tuple #[])) (fun t16 w => S.u P (Instr.storeAt 76 t16 t67) (fun w => S.v P (Instr.fieldAt 76 t16 1) (fun t77 w => S.v P
    (Instr.loadAt 5 t77) (fun t78 w => S.v P (S.bin Go.BinOp.eql 5 (Go.Operand.tmp 78) (Go.Operand.const (Go.Value.int Go.IntKind.u8 63)) t78 (Go.Value.int
    Go.IntKind.u8 63)) (fun t79 w => br t79 (S.v P (S.bin Go.BinOp.add 3 (Go.Operand.tmp 80) (Go.Operand.const (Go.Value.int Go.IntKind.i64 1)) x14
    (Go.Value.int Go.IntKind.i64 1)) (fun t81 w => J [x6_1, x7_1, x8_1, t81, x15, t16, x17, x72, t79, x82, x89, x99, x108, x113] w) w) (S.v P (Instr.fieldAt 76
    t16 1) (fun t83 w => S.v P (Instr.loadAt 5 t83) (fun t84 w => S.v P (S.bin Go.BinOp.eql 5 (Go.Operand.tmp 84) (Go.Operand.const (Go.Value.int Go.IntKind.u8
    59)) t84 (Go.Value.int Go.IntKind.u8 59)) (fun t85 w => br t85 (S.v P (S.bin Go.BinOp.sub 3 (Go.Operand.tmp 86) (Go.Operand.const (Go.Value.int
    Go.IntKind.i64 1)) x14 (Go.Value.int Go.IntKind.i64 1)) (fun t87 w => S.v P (Builtin.max_ #[3, 3] 3 #[(Go.Value.int Go.IntKind.i64 0), t87]) (fun t88 w =>
    J [x6_1, x7_1, x8_1, t88, x15, t16, x17, x72, t79, t85, x89, x99, x108, x113] w) w) w) (S.v P (Instr.fieldAt 76 t16 1) (fun t90 w => S.v P (Instr.loadAt 5
    t90) (fun t91 w => S.v P (S.bin Go.BinOp.eql 5 (Go.Operand.tmp 91) (Go.Operand.const (Go.Value.int Go.IntKind.u8 116)) t91 (Go.Value.int Go.IntKind.u8
    116)) (fun t92 w => br t92 (S.v P (S.bin Go.BinOp.gtr 3 (Go.Operand.tmp 93) (Go.Operand.const (Go.Value.int Go.IntKind.i64 0)) x14 (Go.Value.int
    Go.IntKind.i64 0)) (fun t94 w => br t94 (S.call P 31 [t31] (fun t97 w => S.v P (S.bin Go.BinOp.eql 21 (Go.Operand.tmp 97) (Go.Operand.const (Go.Value.int
    Go.IntKind.i32 0)) t97 (Go.Value.int Go.IntKind.i32 0)) (fun t98 w => br t98 (S.v P (S.nilC a0) (fun t101 w => S.v P (Instr.fieldAt 53 t101 1) (fun t102 w
    => S.v P (Instr.loadAt 51 t102) (fun t103 w => S.v P (S.bin Go.BinOp.add 3 (Go.Operand.tmp 104) (Go.Operand.const (Go.Value.int Go.IntKind.i64 1)) x15
    (Go.Value.int Go.IntKind.i64 1)) (fun t105 w => S.call P 32 [t103, t105, (Go.Value.bool true)] (fun t106 w => S.v P (S.bin Go.BinOp.sub 3 (Go.Operand.tmp
    106) (Go.Operand.const (Go.Value.int Go.IntKind.i64 1)) t106 (Go.Value.int Go.IntKind.i64 1)) (fun t107 w => J [x6_1, x7_1, x8_1, x14, t107, t16, x17, x72,
    t79, t85, t92, t98, x108, x113] w) w) w) w) w) w) w) (J [x6_1, x7_1, x8_1, x14, x15, t16, x17, x72, t79, t85, t92, t98, x108, x113] w)) w) w) (J [x6_1,
    x7_1, x8_1, x14, x15, t16, x17, x72, t79, t85, t92, (Go.Value.bool false), x108, x113] w)) w) (S.v P (Instr.fieldAt 76 t16 1) (fun t109 w => S.v P
    (Instr.loadAt 5 t109) (fun t110 w => S.v P (S.bin Go.BinOp.eql 5 (Go.Operand.tmp 110) (Go.Operand.const (Go.Value.int Go.IntKind.u8 101)) t110
    (Go.Value.int Go.IntKind.u8 101)) (fun t111 w => br t111 (S.v P (S.bin Go.BinOp.gtr 3 (Go.Operand.tmp 112) (Go.Operand.const (Go.Value.int Go.IntKind.i64
    0)) x14 (Go.Value.int Go.IntKind.i64 0)) (fun t113 w => br t113 (S.v P (S.nilC a0) (fun t115 w => S.v P (Instr.fieldAt 53 t115 1) (fun t116 w => S.v P
    (Instr.loadAt 51 t116) (fun t117 w => S.v P (S.bin Go.BinOp.add 3 (Go.Operand.tmp 118) (Go.Operand.const (Go.Value.int Go.IntKind.i64 1)) x15 (Go.Value.int
    Go.IntKind.i64 1)) (fun t119 w => S.call P 32 [t117, t119, (Go.Value.bool false)] (fun t120 w => S.v P (S.bin Go.BinOp.sub 3 (Go.Operand.tmp 120)
    (Go.Operand.const (Go.Value.int Go.IntKind.i64 1)) t120 (Go.Value.int Go.IntKind.i64 1)) (fun t121 w => J [x6_1, x7_1, x8_1, x14, t121, t16, x17, x72, t79,
    t85, t92, x99, t111, t113] w) w) w) w) w) w) w) (J [x6_1, x7_1, x8_1, x14, x15, t16, x17, x72, t79, t85, t92, x99, t111, t113] w)) w) (S.v P (Instr.loadAt
    76 t16) (fun t69 w => S.call P 33 [t31, t69] (fun t70 w => S.v P (S.bin Go.BinOp.neq 25 (Go.Operand.tmp 71) (Go.Operand.const (Go.Value.int Go.IntKind.i64
    0)) t70 (Go.Value.int Go.IntKind.i64 0)) (fun t72 w => br t72 (S.drawn (fun w => S.p P (Instr.fieldAt 76 t16 0) (fun t73 w => S.p P (Instr.loadAt 3 t73)
    (fun t74 w => K (.tuple #[(Go.Value.string { data := #[] }), t74, t70]) w) w) w) w) (J [x6_1, x7_1, x8_1, x14, x15, t16, t70, t72, t79, t85, t92, x99,
    t111, x113] w)) w) w) w)) w) w) w)) w) w) w)) w) w) w)) w) w) w) w) w) w) w) w) w) w)) (S.v P (S.nilC t31) (fun t123 w => S.v P (Instr.fieldAt 73 t123 3)
    (fun t124 w => S.v P (Instr.loadAt 71 t124) (fun t125 w => S.v P (Go.convert 71 9 t125) (fun t126 w => K (.tuple #[t126, (Go.Value.int Go.IntKind.i64 0),
    (Go.Value.int Go.IntKind.i64 0)]) w) w) w) w) w)) w) w) w) w) w) → I_1 [x6_1, x7_1, x8_1, x14, x15, x16, x17, x58, x72, x76, x82, x89, x99, x108, x113] w)
    [x6, x7, x8, (Go.Value.int Go.IntKind.i64 0), (Go.Value.int Go.IntKind.i64 0), undef, undef, undef, undef, undef, undef, undef, undef, undef, undef] w)) w)
    → I [x6, x7, x8, x12, x13, x37, x38, x44] w) [(Go.Value.string { data := #[] }), (Go.Value.int Go.IntKind.i64 0), (Go.Value.int Go.IntKind.i64 0), undef,
    undef, (Go.Value.int Go.IntKind.i64 0), undef, undef] w) w)) w) w) w) w)) w)) w) w) w) w
theorem F12_chk : chkFn Tryd.f12 (bodyOf Tryd.f12) [0, 1, 2, 6, 7, 8, 9, 10, 11, 12, 13, 14, 15, 16, 17, 24, 28, 34, 35, 36, 37, 38, 44, 58, 72, 76, 82, 89, 99, 108, 113] [(14, { ord := (.step 0 true (.step 1 true (.step 2 true (.step 3 false (.step 4 false (.step 5 true (.step 6 false .fin))))))), flags := [3, 4], held := true, init := true }), (23, { ord := (.step 0 true (.step 1 true (.step 2 true (.step 3 true (.step 4 true (.step 5 true .fin)))))), flags := [], held := false, init := true })] 3 = true := by kernel_rfl
theorem F12_eq (a0 a1 a2 : Value) (K : Value → World → Prop) (w : World) : F12 Tryd.prog a0 a1 a2 K w = denFn Tryd.prog (has ents) [(14, { ord := (.step 0 true (.step 1 true (.step 2 true (.step 3 false (.step 4 false (.step 5 true (.step 6 false .fin))))))), flags := [3, 4], held := true, init := true }), (23, { ord := (.step 0 true (.step 1 true (.step 2 true (.step 3 true (.step 4 true (.step 5 true .fin)))))), flags := [], held := false, init := true })] [0, 1, 2, 6, 7, 8, 9, 10, 11, 12, 13, 14, 15, 16, 17, 24, 28, 34, 35, 36, 37, 38, 44, 58, 72, 76, 82, 89, 99, 108, 113] (bodyOf Tryd.f12) Tryd.f12.results.toList [a0, a1, a2] K w := by kernel_rfl
theorem F12_link {a0 a1 a2 : Value} {K : Value → World → Prop} {w : World} (h : F12 Tryd.prog a0 a1 a2 K w) : S.call Tryd.prog 12 [a0, a1, a2] K w :=
  calls_of_den entOk mixOk Tryd.func12 rfl F12_chk (Eq.mp (F12_eq a0 a1 a2 K w) h)
/-- lanyard/tparm.NewVars -/
def F13 (P : Program) (K : Value → World → Prop) (w : World) : Prop :=
  S.v P (Instr.makeMap 59 none) (fun t1 w => S.v P (Instr.build 61 #[(0, t1)]) (fun t2 w => S.v P (Instr.box 61 t2) (fun t3 w => K t3 w) w) w) w
theorem F13_chk : chkFn Tryd.f13 (bodyOf Tryd.f13) [0] [] 0 = true := by kernel_rfl
theorem F13_eq (K : Value → World → Prop) (w : World) : F13 Tryd.prog K w = denFn Tryd.prog (has ents) [] [0] (bodyOf Tryd.f13) Tryd.f13.results.toList [] K w := by kernel_rfl
theorem F13_link {K : Value → World → Prop} {w : World} (h : F13 Tryd.prog K w) : S.call Tryd.prog 13 [] K w :=
  calls_of_den entOk mixOk Tryd.func13 rfl F13_chk (Eq.mp (F13_eq K w) h)
/-- strconv.Itoa -/
def F14 (P : Program) (a0 : Value) (K : Value → World → Prop) (w : World) : Prop :=
  S.call P 34 [a0] (fun t4 w => K t4 w) w
theorem F14_chk : chkFn Tryd.f14 (bodyOf Tryd.f14) [0, 2] [] 1 = true := by kernel_rfl
theorem F14_eq (a0 : Value) (K : Value → World → Prop) (w : World) : F14 Tryd.prog a0 K w = denFn Tryd.prog (has ents) [] [0, 2] (bodyOf Tryd.f14) Tryd.f14.results.toList [a0] K w := by kernel_rfl
theorem F14_link {a0 : Value} {K : Value → World → Prop} {w : World} (h : F14 Tryd.prog a0 K w) : S.call Tryd.prog 14 [a0] K w :=
  calls_of_den entOk mixOk Tryd.func14 rfl F14_chk (Eq.mp (F14_eq a0 K w) h)
/-- strconv.FormatUint -/
def F15 (P : Program) (a0 a1 : Value) (K : Value → World → Prop) (w : World) : Prop :=
  S.call P 35 [a0, a1] (fun t7 w => K t7 w) w
theorem F15_chk : chkFn Tryd.f15 (bodyOf Tryd.f15) [0, 1, 4] [] 2 = true := by kernel_rfl
theorem F15_eq (a0 a1 : Value) (K : Value → World → Prop) (w : World) : F15 Tryd.prog a0 a1 K w = denFn Tryd.prog (has ents) [] [0, 1, 4] (bodyOf Tryd.f15) Tryd.f15.results.toList [a0, a1] K w := by kernel_rfl
theorem F15_link {a0 a1 : Value} {K : Value → World → Prop} {w : World} (h : F15 Tryd.prog a0 a1 K w) : S.call Tryd.prog 15 [a0, a1] K w :=
  calls_of_den entOk mixOk Tryd.func15 rfl F15_chk (Eq.mp (F15_eq a0 a1 K w) h)
/-- lanyard/lanyardlaw04.vars -/
def F17 (P : Program) (a0 : Value) (K : Value → World → Prop) (w : World) : Prop :=
  S.call P 13 [] (fun t9 w => S.v P (Instr.build 95 #[]) (fun t10 w => S.v P (Instr.box 95 t10) (fun t11 w => S.v P (S.bin Go.BinOp.eql 30 (Go.Operand.tmp 12)
    (Go.Operand.const (Go.Value.pointer none)) t9 (Go.Value.pointer none)) (fun t13 w => br t13 (K (.tuple #[(Go.Value.pointer none), (Go.Value.pointer none)])
    w) (S.v P (Builtin.len_ #[22] 3 #[a0]) (fun t15 w => S.loop (fun I => ∀ (x6 : Value) (x7 : Value) (x8 : Value) (x16 : Value) (x17 : Value) (x27 : Value) (w
    : World), (S.v P (S.bin Go.BinOp.lss 3 (Go.Operand.tmp 16) (Go.Operand.tmp 15) x16 t15) (fun t17 w => br t17 (S.v P (Instr.indexAt 22 a0 x16) (fun t19 w =>
    S.v P (Instr.loadAt 36 t19) (fun t20 w => S.v P (Instr.alloc 36 true (.tuple #[])) (fun t7 w => S.u P (Instr.storeAt 36 t7 t20) (fun w => S.v P (S.bin
    Go.BinOp.rem 3 (Go.Operand.tmp 21) (Go.Operand.const (Go.Value.int Go.IntKind.i64 26)) x16 (Go.Value.int Go.IntKind.i64 26)) (fun t22 w => S.v P (S.bin
    Go.BinOp.add 3 (Go.Operand.const (Go.Value.int Go.IntKind.i64 97)) (Go.Operand.tmp 22) (Go.Value.int Go.IntKind.i64 97) t22) (fun t23 w => S.v P
    (Go.convert 3 5 t23) (fun t24 w => S.seq (fun vs w => S.v P (Instr.loadAt 36 t7) (fun t34 w => S.call P 20 [t9, (nth vs 0), t34] (fun t35 w => S.v P
    (Instr.loadAt 36 t7) (fun t38 w => S.call P 21 [t11, (nth vs 0), t38] (fun t39 w => S.v P (S.bin Go.BinOp.add 3 (Go.Operand.tmp 16) (Go.Operand.const
    (Go.Value.int Go.IntKind.i64 1)) x16 (Go.Value.int Go.IntKind.i64 1)) (fun t40 w => I [x16, t7, (nth vs 0), t40, t17, (nth vs 1)] w) w) w) w) w) w) (fun J
    => S.v P (S.bin Go.BinOp.rem 3 (Go.Operand.tmp 25) (Go.Operand.const (Go.Value.int Go.IntKind.i64 2)) x16 (Go.Value.int Go.IntKind.i64 2)) (fun t26 w =>
    S.v P (S.bin Go.BinOp.eql 3 (Go.Operand.tmp 26) (Go.Operand.const (Go.Value.int Go.IntKind.i64 1)) t26 (Go.Value.int Go.IntKind.i64 1)) (fun t27 w => br
    t27 (S.v P (S.bin Go.BinOp.rem 3 (Go.Operand.tmp 28) (Go.Operand.const (Go.Value.int Go.IntKind.i64 26)) x16 (Go.Value.int Go.IntKind.i64 26)) (fun t29 w
    => S.v P (S.bin Go.BinOp.add 3 (Go.Operand.const (Go.Value.int Go.IntKind.i64 65)) (Go.Operand.tmp 29) (Go.Value.int Go.IntKind.i64 65) t29) (fun t30 w =>
    S.v P (Go.convert 3 5 t30) (fun t31 w => J [t31, t27] w) w) w) w) (J [t24, t27] w)) w) w)) w) w) w) w) w) w) w) (K (.tuple #[t9, t11]) w)) w) → I [x6, x7,
    x8, x16, x17, x27] w) [undef, undef, undef, (Go.Value.int Go.IntKind.i64 0), undef, undef] w) w)) w) w) w) w
theorem F17_chk : chkFn Tryd.f17 (bodyOf Tryd.f17) [0, 2, 3, 4, 5, 6, 7, 8, 13, 14, 15, 16, 17, 27] [] 1 = true := by kernel_rfl
theorem F17_eq (a0 : Value) (K : Value → World → Prop) (w : World) : F17 Tryd.prog a0 K w = denFn Tryd.prog (has ents) [] [0, 2, 3, 4, 5, 6, 7, 8, 13, 14, 15, 16, 17, 27] (bodyOf Tryd.f17) Tryd.f17.results.toList [a0] K w := by kernel_rfl
theorem F17_link {a0 : Value} {K : Value → World → Prop} {w : World} (h : F17 Tryd.prog a0 K w) : S.call Tryd.prog 17 [a0] K w :=
  calls_of_den entOk mixOk Tryd.func17 rfl F17_chk (Eq.mp (F17_eq a0 K w) h)
/-- lanyard/lanyardlaw04.same -/
def F18 (P : Program) (a0 a1 : Value) (K : Value → World → Prop) (w : World) : Prop :=
  S.loop (fun I => ∀ (x4 : Value) (x5 : Value) (x6 : Value) (x7 : Value) (x17 : Value) (w : World), (S.v P (S.bin Go.BinOp.lss 3 (Go.Operand.tmp 6)
    (Go.Operand.const (Go.Value.int Go.IntKind.i64 256)) x6 (Go.Value.int Go.IntKind.i64 256)) (fun t7 w => br t7 (S.v P (Go.convert 3 5 x6) (fun t11 w =>
    S.call P 25 [a0, t11] (fun t12 w => S.v P (Go.convert 3 5 x6) (fun t15 w => S.call P 42 [a1, t15] (fun t16 w => S.v P (S.bin Go.BinOp.neq 36
    (Go.Operand.tmp 12) (Go.Operand.tmp 16) t12 t16) (fun t17 w => br t17 (K (Go.Value.bool false) w) (S.v P (S.bin Go.BinOp.add 3 (Go.Operand.tmp 6)
    (Go.Operand.const (Go.Value.int Go.IntKind.i64 1)) x6 (Go.Value.int Go.IntKind.i64 1)) (fun t18 w => I [x4, x6, t18, t7, t17] w) w)) w) w) w) w) w) (K
    (Go.Value.bool true) w)) w) → I [x4, x5, x6, x7, x17] w) [(Go.Value.bool false), undef, (Go.Value.int Go.IntKind.i64 0), undef, undef] w
theorem F18_chk : chkFn Tryd.f18 (bodyOf Tryd.f18) [0, 1, 4, 5, 6, 7, 17] [] 2 = true := by kernel_rfl
theorem F18_eq (a0 a1 : Value) (K : Value → World → Prop) (w : World) : F18 Tryd.prog a0 a1 K w = denFn Tryd.prog (has ents) [] [0, 1, 4, 5, 6, 7, 17] (bodyOf Tryd.f18) Tryd.f18.results.toList [a0, a1] K w := by kernel_rfl
theorem F18_link {a0 a1 : Value} {K : Value → World → Prop} {w : World} (h : F18 Tryd.prog a0 a1 K w) : S.call Tryd.prog 18 [a0, a1] K w :=
  calls_of_den entOk mixOk Tryd.func18 rfl F18_chk (Eq.mp (F18_eq a0 a1 K w) h)
/-- (*lanyard/tparm.Vars).Clone -/
def F19 (P : Program) (a0 : Value) (K : Value → World → Prop) (w : World) : Prop :=
  S.call P 29 [a0] (fun t7 w => br t7 (K (Go.Value.pointer none) w) (S.call P 13 [] (fun t8 w => S.v P (S.nilC a0) (fun t10 w => S.v P (Instr.fieldAt 61 t10 0)
    (fun t11 w => S.v P (Instr.loadAt 59 t11) (fun t12 w => S.v P (Instr.range 59 t12) (fun t13 w => S.loop (fun I => ∀ (x4 : Value) (x5 : Value) (x15 : Value)
    (w : World), (S.v P (Instr.next t13 false 0) (fun t14 w => S.v P (Instr.extract t14 0) (fun t15 w => br t15 (S.v P (Instr.entry t13) (fun t16 w => S.v P
    (Instr.extract t16 0) (fun t17 w => S.v P (Instr.extract t16 1) (fun t18 w => S.v P (Instr.alloc 36 true (.tuple #[])) (fun t5 w => S.u P (Instr.storeAt 36
    t5 t18) (fun w => S.drawn (fun w => S.p P (S.nilC t8) (fun t20 w => S.p P (Instr.fieldAt 61 t20 0) (fun t21 w => S.p P (Instr.loadAt 59 t21) (fun t22 w =>
    S.p P (Instr.loadAt 36 t5) (fun t24 w => S.u P (Instr.mapUpdate 59 t22 t17 t24) (fun w => I [t17, t5, t15] w) w) w) w) w) w) w) w) w) w) w) w) (K t8 w)) w)
    w) → I [x4, x5, x15] w) [undef, undef, undef] w) w) w) w) w) w)) w
theorem F19_chk : chkFn Tryd.f19 (bodyOf Tryd.f19) [0, 2, 3, 4, 5, 7, 13, 15] [(7, { ord := (.step 0 true (.step 1 true (.step 2 true (.step 3 true (.step 4 true (.step 5 true (.step 6 false .fin))))))), flags := [], held := false, init := true })] 1 = true := by kernel_rfl
theorem F19_eq (a0 : Value) (K : Value → World → Prop) (w : World) : F19 Tryd.prog a0 K w = denFn Tryd.prog (has ents) [(7, { ord := (.step 0 true (.step 1 true (.step 2 true (.step 3 true (.step 4 true (.step 5 true (.step 6 false .fin))))))), flags := [], held := false, init := true })] [0, 2, 3, 4, 5, 7, 13, 15] (bodyOf Tryd.f19) Tryd.f19.results.toList [a0] K w := by kernel_rfl
theorem F19_link {a0 : Value} {K : Value → World → Prop} {w : World} (h : F19 Tryd.prog a0 K w) : S.call Tryd.prog 19 [a0] K w :=
  calls_of_den entOk mixOk Tryd.func19 rfl F19_chk (Eq.mp (F19_eq a0 K w) h)
/-- (*lanyard/tparm.Vars).Set -/
def F20 (P : Program) (a0 a1 a2 : Value) (K : Value → World → Prop) (w : World) : Prop :=
  S.v P (Instr.box 36 a2) (fun t5 w => S.call P 29 [a0] (fun t8 w => br t8 (K (Go.Value.int Go.IntKind.i64 2) w) (S.call P 43 [a1] (fun t10 w => S.v P (Op.unary
    Go.UnOp.not t10) (fun t11 w => br t11 (K (Go.Value.int Go.IntKind.i64 1) w) (S.v P (Instr.loadAt 36 t5) (fun t13 w => S.call P 30 [t13] (fun t14 w => S.v P
    (Op.unary Go.UnOp.not t14) (fun t15 w => br t15 (K (Go.Value.int Go.IntKind.i64 1) w) (S.drawn (fun w => S.p P (S.nilC a0) (fun t18 w => S.p P
    (Instr.fieldAt 61 t18 0) (fun t19 w => S.p P (Instr.loadAt 59 t19) (fun t20 w => S.p P (Instr.loadAt 36 t5) (fun t22 w => S.u P (Instr.mapUpdate 59 t20 a1
    t22) (fun w => K (Go.Value.int Go.IntKind.i64 0) w) w) w) w) w) w) w)) w) w) w)) w) w)) w) w
theorem F20_chk : chkFn Tryd.f20 (bodyOf Tryd.f20) [0, 1, 2, 5, 6, 8, 16] [(5, { ord := (.step 0 true (.step 1 true (.step 2 true (.step 3 true (.step 4 true (.step 5 true (.step 6 false .fin))))))), flags := [], held := false, init := true })] 3 = true := by kernel_rfl
theorem F20_eq (a0 a1 a2 : Value) (K : Value → World → Prop) (w : World) : F20 Tryd.prog a0 a1 a2 K w = denFn Tryd.prog (has ents) [(5, { ord := (.step 0 true (.step 1 true (.step 2 true (.step 3 true (.step 4 true (.step 5 true (.step 6 false .fin))))))), flags := [], held := false, init := true })] [0, 1, 2, 5, 6, 8, 16] (bodyOf Tryd.f20) Tryd.f20.results.toList [a0, a1, a2] K w := by kernel_rfl
theorem F20_link {a0 a1 a2 : Value} {K : Value → World → Prop} {w : World} (h : F20 Tryd.prog a0 a1 a2 K w) : S.call Tryd.prog 20 [a0, a1, a2] K w :=
  calls_of_den entOk mixOk Tryd.func20 rfl F20_chk (Eq.mp (F20_eq a0 a1 a2 K w) h)
/-- (*lanyard/lanyardref04.Vars).Set -/
def F21 (P : Program) (a0 a1 a2 : Value) (K : Value → World → Prop) (w : World) : Prop :=
  S.v P (Instr.box 36 a2) (fun t5 w => S.call P 44 [a1] (fun t9 w => S.v P (S.bin Go.BinOp.lss 3 (Go.Operand.tmp 10) (Go.Operand.const (Go.Value.int
    Go.IntKind.i64 0)) t9 (Go.Value.int Go.IntKind.i64 0)) (fun t11 w => br t11 (K (Go.Value.int Go.IntKind.i64 1) w) (S.v P (Instr.loadAt 36 t5) (fun t13 w =>
    S.call P 45 [t13] (fun t14 w => S.v P (Op.unary Go.UnOp.not t14) (fun t15 w => br t15 (K (Go.Value.int Go.IntKind.i64 1) w) (S.drawn (fun w => ∃ H : World
    → Prop, H w ∧ (S.h P H (Instr.loadAt 36 t5) (fun t19 w => S.v P (S.nilC a0) (fun t20 w => H w ∧ (S.v P (Instr.fieldAt 95 t20 0) (fun t21 w => H w ∧ (S.h P
    H (Instr.indexAt 93 t21 t9) (fun t22 w => S.u P (Instr.storeAt 36 t22 t19) (fun w => K (Go.Value.int Go.IntKind.i64 0) w) w) w)) w)) w) w)) w)) w) w) w))
    w) w) w
theorem F21_chk : chkFn Tryd.f21 (bodyOf Tryd.f21) [0, 1, 2, 5, 6, 7, 16] [(4, { ord := (.step 0 true (.step 1 true (.step 2 true (.step 3 false (.step 4 false (.step 5 true (.step 6 false .fin))))))), flags := [3, 4], held := true, init := true })] 3 = true := by kernel_rfl
theorem F21_eq (a0 a1 a2 : Value) (K : Value → World → Prop) (w : World) : F21 Tryd.prog a0 a1 a2 K w = denFn Tryd.prog (has ents) [(4, { ord := (.step 0 true (.step 1 true (.step 2 true (.step 3 false (.step 4 false (.step 5 true (.step 6 false .fin))))))), flags := [3, 4], held := true, init := true })] [0, 1, 2, 5, 6, 7, 16] (bodyOf Tryd.f21) Tryd.f21.results.toList [a0, a1, a2] K w := by kernel_rfl
theorem F21_link {a0 a1 a2 : Value} {K : Value → World → Prop} {w : World} (h : F21 Tryd.prog a0 a1 a2 K w) : S.call Tryd.prog 21 [a0, a1, a2] K w :=
  calls_of_den entOk mixOk Tryd.func21 rfl F21_chk (Eq.mp (F21_eq a0 a1 a2 K w) h)
/-- (*lanyard/tparm.Cap).Check -/
def F22 (P : Program) (a0 : Value) (K : Value → World → Prop) (w : World) : Prop :=
  S.call P 46 [a0] (fun t5 w => br t5 (K (.tuple #[(Go.Value.int Go.IntKind.i64 0), (Go.Value.int Go.IntKind.i64 2)]) w) (S.drawn (fun w => S.p P (S.nilC a0)
    (fun t7 w => S.p P (Instr.fieldAt 53 t7 2) (fun t8 w => S.p P (Instr.loadAt 3 t8) (fun t9 w => S.p P (S.nilC a0) (fun t11 w => S.p P (Instr.fieldAt 53 t11
    3) (fun t12 w => S.p P (Instr.loadAt 25 t12) (fun t13 w => K (.tuple #[t9, t13]) w) w) w) w) w) w) w) w)) w
theorem F22_chk : chkFn Tryd.f22 (bodyOf Tryd.f22) [0, 2, 3, 5] [(3, { ord := (.step 0 true (.step 1 true (.step 2 true (.step 3 true (.step 4 true (.step 5 true (.step 6 true (.step 7 true (.step 8 true (.step 9 true .fin)))))))))), flags := [], held := false, init := true })] 1 = true := by kernel_rfl
theorem F22_eq (a0 : Value) (K : Value → World → Prop) (w : World) : F22 Tryd.prog a0 K w = denFn Tryd.prog (has ents) [(3, { ord := (.step 0 true (.step 1 true (.step 2 true (.step 3 true (.step 4 true (.step 5 true (.step 6 true (.step 7 true (.step 8 true (.step 9 true .fin)))))))))), flags := [], held := false, init := true })] [0, 2, 3, 5] (bodyOf Tryd.f22) Tryd.f22.results.toList [a0] K w := by kernel_rfl
theorem F22_link {a0 : Value} {K : Value → World → Prop} {w : World} (h : F22 Tryd.prog a0 K w) : S.call Tryd.prog 22 [a0] K w :=
  calls_of_den entOk mixOk Tryd.func22 rfl F22_chk (Eq.mp (F22_eq a0 K w) h)
/-- (*lanyard/tparm.Cap).Used -/
def F23 (P : Program) (a0 : Value) (K : Value → World → Prop) (w : World) : Prop :=
  S.call P 46 [a0] (fun t7 w => br t7 (K (Go.Value.int Go.IntKind.i64 0) w) (S.v P (S.nilC a0) (fun t10 w => S.v P (Instr.fieldAt 53 t10 3) (fun t11 w => S.v P
    (Instr.loadAt 25 t11) (fun t12 w => S.v P (S.bin Go.BinOp.neq 25 (Go.Operand.tmp 12) (Go.Operand.const (Go.Value.int Go.IntKind.i64 0)) t12 (Go.Value.int
    Go.IntKind.i64 0)) (fun t13 w => br t13 (K (Go.Value.int Go.IntKind.i64 0) w) (S.v P (S.nilC a0) (fun t16 w => S.v P (Instr.fieldAt 53 t16 1) (fun t17 w =>
    S.v P (Instr.loadAt 51 t17) (fun t18 w => S.v P (Builtin.len_ #[51] 3 #[t18]) (fun t19 w => S.loop (fun I => ∀ (x3 : Value) (x5 : Value) (x20 : Value) (x21
    : Value) (x25 : Value) (x26 : Value) (x34 : Value) (w : World), (S.v P (S.bin Go.BinOp.lss 3 (Go.Operand.tmp 20) (Go.Operand.tmp 19) x20 t19) (fun t21 w =>
    br t21 (S.seq (fun vs w => S.v P (S.bin Go.BinOp.add 3 (Go.Operand.tmp 20) (Go.Operand.const (Go.Value.int Go.IntKind.i64 1)) x20 (Go.Value.int
    Go.IntKind.i64 1)) (fun t38 w => I [(nth vs 0), (nth vs 1), t38, t21, (nth vs 2), (nth vs 3), (nth vs 4)] w) w) (fun J => S.v P (Instr.indexAt 51 t18 x20)
    (fun t22 w => S.v P (Instr.loadAt 76 t22) (fun t23 w => S.v P (Instr.alloc 76 true (.tuple #[])) (fun t5 w => S.u P (Instr.storeAt 76 t5 t23) (fun w => S.v
    P (Instr.fieldAt 76 t5 1) (fun t24 w => S.v P (Instr.loadAt 5 t24) (fun t25 w => S.v P (S.bin Go.BinOp.eql 5 (Go.Operand.tmp 25) (Go.Operand.const
    (Go.Value.int Go.IntKind.u8 112)) t25 (Go.Value.int Go.IntKind.u8 112)) (fun t27 w => br t27 (S.v P (Instr.fieldAt 76 t5 2) (fun t29 w => S.v P
    (Instr.loadAt 5 t29) (fun t30 w => S.v P (S.bin Go.BinOp.sub 5 (Go.Operand.tmp 30) (Go.Operand.const (Go.Value.int Go.IntKind.u8 48)) t30 (Go.Value.int
    Go.IntKind.u8 48)) (fun t31 w => S.v P (Go.convert 5 3 t31) (fun t32 w => S.v P (Builtin.max_ #[3, 3] 3 #[x3, t32]) (fun t33 w => J [t33, t5, t25, t27,
    x34] w) w) w) w) w) w) (S.v P (S.bin Go.BinOp.eql 5 (Go.Operand.tmp 25) (Go.Operand.const (Go.Value.int Go.IntKind.u8 105)) t25 (Go.Value.int Go.IntKind.u8
    105)) (fun t35 w => br t35 (S.v P (Builtin.max_ #[3, 3] 3 #[x3, (Go.Value.int Go.IntKind.i64 2)]) (fun t37 w => J [t37, t5, t25, t27, t35] w) w) (J [x3,
    t5, t25, t27, t35] w)) w)) w) w) w) w) w) w) w)) (K x3 w)) w) → I [x3, x5, x20, x21, x25, x26, x34] w) [(Go.Value.int Go.IntKind.i64 0), undef,
    (Go.Value.int Go.IntKind.i64 0), undef, undef, undef, undef] w) w) w) w) w)) w) w) w) w)) w
theorem F23_chk : chkFn Tryd.f23 (bodyOf Tryd.f23) [0, 2, 3, 5, 14, 18, 19, 20, 21, 25, 26, 34] [] 1 = true := by kernel_rfl
theorem F23_eq (a0 : Value) (K : Value → World → Prop) (w : World) : F23 Tryd.prog a0 K w = denFn Tryd.prog (has ents) [] [0, 2, 3, 5, 14, 18, 19, 20, 21, 25, 26, 34] (bodyOf Tryd.f23) Tryd.f23.results.toList [a0] K w := by kernel_rfl
theorem F23_link {a0 : Value} {K : Value → World → Prop} {w : World} (h : F23 Tryd.prog a0 K w) : S.call Tryd.prog 23 [a0] K w :=
  calls_of_den entOk mixOk Tryd.func23 rfl F23_chk (Eq.mp (F23_eq a0 K w) h)
/-- lanyard/lanyardref04.Check -/
def F24 (P : Program) (a0 : Value) (K : Value → World → Prop) (w : World) : Prop :=
  S.v P (Builtin.len_ #[9] 3 #[a0]) (fun t8 w => S.v P (S.bin Go.BinOp.gtr 3 (Go.Operand.tmp 8) (Go.Operand.const (Go.Value.int Go.IntKind.i64 4096)) t8
    (Go.Value.int Go.IntKind.i64 4096)) (fun t9 w => br t9 (K (.tuple #[(Go.Value.int Go.IntKind.i64 0), (Go.Value.int Go.IntKind.i64 3)]) w) (S.loop (fun I =>
    ∀ (x2 : Value) (x3 : Value) (x4 : Value) (x5 : Value) (x6 : Value) (x13 : Value) (x17 : Value) (x27 : Value) (w : World), (S.v P (Builtin.len_ #[9] 3
    #[a0]) (fun t12 w => S.v P (S.bin Go.BinOp.lss 3 (Go.Operand.tmp 10) (Go.Operand.tmp 12) x4 t12) (fun t13 w => br t13 (S.v P (Instr.index 9 a0 x4) (fun t16
    w => S.v P (S.bin Go.BinOp.neq 5 (Go.Operand.tmp 16) (Go.Operand.const (Go.Value.int Go.IntKind.u8 37)) t16 (Go.Value.int Go.IntKind.u8 37)) (fun t17 w =>
    br t17 (S.v P (S.bin Go.BinOp.add 3 (Go.Operand.tmp 18) (Go.Operand.const (Go.Value.int Go.IntKind.i64 1)) x4 (Go.Value.int Go.IntKind.i64 1)) (fun t19 w
    => I [x2, x3, t19, x5, x6, t13, t17, x27] w) w) (S.call P 47 [a0, x4] (fun t23 w => S.v P (Instr.extract t23 0) (fun t24 w => S.v P (Instr.extract t23 1)
    (fun t25 w => S.v P (Instr.alloc 99 true (.tuple #[])) (fun t5 w => S.u P (Instr.storeAt 99 t5 t24) (fun w => S.v P (Op.unary Go.UnOp.not t25) (fun t27 w
    => br t27 (K (.tuple #[x4, (Go.Value.int Go.IntKind.i64 40)]) w) (S.v P (Instr.fieldAt 99 t5 6) (fun t29 w => S.v P (Instr.loadAt 3 t29) (fun t30 w => I
    [x2, x3, t30, t5, t25, t13, t17, t27] w) w) w)) w) w) w) w) w) w)) w) w) (K (.tuple #[(Go.Value.int Go.IntKind.i64 0), (Go.Value.int Go.IntKind.i64 0)])
    w)) w) w) → I [x2, x3, x4, x5, x6, x13, x17, x27] w) [(Go.Value.int Go.IntKind.i64 0), (Go.Value.int Go.IntKind.i64 0), (Go.Value.int Go.IntKind.i64 0),
    undef, undef, undef, undef, undef] w)) w) w
theorem F24_chk : chkFn Tryd.f24 (bodyOf Tryd.f24) [0, 2, 3, 4, 5, 6, 9, 13, 17, 27] [] 1 = true := by kernel_rfl
theorem F24_eq (a0 : Value) (K : Value → World → Prop) (w : World) : F24 Tryd.prog a0 K w = denFn Tryd.prog (has ents) [] [0, 2, 3, 4, 5, 6, 9, 13, 17, 27] (bodyOf Tryd.f24) Tryd.f24.results.toList [a0] K w := by kernel_rfl
theorem F24_link {a0 : Value} {K : Value → World → Prop} {w : World} (h : F24 Tryd.prog a0 K w) : S.call Tryd.prog 24 [a0] K w :=
  calls_of_den entOk mixOk Tryd.func24 rfl F24_chk (Eq.mp (F24_eq a0 K w) h)
/-- (*lanyard/tparm.Vars).Get -/
def F25 (P : Program) (a0 a1 : Value) (K : Value → World → Prop) (w : World) : Prop :=
  S.v P (Instr.alloc 36 true (.tuple #[])) (fun t4 w => S.call P 29 [a0] (fun t6 w => br t6 (S.v P (Instr.build 36 #[]) (fun t12 w => S.u P (Instr.storeAt 36 t4
    t12) (fun w => S.p P (S.ldR 36 t4) (fun r4 w => K r4 w) w) w) w) (S.call P 43 [a1] (fun t9 w => S.v P (Op.unary Go.UnOp.not t9) (fun t10 w => br t10 (S.v P
    (Instr.build 36 #[]) (fun t12_1 w => S.u P (Instr.storeAt 36 t4 t12_1) (fun w => S.p P (S.ldR 36 t4) (fun r4_1 w => K r4_1 w) w) w) w) (S.v P (S.nilC a0)
    (fun t14 w => S.v P (Instr.fieldAt 61 t14 0) (fun t15 w => S.v P (Instr.loadAt 59 t15) (fun t16 w => S.v P (Instr.lookup 59 t16 a1 false) (fun t18 w => S.u
    P (Instr.storeAt 36 t4 t18) (fun w => S.p P (S.ldR 36 t4) (fun r4_2 w => K r4_2 w) w) w) w) w) w) w)) w) w)) w) w
theorem F25_chk : chkFn Tryd.f25 (bodyOf Tryd.f25) [0, 1, 4, 11] [] 2 = true := by kernel_rfl
theorem F25_eq (a0 a1 : Value) (K : Value → World → Prop) (w : World) : F25 Tryd.prog a0 a1 K w = denFn Tryd.prog (has ents) [] [0, 1, 4, 11] (bodyOf Tryd.f25) Tryd.f25.results.toList [a0, a1] K w := by kernel_rfl
theorem F25_link {a0 a1 : Value} {K : Value → World → Prop} {w : World} (h : F25 Tryd.prog a0 a1 K w) : S.call Tryd.prog 25 [a0, a1] K w :=
  calls_of_den entOk mixOk Tryd.func25 rfl F25_chk (Eq.mp (F25_eq a0 a1 K w) h)
/-- lanyard/tparm.Num -/
def F26 (P : Program) (a0 : Value) (K : Value → World → Prop) (w : World) : Prop :=
  S.v P (Instr.alloc 36 true (.tuple #[])) (fun t2 w => S.v P (Go.convert 3 21 a0) (fun t4 w => S.v P (Instr.build 36 #[(0, t4)]) (fun t5 w => S.u P
    (Instr.storeAt 36 t2 t5) (fun w => S.p P (S.ldR 36 t2) (fun r2 w => K r2 w) w) w) w) w) w
theorem F26_chk : chkFn Tryd.f26 (bodyOf Tryd.f26) [0, 2] [] 1 = true := by kernel_rfl
theorem F26_eq (a0 : Value) (K : Value → World → Prop) (w : World) : F26 Tryd.prog a0 K w = denFn Tryd.prog (has ents) [] [0, 2] (bodyOf Tryd.f26) Tryd.f26.results.toList [a0] K w := by kernel_rfl
theorem F26_link {a0 : Value} {K : Value → World → Prop} {w : World} (h : F26 Tryd.prog a0 K w) : S.call Tryd.prog 26 [a0] K w :=
  calls_of_den entOk mixOk Tryd.func26 rfl F26_chk (Eq.mp (F26_eq a0 K w) h)
/-- lanyard/tparm.parse -/
def F28 (P : Program) (a0 : Value) (K : Value → World → Prop) (w : World) : Prop :=
  S.v P (Instr.build 107 #[(0, a0)]) (fun t11 w => S.v P (Instr.box 107 t11) (fun t12 w => S.loop (fun I => ∀ (x2 : Value) (x3 : Value) (x4 : Value) (x5 : Value)
    (x7 : Value) (x8 : Value) (x9 : Value) (x19 : Value) (x30 : Value) (w : World), (S.v P (S.nilC t12) (fun t14 w => S.v P (Instr.fieldAt 107 t14 1) (fun t15
    w => S.v P (Instr.loadAt 3 t15) (fun t16 w => S.v P (Builtin.len_ #[9] 3 #[a0]) (fun t18 w => S.v P (S.bin Go.BinOp.lss 3 (Go.Operand.tmp 16)
    (Go.Operand.tmp 18) t16 t18) (fun t19 w => br t19 (S.v P (S.nilC t12) (fun t21 w => S.v P (Instr.fieldAt 107 t21 1) (fun t22 w => S.v P (Instr.loadAt 3
    t22) (fun t23 w => S.call P 51 [t12] (fun t26 w => S.v P (Instr.extract t26 0) (fun t27 w => S.v P (Instr.extract t26 1) (fun t28 w => S.v P (Instr.alloc
    76 true (.tuple #[])) (fun t8 w => S.u P (Instr.storeAt 76 t8 t27) (fun w => S.v P (Op.unary Go.UnOp.not t28) (fun t30 w => br t30 (K (.tuple
    #[(Go.Value.slice none 0 0), t23, (Go.Value.int Go.IntKind.i64 40)]) w) (S.v P (Instr.fieldAt 76 t8 0) (fun t33 w => S.u P (Instr.storeAt 3 t33 t23) (fun w
    => S.v P (Instr.loadAt 76 t8) (fun t35 w => S.v P (Instr.buildSlice 51 1 #[(0, t35)]) (fun t36 w => S.v P (Builtin.append_ #[51, 51] 51 #[x5, t36]) (fun
    t37 w => I [x2, x3, x4, t37, t23, t8, t28, t19, t30] w) w) w) w) w) w)) w) w) w) w) w) w) w) w) w) (K (.tuple #[x5, (Go.Value.int Go.IntKind.i64 0),
    (Go.Value.int Go.IntKind.i64 0)]) w)) w) w) w) w) w) → I [x2, x3, x4, x5, x7, x8, x9, x19, x30] w) [(Go.Value.slice none 0 0), (Go.Value.int Go.IntKind.i64
    0), (Go.Value.int Go.IntKind.i64 0), (Go.Value.slice none 0 0), undef, undef, undef, undef, undef] w) w) w
theorem F28_chk : chkFn Tryd.f28 (bodyOf Tryd.f28) [0, 2, 3, 4, 5, 6, 7, 8, 9, 19, 30] [] 1 = true := by kernel_rfl
theorem F28_eq (a0 : Value) (K : Value → World → Prop) (w : World) : F28 Tryd.prog a0 K w = denFn Tryd.prog (has ents) [] [0, 2, 3, 4, 5, 6, 7, 8, 9, 19, 30] (bodyOf Tryd.f28) Tryd.f28.results.toList [a0] K w := by kernel_rfl
theorem F28_link {a0 : Value} {K : Value → World → Prop} {w : World} (h : F28 Tryd.prog a0 K w) : S.call Tryd.prog 28 [a0] K w :=
  calls_of_den entOk mixOk Tryd.func28 rfl F28_chk (Eq.mp (F28_eq a0 K w) h)
/-- (*lanyard/tparm.Vars).none -/
def F29 (P : Program) (a0 : Value) (K : Value → World → Prop) (w : World) : Prop :=
  S.v P (S.bin Go.BinOp.eql 30 (Go.Operand.tmp 3) (Go.Operand.const (Go.Value.pointer none)) a0 (Go.Value.pointer none)) (fun t4 w => br t4 (K (Go.Value.bool
    true) w) (S.v P (S.nilC a0) (fun t7 w => S.v P (Instr.fieldAt 61 t7 0) (fun t8 w => S.v P (Instr.loadAt 59 t8) (fun t9 w => S.v P (S.bin Go.BinOp.eql 59
    (Go.Operand.tmp 9) (Go.Operand.const (Go.Value.map none)) t9 (Go.Value.map none)) (fun t10 w => K t10 w) w) w) w) w)) w
theorem F29_chk : chkFn Tryd.f29 (bodyOf Tryd.f29) [0, 2] [] 1 = true := by kernel_rfl
theorem F29_eq (a0 : Value) (K : Value → World → Prop) (w : World) : F29 Tryd.prog a0 K w = denFn Tryd.prog (has ents) [] [0, 2] (bodyOf Tryd.f29) Tryd.f29.results.toList [a0] K w := by kernel_rfl
theorem F29_link {a0 : Value} {K : Value → World → Prop} {w : World} (h : F29 Tryd.prog a0 K w) : S.call Tryd.prog 29 [a0] K w :=
  calls_of_den entOk mixOk Tryd.func29 rfl F29_chk (Eq.mp (F29_eq a0 K w) h)
/-- lanyard/tparm.may -/
def F30 (P : Program) (a0 : Value) (K : Value → World → Prop) (w : World) : Prop :=
  S.v P (Instr.box 36 a0) (fun t1 w => S.v P (Instr.fieldAt 36 t1 2) (fun t3 w => S.v P (Instr.loadAt 4 t3) (fun t4 w => br t4 (S.v P (Instr.fieldAt 36 t1 0)
    (fun t6 w => S.v P (Instr.loadAt 21 t6) (fun t7 w => S.v P (S.bin Go.BinOp.eql 21 (Go.Operand.tmp 7) (Go.Operand.const (Go.Value.int Go.IntKind.i32 0)) t7
    (Go.Value.int Go.IntKind.i32 0)) (fun t8 w => br t8 (K (Go.Value.bool true) w) (S.v P (Instr.fieldAt 36 t1 2) (fun t11 w => S.v P (Instr.loadAt 4 t11) (fun
    t12 w => S.v P (Op.unary Go.UnOp.not t12) (fun t13 w => br t13 (S.v P (Instr.fieldAt 36 t1 1) (fun t15 w => S.v P (Instr.loadAt 9 t15) (fun t16 w => S.v P
    (S.bin Go.BinOp.eql 9 (Go.Operand.tmp 16) (Go.Operand.const (Go.Value.string { data := #[] })) t16 (Go.Value.string { data := #[] })) (fun t17 w => K t17
    w) w) w) w) (K (Go.Value.bool false) w)) w) w) w)) w) w) w) (S.v P (Instr.fieldAt 36 t1 2) (fun t11_1 w => S.v P (Instr.loadAt 4 t11_1) (fun t12_1 w => S.v
    P (Op.unary Go.UnOp.not t12_1) (fun t13_1 w => br t13_1 (S.v P (Instr.fieldAt 36 t1 1) (fun t15_1 w => S.v P (Instr.loadAt 9 t15_1) (fun t16_1 w => S.v P
    (S.bin Go.BinOp.eql 9 (Go.Operand.tmp 16) (Go.Operand.const (Go.Value.string { data := #[] })) t16_1 (Go.Value.string { data := #[] })) (fun t17_1 w => K
    t17_1 w) w) w) w) (K (Go.Value.bool false) w)) w) w) w)) w) w) w
theorem F30_chk : chkFn Tryd.f30 (bodyOf Tryd.f30) [0, 1, 2] [] 1 = true := by kernel_rfl
theorem F30_eq (a0 : Value) (K : Value → World → Prop) (w : World) : F30 Tryd.prog a0 K w = denFn Tryd.prog (has ents) [] [0, 1, 2] (bodyOf Tryd.f30) Tryd.f30.results.toList [a0] K w := by kernel_rfl
theorem F30_link {a0 : Value} {K : Value → World → Prop} {w : World} (h : F30 Tryd.prog a0 K w) : S.call Tryd.prog 30 [a0] K w :=
  calls_of_den entOk mixOk Tryd.func30 rfl F30_chk (Eq.mp (F30_eq a0 K w) h)
/-- (*lanyard/tparm.machine).num -/
def F31 (P : Program) (a0 : Value) (K : Value → World → Prop) (w : World) : Prop :=
  S.call P 52 [a0] (fun t4 w => S.v P (Instr.field 36 t4 0) (fun t5 w => K t5 w) w) w
theorem F31_chk : chkFn Tryd.f31 (bodyOf Tryd.f31) [0, 2] [] 1 = true := by kernel_rfl
theorem F31_eq (a0 : Value) (K : Value → World → Prop) (w : World) : F31 Tryd.prog a0 K w = denFn Tryd.prog (has ents) [] [0, 2] (bodyOf Tryd.f31) Tryd.f31.results.toList [a0] K w := by kernel_rfl
theorem F31_link {a0 : Value} {K : Value → World → Prop} {w : World} (h : F31 Tryd.prog a0 K w) : S.call Tryd.prog 31 [a0] K w :=
  calls_of_den entOk mixOk Tryd.func31 rfl F31_chk (Eq.mp (F31_eq a0 K w) h)
/-- lanyard/tparm.behind -/
def F32 (P : Program) (a0 a1 a2 : Value) (K : Value → World → Prop) (w : World) : Prop :=
  S.loop (fun I => ∀ (x1 : Value) (x6 : Value) (x7 : Value) (x11 : Value) (x18 : Value) (x19 : Value) (x23 : Value) (x26 : Value) (x30 : Value) (x36 : Value) (w
    : World), (S.v P (Builtin.len_ #[51] 3 #[a0]) (fun t10 w => S.v P (S.bin Go.BinOp.lss 3 (Go.Operand.tmp 8) (Go.Operand.tmp 10) x1 t10) (fun t11 w => br t11
    (S.seq (fun vs w => S.v P (S.bin Go.BinOp.add 3 (Go.Operand.tmp 12) (Go.Operand.const (Go.Value.int Go.IntKind.i64 1)) x1 (Go.Value.int Go.IntKind.i64 1))
    (fun t13 w => I [t13, (nth vs 0), (nth vs 1), t11, (nth vs 2), (nth vs 3), (nth vs 4), (nth vs 5), (nth vs 6), (nth vs 7)] w) w) (fun J => S.v P
    (Instr.indexAt 51 a0 x1) (fun t16 w => S.v P (Instr.fieldAt 76 t16 1) (fun t17 w => S.v P (Instr.loadAt 5 t17) (fun t18 w => S.v P (S.bin Go.BinOp.eql 5
    (Go.Operand.tmp 18) (Go.Operand.const (Go.Value.int Go.IntKind.u8 63)) t18 (Go.Value.int Go.IntKind.u8 63)) (fun t20 w => br t20 (S.v P (S.bin Go.BinOp.add
    3 (Go.Operand.tmp 21) (Go.Operand.const (Go.Value.int Go.IntKind.i64 1)) x7 (Go.Value.int Go.IntKind.i64 1)) (fun t22 w => J [x6, t22, t18, t20, x23, x26,
    x30, x36] w) w) (S.v P (S.bin Go.BinOp.eql 5 (Go.Operand.tmp 18) (Go.Operand.const (Go.Value.int Go.IntKind.u8 59)) t18 (Go.Value.int Go.IntKind.u8 59))
    (fun t24 w => br t24 (S.v P (S.bin Go.BinOp.eql 3 (Go.Operand.tmp 25) (Go.Operand.const (Go.Value.int Go.IntKind.i64 0)) x7 (Go.Value.int Go.IntKind.i64
    0)) (fun t26 w => br t26 (K x1 w) (S.v P (S.bin Go.BinOp.sub 3 (Go.Operand.tmp 28) (Go.Operand.const (Go.Value.int Go.IntKind.i64 1)) x7 (Go.Value.int
    Go.IntKind.i64 1)) (fun t29 w => J [x6, t29, t18, t20, t24, t26, x30, x36] w) w)) w) (S.v P (S.bin Go.BinOp.eql 5 (Go.Operand.tmp 18) (Go.Operand.const
    (Go.Value.int Go.IntKind.u8 101)) t18 (Go.Value.int Go.IntKind.u8 101)) (fun t31 w => br t31 (S.v P (S.bin Go.BinOp.eql 3 (Go.Operand.tmp 32)
    (Go.Operand.const (Go.Value.int Go.IntKind.i64 0)) x7 (Go.Value.int Go.IntKind.i64 0)) (fun t33 w => br t33 (br a2 (S.v P (S.bin Go.BinOp.add 3
    (Go.Operand.tmp 37) (Go.Operand.const (Go.Value.int Go.IntKind.i64 1)) x1 (Go.Value.int Go.IntKind.i64 1)) (fun t38 w => K t38 w) w) (J [x6, x7, t18, t20,
    t24, x26, t31, a2] w)) (J [x6, x7, t18, t20, t24, x26, t31, (Go.Value.bool false)] w)) w) (J [x6, x7, t18, t20, t24, x26, t31, x36] w)) w)) w)) w) w) w)
    w)) (K x1 w)) w) w) → I [x1, x6, x7, x11, x18, x19, x23, x26, x30, x36] w) [a1, (Go.Value.int Go.IntKind.i64 0), (Go.Value.int Go.IntKind.i64 0), undef,
    undef, undef, undef, undef, undef, undef] w
theorem F32_chk : chkFn Tryd.f32 (bodyOf Tryd.f32) [0, 1, 2, 6, 7, 11, 18, 19, 23, 26, 30, 36] [] 3 = true := by kernel_rfl
theorem F32_eq (a0 a1 a2 : Value) (K : Value → World → Prop) (w : World) : F32 Tryd.prog a0 a1 a2 K w = denFn Tryd.prog (has ents) [] [0, 1, 2, 6, 7, 11, 18, 19, 23, 26, 30, 36] (bodyOf Tryd.f32) Tryd.f32.results.toList [a0, a1, a2] K w := by kernel_rfl
theorem F32_link {a0 a1 a2 : Value} {K : Value → World → Prop} {w : World} (h : F32 Tryd.prog a0 a1 a2 K w) : S.call Tryd.prog 32 [a0, a1, a2] K w :=
  calls_of_den entOk mixOk Tryd.func32 rfl F32_chk (Eq.mp (F32_eq a0 a1 a2 K w) h)
/-- (*lanyard/tparm.machine).does -/
def F33 (P : Program) (a0 a1 : Value) (K : Value → World → Prop) (w : World) : Prop :=
  S.v P (Instr.box 76 a1) (fun t3 w => S.seq (fun vs w => K (Go.Value.int Go.IntKind.i64 0) w) (fun J => S.v P (Instr.fieldAt 76 t3 1) (fun t8 w => S.v P
    (Instr.loadAt 5 t8) (fun t9 w => S.v P (S.bin Go.BinOp.eql 5 (Go.Operand.tmp 9) (Go.Operand.const (Go.Value.int Go.IntKind.u8 0)) t9 (Go.Value.int
    Go.IntKind.u8 0)) (fun t23 w => br t23 (S.v P (Instr.fieldAt 76 t3 2) (fun t25 w => S.v P (Instr.loadAt 5 t25) (fun t26 w => S.v P (Instr.buildSlice 71 1
    #[(0, t26)]) (fun t27 w => S.v P (Go.convert 71 9 t27) (fun t28 w => S.call P 53 [a0, t28] (fun t29 w => K t29 w) w) w) w) w) w) (S.v P (S.bin Go.BinOp.eql
    5 (Go.Operand.tmp 9) (Go.Operand.const (Go.Value.int Go.IntKind.u8 99)) t9 (Go.Value.int Go.IntKind.u8 99)) (fun t31 w => br t31 (S.call P 31 [a0] (fun t34
    w => S.v P (Go.convert 21 5 t34) (fun t35 w => S.v P (Instr.buildSlice 71 1 #[(0, t35)]) (fun t36 w => S.v P (Go.convert 71 9 t36) (fun t37 w => S.call P
    53 [a0, t37] (fun t38 w => K t38 w) w) w) w) w) w) (S.v P (S.bin Go.BinOp.eql 5 (Go.Operand.tmp 9) (Go.Operand.const (Go.Value.int Go.IntKind.u8 100)) t9
    (Go.Value.int Go.IntKind.u8 100)) (fun t40 w => br t40 (S.drawn (fun w => ∃ H : World → Prop, H w ∧ (S.h P H (Instr.loadAt 76 t3) (fun t42 w => S.call P 52
    [a0] (fun t44 w => H w ∧ (S.call P 54 [t42, t44] (fun t45 w => S.call P 53 [a0, t45] (fun t46 w => H w ∧ (K t46 w)) w) w)) w) w)) w) (S.v P (S.bin
    Go.BinOp.eql 5 (Go.Operand.tmp 9) (Go.Operand.const (Go.Value.int Go.IntKind.u8 105)) t9 (Go.Value.int Go.IntKind.u8 105)) (fun t48 w => br t48 (S.loop
    (fun I => ∀ (x5 : Value) (x49 : Value) (x50 : Value) (x59 : Value) (w : World), (S.v P (S.bin Go.BinOp.lss 3 (Go.Operand.tmp 49) (Go.Operand.const
    (Go.Value.int Go.IntKind.i64 2)) x49 (Go.Value.int Go.IntKind.i64 2)) (fun t50 w => br t50 (S.seq (fun vs_1 w => S.v P (S.bin Go.BinOp.add 3
    (Go.Operand.tmp 49) (Go.Operand.const (Go.Value.int Go.IntKind.i64 1)) x49 (Go.Value.int Go.IntKind.i64 1)) (fun t72 w => I [(nth vs_1 0), t72, t50, (nth
    vs_1 1)] w) w) (fun J_1 => S.v P (S.nilC a0) (fun t54 w => S.v P (Instr.fieldAt 73 t54 1) (fun t55 w => S.v P (Instr.indexAt 70 t55 x49) (fun t56 w => S.v
    P (Instr.fieldAt 36 t56 2) (fun t57 w => S.v P (Instr.loadAt 4 t57) (fun t58 w => S.v P (Op.unary Go.UnOp.not t58) (fun t59 w => br t59 (S.drawn (fun w =>
    ∃ H_1 : World → Prop, H_1 w ∧ (S.h P H_1 (S.nilC a0) (fun t62 w => S.h P H_1 (Instr.fieldAt 73 t62 1) (fun t63 w => S.h P H_1 (Instr.indexAt 70 t63 x49)
    (fun t64 w => S.h P H_1 (Instr.fieldAt 36 t64 0) (fun t65 w => S.h P H_1 (Instr.loadAt 21 t65) (fun t66 w => S.h P H_1 (S.bin Go.BinOp.add 21
    (Go.Operand.tmp 66) (Go.Operand.const (Go.Value.int Go.IntKind.i32 1)) t66 (Go.Value.int Go.IntKind.i32 1)) (fun t67 w => S.v P (S.nilC a0) (fun t68 w =>
    H_1 w ∧ (S.v P (Instr.fieldAt 73 t68 1) (fun t69 w => H_1 w ∧ (S.v P (Instr.indexAt 70 t69 x49) (fun t70 w => S.v P (Instr.fieldAt 36 t70 0) (fun t71 w =>
    S.u P (Instr.storeAt 21 t71 t67) (fun w => J_1 [x49, t59] w) w) w) w)) w)) w) w) w) w) w) w) w)) w) (J_1 [x49, t59] w)) w) w) w) w) w) w)) (J
    [(Go.Value.int Go.IntKind.i64 0), x5, undef, undef, t9, t23, t31, t40, t48, x49, t50, x59, undef, undef, undef, undef, undef, undef, undef] w)) w) → I [x5,
    x49, x50, x59] w) [undef, (Go.Value.int Go.IntKind.i64 0), undef, undef] w) (S.v P (S.bin Go.BinOp.eql 5 (Go.Operand.tmp 9) (Go.Operand.const (Go.Value.int
    Go.IntKind.u8 112)) t9 (Go.Value.int Go.IntKind.u8 112)) (fun t74 w => br t74 (S.drawn (fun w => ∃ H_2 : World → Prop, H_2 w ∧ (S.h P H_2 (Instr.fieldAt 76
    t3 2) (fun t77 w => S.h P H_2 (Instr.loadAt 5 t77) (fun t78 w => S.h P H_2 (S.bin Go.BinOp.sub 5 (Go.Operand.tmp 78) (Go.Operand.const (Go.Value.int
    Go.IntKind.u8 49)) t78 (Go.Value.int Go.IntKind.u8 49)) (fun t79 w => S.h P H_2 (S.nilC a0) (fun t80 w => S.h P H_2 (Instr.fieldAt 73 t80 1) (fun t81 w =>
    S.h P H_2 (Instr.indexAt 70 t81 t79) (fun t82 w => S.h P H_2 (Instr.loadAt 36 t82) (fun t83 w => S.call P 55 [a0, t83] (fun t84 w => H_2 w ∧ (K t84 w)) w)
    w) w) w) w) w) w) w)) w) (S.v P (S.bin Go.BinOp.eql 5 (Go.Operand.tmp 9) (Go.Operand.const (Go.Value.int Go.IntKind.u8 80)) t9 (Go.Value.int Go.IntKind.u8
    80)) (fun t86 w => br t86 (S.drawn (fun w => ∃ H_3 : World → Prop, H_3 w ∧ (S.h P H_3 (S.nilC a0) (fun t88 w => S.h P H_3 (Instr.fieldAt 73 t88 0) (fun t89
    w => S.h P H_3 (Instr.loadAt 30 t89) (fun t90 w => S.h P H_3 (S.nilC t90) (fun t91 w => S.h P H_3 (Instr.fieldAt 61 t91 0) (fun t92 w => S.h P H_3
    (Instr.loadAt 59 t92) (fun t93 w => S.h P H_3 (Instr.fieldAt 76 t3 2) (fun t94 w => S.h P H_3 (Instr.loadAt 5 t94) (fun t95 w => S.call P 52 [a0] (fun t97
    w => H_3 w ∧ (S.u P (Instr.mapUpdate 59 t93 t95 t97) (fun w => J [(Go.Value.int Go.IntKind.i64 0), undef, undef, undef, t9, t23, t31, t40, t48, undef,
    undef, undef, t74, t86, undef, undef, undef, undef, undef] w) w)) w) w) w) w) w) w) w) w) w)) w) (S.v P (S.bin Go.BinOp.eql 5 (Go.Operand.tmp 9)
    (Go.Operand.const (Go.Value.int Go.IntKind.u8 103)) t9 (Go.Value.int Go.IntKind.u8 103)) (fun t99 w => br t99 (S.drawn (fun w => ∃ H_4 : World → Prop, H_4
    w ∧ (S.h P H_4 (S.nilC a0) (fun t102 w => S.h P H_4 (Instr.fieldAt 73 t102 0) (fun t103 w => S.h P H_4 (Instr.loadAt 30 t103) (fun t104 w => S.h P H_4
    (S.nilC t104) (fun t105 w => S.h P H_4 (Instr.fieldAt 61 t105 0) (fun t106 w => S.h P H_4 (Instr.loadAt 59 t106) (fun t107 w => S.h P H_4 (Instr.fieldAt 76
    t3 2) (fun t108 w => S.h P H_4 (Instr.loadAt 5 t108) (fun t109 w => S.v P (Instr.lookup 59 t107 t109 false) (fun t110 w => H_4 w ∧ (S.call P 55 [a0, t110]
    (fun t111 w => H_4 w ∧ (K t111 w)) w)) w) w) w) w) w) w) w) w) w)) w) (S.v P (S.bin Go.BinOp.eql 5 (Go.Operand.tmp 9) (Go.Operand.const (Go.Value.int
    Go.IntKind.u8 123)) t9 (Go.Value.int Go.IntKind.u8 123)) (fun t113 w => br t113 (S.v P (Instr.fieldAt 76 t3 3) (fun t115 w => S.v P (Instr.loadAt 21 t115)
    (fun t116 w => S.v P (Instr.build 36 #[(0, t116)]) (fun t117 w => S.call P 55 [a0, t117] (fun t118 w => K t118 w) w) w) w) w) (S.v P (S.bin Go.BinOp.eql 5
    (Go.Operand.tmp 9) (Go.Operand.const (Go.Value.int Go.IntKind.u8 108)) t9 (Go.Value.int Go.IntKind.u8 108)) (fun t120 w => br t120 (S.call P 52 [a0] (fun
    t123 w => S.v P (Instr.field 36 t123 1) (fun t124 w => S.v P (Builtin.len_ #[9] 3 #[t124]) (fun t125 w => S.v P (Go.convert 3 21 t125) (fun t126 w => S.v P
    (Instr.build 36 #[(0, t126)]) (fun t127 w => S.call P 55 [a0, t127] (fun t128 w => K t128 w) w) w) w) w) w) w) (S.v P (S.bin Go.BinOp.eql 5 (Go.Operand.tmp
    9) (Go.Operand.const (Go.Value.int Go.IntKind.u8 33)) t9 (Go.Value.int Go.IntKind.u8 33)) (fun t130 w => br t130 (S.call P 31 [a0] (fun t133 w => S.v P
    (S.bin Go.BinOp.eql 21 (Go.Operand.tmp 133) (Go.Operand.const (Go.Value.int Go.IntKind.i32 0)) t133 (Go.Value.int Go.IntKind.i32 0)) (fun t134 w => S.call
    P 56 [t134] (fun t135 w => S.v P (Instr.build 36 #[(0, t135)]) (fun t136 w => S.call P 55 [a0, t136] (fun t137 w => K t137 w) w) w) w) w) w) (S.v P (S.bin
    Go.BinOp.eql 5 (Go.Operand.tmp 9) (Go.Operand.const (Go.Value.int Go.IntKind.u8 126)) t9 (Go.Value.int Go.IntKind.u8 126)) (fun t139 w => br t139 (S.call P
    31 [a0] (fun t142 w => S.v P (Op.unary Go.UnOp.xor t142) (fun t143 w => S.v P (Instr.build 36 #[(0, t143)]) (fun t144 w => S.call P 55 [a0, t144] (fun t145
    w => K t145 w) w) w) w) w) (S.call P 31 [a0] (fun t11 w => S.call P 31 [a0] (fun t13 w => S.v P (Instr.fieldAt 76 t3 1) (fun t15 w => S.v P (Instr.loadAt 5
    t15) (fun t16 w => S.call P 57 [t16, t13, t11] (fun t19 w => S.v P (Instr.build 36 #[(0, t19)]) (fun t20 w => S.call P 55 [a0, t20] (fun t21 w => K t21 w)
    w) w) w) w) w) w) w)) w)) w)) w)) w)) w)) w)) w)) w)) w)) w)) w) w) w)) w
theorem F33_chk : chkFn Tryd.f33 (bodyOf Tryd.f33) [0, 1, 3, 4, 5, 6, 7, 9, 22, 30, 39, 47, 49, 50, 59, 73, 85, 98, 112, 119, 129, 138] [(10, { ord := (.step 0 true (.step 1 true (.step 2 true (.step 3 false (.step 4 false (.step 5 false (.step 6 true .fin))))))), flags := [3, 5], held := true, init := true }), (16, { ord := (.step 0 true (.step 1 true (.step 2 true (.step 3 true (.step 4 true (.step 5 true (.step 6 true (.step 7 true (.step 8 false (.step 9 false (.step 10 false (.step 11 false (.step 12 false .fin))))))))))))), flags := [8, 9], held := true, init := true }), (19, { ord := (.step 0 true (.step 1 true (.step 2 true (.step 3 true (.step 4 true (.step 5 true (.step 6 true (.step 7 true (.step 8 true (.step 9 false (.step 10 true .fin))))))))))), flags := [9], held := true, init := true }), (21, { ord := (.step 0 true (.step 1 true (.step 2 true (.step 3 true (.step 4 true (.step 5 true (.step 6 true (.step 7 true (.step 8 true (.step 9 true (.step 10 false (.step 11 false .fin)))))))))))), flags := [10], held := true, init := true }), (23, { ord := (.step 0 true (.step 1 true (.step 2 true (.step 3 true (.step 4 true (.step 5 true (.step 6 true (.step 7 true (.step 8 true (.step 9 true (.step 10 false (.step 11 false (.step 12 true .fin))))))))))))), flags := [10, 11], held := true, init := true })] 2 = true := by kernel_rfl
theorem F33_eq (a0 a1 : Value) (K : Value → World → Prop) (w : World) : F33 Tryd.prog a0 a1 K w = denFn Tryd.prog (has ents) [(10, { ord := (.step 0 true (.step 1 true (.step 2 true (.step 3 false (.step 4 false (.step 5 false (.step 6 true .fin))))))), flags := [3, 5], held := true, init := true }), (16, { ord := (.step 0 true (.step 1 true (.step 2 true (.step 3 true (.step 4 true (.step 5 true (.step 6 true (.step 7 true (.step 8 false (.step 9 false (.step 10 false (.step 11 false (.step 12 false .fin))))))))))))), flags := [8, 9], held := true, init := true }), (19, { ord := (.step 0 true (.step 1 true (.step 2 true (.step 3 true (.step 4 true (.step 5 true (.step 6 true (.step 7 true (.step 8 true (.step 9 false (.step 10 true .fin))))))))))), flags := [9], held := true, init := true }), (21, { ord := (.step 0 true (.step 1 true (.step 2 true (.step 3 true (.step 4 true (.step 5 true (.step 6 true (.step 7 true (.step 8 true (.step 9 true (.step 10 false (.step 11 false .fin)))))))))))), flags := [10], held := true, init := true }), (23, { ord := (.step 0 true (.step 1 true (.step 2 true (.step 3 true (.step 4 true (.step 5 true (.step 6 true (.step 7 true (.step 8 true (.step 9 true (.step 10 false (.step 11 false (.step 12 true .fin))))))))))))), flags := [10, 11], held := true, init := true })] [0, 1, 3, 4, 5, 6, 7, 9, 22, 30, 39, 47, 49, 50, 59, 73, 85, 98, 112, 119, 129, 138] (bodyOf Tryd.f33) Tryd.f33.results.toList [a0, a1] K w := by kernel_rfl
theorem F33_link {a0 a1 : Value} {K : Value → World → Prop} {w : World} (h : F33 Tryd.prog a0 a1 K w) : S.call Tryd.prog 33 [a0, a1] K w :=
  calls_of_den entOk mixOk Tryd.func33 rfl F33_chk (Eq.mp (F33_eq a0 a1 K w) h)
/-- strings.HasPrefix -/
def F37 (P : Program) (a0 a1 : Value) (K : Value → World → Prop) (w : World) : Prop :=
  S.call P 65 [a0, a1] (fun t7 w => K t7 w) w
theorem F37_chk : chkFn Tryd.f37 (bodyOf Tryd.f37) [0, 1, 4] [] 2 = true := by kernel_rfl
theorem F37_eq (a0 a1 : Value) (K : Value → World → Prop) (w : World) : F37 Tryd.prog a0 a1 K w = denFn Tryd.prog (has ents) [] [0, 1, 4] (bodyOf Tryd.f37) Tryd.f37.results.toList [a0, a1] K w := by kernel_rfl
theorem F37_link {a0 a1 : Value} {K : Value → World → Prop} {w : World} (h : F37 Tryd.prog a0 a1 K w) : S.call Tryd.prog 37 [a0, a1] K w :=
  calls_of_den entOk mixOk Tryd.func37 rfl F37_chk (Eq.mp (F37_eq a0 a1 K w) h)
/-- (*lanyard/lanyardref04.Vars).Get -/
def F42 (P : Program) (a0 a1 : Value) (K : Value → World → Prop) (w : World) : Prop :=
  S.v P (Instr.alloc 36 true (.tuple #[])) (fun t4 w => S.call P 44 [a1] (fun t7 w => S.v P (S.bin Go.BinOp.lss 3 (Go.Operand.tmp 8) (Go.Operand.const
    (Go.Value.int Go.IntKind.i64 0)) t7 (Go.Value.int Go.IntKind.i64 0)) (fun t9 w => br t9 (S.v P (Instr.build 36 #[]) (fun t10 w => S.u P (Instr.storeAt 36
    t4 t10) (fun w => S.p P (S.ldR 36 t4) (fun r4 w => K r4 w) w) w) w) (S.v P (S.nilC a0) (fun t13 w => S.v P (Instr.fieldAt 95 t13 0) (fun t14 w => S.v P
    (Instr.indexAt 93 t14 t7) (fun t15 w => S.v P (Instr.loadAt 36 t15) (fun t16 w => S.u P (Instr.storeAt 36 t4 t16) (fun w => S.p P (S.ldR 36 t4) (fun r4_1 w
    => K r4_1 w) w) w) w) w) w) w)) w) w) w
theorem F42_chk : chkFn Tryd.f42 (bodyOf Tryd.f42) [0, 1, 4, 5, 9] [] 2 = true := by kernel_rfl
theorem F42_eq (a0 a1 : Value) (K : Value → World → Prop) (w : World) : F42 Tryd.prog a0 a1 K w = denFn Tryd.prog (has ents) [] [0, 1, 4, 5, 9] (bodyOf Tryd.f42) Tryd.f42.results.toList [a0, a1] K w := by kernel_rfl
theorem F42_link {a0 a1 : Value} {K : Value → World → Prop} {w : World} (h : F42 Tryd.prog a0 a1 K w) : S.call Tryd.prog 42 [a0, a1] K w :=
  calls_of_den entOk mixOk Tryd.func42 rfl F42_chk (Eq.mp (F42_eq a0 a1 K w) h)
/-- lanyard/tparm.letter -/
def F43 (P : Program) (a0 : Value) (K : Value → World → Prop) (w : World) : Prop :=
  S.v P (S.bin Go.BinOp.geq 5 (Go.Operand.tmp 3) (Go.Operand.const (Go.Value.int Go.IntKind.u8 97)) a0 (Go.Value.int Go.IntKind.u8 97)) (fun t4 w => br t4 (S.v P
    (S.bin Go.BinOp.leq 5 (Go.Operand.tmp 6) (Go.Operand.const (Go.Value.int Go.IntKind.u8 122)) a0 (Go.Value.int Go.IntKind.u8 122)) (fun t7 w => br t7 (K
    (Go.Value.bool true) w) (S.v P (S.bin Go.BinOp.geq 5 (Go.Operand.tmp 10) (Go.Operand.const (Go.Value.int Go.IntKind.u8 65)) a0 (Go.Value.int Go.IntKind.u8
    65)) (fun t11 w => br t11 (S.v P (S.bin Go.BinOp.leq 5 (Go.Operand.tmp 13) (Go.Operand.const (Go.Value.int Go.IntKind.u8 90)) a0 (Go.Value.int
    Go.IntKind.u8 90)) (fun t14 w => K t14 w) w) (K (Go.Value.bool false) w)) w)) w) (S.v P (S.bin Go.BinOp.geq 5 (Go.Operand.tmp 10) (Go.Operand.const
    (Go.Value.int Go.IntKind.u8 65)) a0 (Go.Value.int Go.IntKind.u8 65)) (fun t11_1 w => br t11_1 (S.v P (S.bin Go.BinOp.leq 5 (Go.Operand.tmp 13)
    (Go.Operand.const (Go.Value.int Go.IntKind.u8 90)) a0 (Go.Value.int Go.IntKind.u8 90)) (fun t14_1 w => K t14_1 w) w) (K (Go.Value.bool false) w)) w)) w
theorem F43_chk : chkFn Tryd.f43 (bodyOf Tryd.f43) [0, 2] [] 1 = true := by kernel_rfl
theorem F43_eq (a0 : Value) (K : Value → World → Prop) (w : World) : F43 Tryd.prog a0 K w = denFn Tryd.prog (has ents) [] [0, 2] (bodyOf Tryd.f43) Tryd.f43.results.toList [a0] K w := by kernel_rfl
theorem F43_link {a0 : Value} {K : Value → World → Prop} {w : World} (h : F43 Tryd.prog a0 K w) : S.call Tryd.prog 43 [a0] K w :=
  calls_of_den entOk mixOk Tryd.func43 rfl F43_chk (Eq.mp (F43_eq a0 K w) h)
/-- lanyard/lanyardref04.letter -/
def F44 (P : Program) (a0 : Value) (K : Value → World → Prop) (w : World) : Prop :=
  S.v P (S.bin Go.BinOp.geq 5 (Go.Operand.tmp 4) (Go.Operand.const (Go.Value.int Go.IntKind.u8 97)) a0 (Go.Value.int Go.IntKind.u8 97)) (fun t5 w => br t5 (S.v P
    (S.bin Go.BinOp.leq 5 (Go.Operand.tmp 7) (Go.Operand.const (Go.Value.int Go.IntKind.u8 122)) a0 (Go.Value.int Go.IntKind.u8 122)) (fun t8 w => br t8 (S.v P
    (S.bin Go.BinOp.sub 5 (Go.Operand.tmp 10) (Go.Operand.const (Go.Value.int Go.IntKind.u8 97)) a0 (Go.Value.int Go.IntKind.u8 97)) (fun t11 w => S.v P
    (Go.convert 5 3 t11) (fun t12 w => K t12 w) w) w) (S.v P (S.bin Go.BinOp.geq 5 (Go.Operand.tmp 14) (Go.Operand.const (Go.Value.int Go.IntKind.u8 65)) a0
    (Go.Value.int Go.IntKind.u8 65)) (fun t15 w => br t15 (S.v P (S.bin Go.BinOp.leq 5 (Go.Operand.tmp 17) (Go.Operand.const (Go.Value.int Go.IntKind.u8 90))
    a0 (Go.Value.int Go.IntKind.u8 90)) (fun t18 w => br t18 (S.v P (S.bin Go.BinOp.sub 5 (Go.Operand.tmp 20) (Go.Operand.const (Go.Value.int Go.IntKind.u8
    65)) a0 (Go.Value.int Go.IntKind.u8 65)) (fun t21 w => S.v P (Go.convert 5 3 t21) (fun t22 w => S.v P (S.bin Go.BinOp.add 3 (Go.Operand.const (Go.Value.int
    Go.IntKind.i64 26)) (Go.Operand.tmp 22) (Go.Value.int Go.IntKind.i64 26) t22) (fun t23 w => K t23 w) w) w) w) (K (Go.Value.int Go.IntKind.i64 (-1)) w)) w)
    (K (Go.Value.int Go.IntKind.i64 (-1)) w)) w)) w) (S.v P (S.bin Go.BinOp.geq 5 (Go.Operand.tmp 14) (Go.Operand.const (Go.Value.int Go.IntKind.u8 65)) a0
    (Go.Value.int Go.IntKind.u8 65)) (fun t15_1 w => br t15_1 (S.v P (S.bin Go.BinOp.leq 5 (Go.Operand.tmp 17) (Go.Operand.const (Go.Value.int Go.IntKind.u8
    90)) a0 (Go.Value.int Go.IntKind.u8 90)) (fun t18_1 w => br t18_1 (S.v P (S.bin Go.BinOp.sub 5 (Go.Operand.tmp 20) (Go.Operand.const (Go.Value.int
    Go.IntKind.u8 65)) a0 (Go.Value.int Go.IntKind.u8 65)) (fun t21_1 w => S.v P (Go.convert 5 3 t21_1) (fun t22_1 w => S.v P (S.bin Go.BinOp.add 3
    (Go.Operand.const (Go.Value.int Go.IntKind.i64 26)) (Go.Operand.tmp 22) (Go.Value.int Go.IntKind.i64 26) t22_1) (fun t23_1 w => K t23_1 w) w) w) w) (K
    (Go.Value.int Go.IntKind.i64 (-1)) w)) w) (K (Go.Value.int Go.IntKind.i64 (-1)) w)) w)) w
theorem F44_chk : chkFn Tryd.f44 (bodyOf Tryd.f44) [0, 2, 3, 13] [] 1 = true := by kernel_rfl
theorem F44_eq (a0 : Value) (K : Value → World → Prop) (w : World) : F44 Tryd.prog a0 K w = denFn Tryd.prog (has ents) [] [0, 2, 3, 13] (bodyOf Tryd.f44) Tryd.f44.results.toList [a0] K w := by kernel_rfl
theorem F44_link {a0 : Value} {K : Value → World → Prop} {w : World} (h : F44 Tryd.prog a0 K w) : S.call Tryd.prog 44 [a0] K w :=
  calls_of_den entOk mixOk Tryd.func44 rfl F44_chk (Eq.mp (F44_eq a0 K w) h)
/-- lanyard/lanyardref04.May -/
def F45 (P : Program) (a0 : Value) (K : Value → World → Prop) (w : World) : Prop :=
  S.v P (Instr.box 36 a0) (fun t1 w => S.v P (Instr.fieldAt 36 t1 2) (fun t3 w => S.v P (Instr.loadAt 4 t3) (fun t4 w => br t4 (S.v P (Instr.fieldAt 36 t1 0)
    (fun t6 w => S.v P (Instr.loadAt 21 t6) (fun t7 w => S.v P (S.bin Go.BinOp.eql 21 (Go.Operand.tmp 7) (Go.Operand.const (Go.Value.int Go.IntKind.i32 0)) t7
    (Go.Value.int Go.IntKind.i32 0)) (fun t8 w => br t8 (K (Go.Value.bool true) w) (S.v P (Instr.fieldAt 36 t1 2) (fun t11 w => S.v P (Instr.loadAt 4 t11) (fun
    t12 w => S.v P (Op.unary Go.UnOp.not t12) (fun t13 w => br t13 (S.v P (Instr.fieldAt 36 t1 1) (fun t15 w => S.v P (Instr.loadAt 9 t15) (fun t16 w => S.v P
    (S.bin Go.BinOp.eql 9 (Go.Operand.tmp 16) (Go.Operand.const (Go.Value.string { data := #[] })) t16 (Go.Value.string { data := #[] })) (fun t17 w => K t17
    w) w) w) w) (K (Go.Value.bool false) w)) w) w) w)) w) w) w) (S.v P (Instr.fieldAt 36 t1 2) (fun t11_1 w => S.v P (Instr.loadAt 4 t11_1) (fun t12_1 w => S.v
    P (Op.unary Go.UnOp.not t12_1) (fun t13_1 w => br t13_1 (S.v P (Instr.fieldAt 36 t1 1) (fun t15_1 w => S.v P (Instr.loadAt 9 t15_1) (fun t16_1 w => S.v P
    (S.bin Go.BinOp.eql 9 (Go.Operand.tmp 16) (Go.Operand.const (Go.Value.string { data := #[] })) t16_1 (Go.Value.string { data := #[] })) (fun t17_1 w => K
    t17_1 w) w) w) w) (K (Go.Value.bool false) w)) w) w) w)) w) w) w
theorem F45_chk : chkFn Tryd.f45 (bodyOf Tryd.f45) [0, 1, 2] [] 1 = true := by kernel_rfl
theorem F45_eq (a0 : Value) (K : Value → World → Prop) (w : World) : F45 Tryd.prog a0 K w = denFn Tryd.prog (has ents) [] [0, 1, 2] (bodyOf Tryd.f45) Tryd.f45.results.toList [a0] K w := by kernel_rfl
theorem F45_link {a0 : Value} {K : Value → World → Prop} {w : World} (h : F45 Tryd.prog a0 K w) : S.call Tryd.prog 45 [a0] K w :=
  calls_of_den entOk mixOk Tryd.func45 rfl F45_chk (Eq.mp (F45_eq a0 K w) h)
/-- (*lanyard/tparm.Cap).none -/
def F46 (P : Program) (a0 : Value) (K : Value → World → Prop) (w : World) : Prop :=
  S.v P (S.bin Go.BinOp.eql 27 (Go.Operand.tmp 3) (Go.Operand.const (Go.Value.pointer none)) a0 (Go.Value.pointer none)) (fun t4 w => br t4 (K (Go.Value.bool
    true) w) (S.v P (S.nilC a0) (fun t7 w => S.v P (Instr.fieldAt 53 t7 4) (fun t8 w => S.v P (Instr.loadAt 4 t8) (fun t9 w => S.v P (Op.unary Go.UnOp.not t9)
    (fun t10 w => K t10 w) w) w) w) w)) w
theorem F46_chk : chkFn Tryd.f46 (bodyOf Tryd.f46) [0, 2] [] 1 = true := by kernel_rfl
theorem F46_eq (a0 : Value) (K : Value → World → Prop) (w : World) : F46 Tryd.prog a0 K w = denFn Tryd.prog (has ents) [] [0, 2] (bodyOf Tryd.f46) Tryd.f46.results.toList [a0] K w := by kernel_rfl
theorem F46_link {a0 : Value} {K : Value → World → Prop} {w : World} (h : F46 Tryd.prog a0 K w) : S.call Tryd.prog 46 [a0] K w :=
  calls_of_den entOk mixOk Tryd.func46 rfl F46_chk (Eq.mp (F46_eq a0 K w) h)
/-- lanyard/lanyardref04.read -/
def F47 (P : Program) (a0 a1 : Value) (K : Value → World → Prop) (w : World) : Prop :=
  S.v P (Instr.alloc 99 true (.tuple #[])) (fun t4 w => S.v P (Instr.build 99 #[(0, a1)]) (fun t8 w => S.v P (Instr.alloc 99 true (.tuple #[])) (fun t6 w => S.u
    P (Instr.storeAt 99 t6 t8) (fun w => S.v P (S.bin Go.BinOp.add 3 (Go.Operand.tmp 9) (Go.Operand.const (Go.Value.int Go.IntKind.i64 1)) a1 (Go.Value.int
    Go.IntKind.i64 1)) (fun t10 w => S.v P (Builtin.len_ #[9] 3 #[a0]) (fun t12 w => S.v P (S.bin Go.BinOp.geq 3 (Go.Operand.tmp 10) (Go.Operand.tmp 12) t10
    t12) (fun t13 w => br t13 (S.v P (Instr.loadAt 99 t6) (fun t14 w => S.u P (Instr.storeAt 99 t4 t14) (fun w => S.p P (S.ldR 99 t4) (fun r4 w => K (.tuple
    #[r4, (Go.Value.bool false)]) w) w) w) w) (S.v P (S.bin Go.BinOp.add 3 (Go.Operand.tmp 16) (Go.Operand.const (Go.Value.int Go.IntKind.i64 1)) a1
    (Go.Value.int Go.IntKind.i64 1)) (fun t17 w => S.v P (Instr.index 9 a0 t17) (fun t18 w => S.v P (Instr.fieldAt 99 t6 1) (fun t19 w => S.u P (Instr.storeAt
    5 t19 t18) (fun w => S.v P (S.bin Go.BinOp.add 3 (Go.Operand.tmp 20) (Go.Operand.const (Go.Value.int Go.IntKind.i64 2)) a1 (Go.Value.int Go.IntKind.i64 2))
    (fun t21 w => S.v P (Instr.fieldAt 99 t6 6) (fun t22 w => S.u P (Instr.storeAt 3 t22 t21) (fun w => S.v P (Instr.fieldAt 99 t6 1) (fun t24 w => S.v P
    (Instr.loadAt 5 t24) (fun t25 w => S.call P 68 [t25, (Go.Value.string { data := #[37, 99, 105, 108, 43, 45, 42, 47, 109, 38, 124, 94, 61, 62, 60, 65, 79,
    33, 126, 63, 116, 101, 59] })] (fun t26 w => br t26 (S.v P (Instr.loadAt 99 t6) (fun t27 w => S.u P (Instr.storeAt 99 t4 t27) (fun w => S.p P (S.ldR 99 t4)
    (fun r4_1 w => K (.tuple #[r4_1, (Go.Value.bool true)]) w) w) w) w) (S.v P (Instr.fieldAt 99 t6 1) (fun t29 w => S.v P (Instr.loadAt 5 t29) (fun t30 w =>
    S.v P (S.bin Go.BinOp.eql 5 (Go.Operand.tmp 30) (Go.Operand.const (Go.Value.int Go.IntKind.u8 112)) t30 (Go.Value.int Go.IntKind.u8 112)) (fun t31 w => br
    t31 (S.v P (S.bin Go.BinOp.add 3 (Go.Operand.tmp 32) (Go.Operand.const (Go.Value.int Go.IntKind.i64 2)) a1 (Go.Value.int Go.IntKind.i64 2)) (fun t33 w =>
    S.v P (Builtin.len_ #[9] 3 #[a0]) (fun t35 w => S.v P (S.bin Go.BinOp.geq 3 (Go.Operand.tmp 33) (Go.Operand.tmp 35) t33 t35) (fun t36 w => br t36 (S.v P
    (Instr.loadAt 99 t6) (fun t51 w => S.u P (Instr.storeAt 99 t4 t51) (fun w => S.p P (S.ldR 99 t4) (fun r4_2 w => K (.tuple #[r4_2, (Go.Value.bool false)])
    w) w) w) w) (S.v P (S.bin Go.BinOp.add 3 (Go.Operand.tmp 39) (Go.Operand.const (Go.Value.int Go.IntKind.i64 2)) a1 (Go.Value.int Go.IntKind.i64 2)) (fun
    t40 w => S.v P (Instr.index 9 a0 t40) (fun t41 w => S.v P (S.bin Go.BinOp.lss 5 (Go.Operand.tmp 41) (Go.Operand.const (Go.Value.int Go.IntKind.u8 49)) t41
    (Go.Value.int Go.IntKind.u8 49)) (fun t42 w => br t42 (S.v P (Instr.loadAt 99 t6) (fun t51_1 w => S.u P (Instr.storeAt 99 t4 t51_1) (fun w => S.p P (S.ldR
    99 t4) (fun r4_3 w => K (.tuple #[r4_3, (Go.Value.bool false)]) w) w) w) w) (S.v P (S.bin Go.BinOp.add 3 (Go.Operand.tmp 46) (Go.Operand.const
    (Go.Value.int Go.IntKind.i64 2)) a1 (Go.Value.int Go.IntKind.i64 2)) (fun t47 w => S.v P (Instr.index 9 a0 t47) (fun t48 w => S.v P (S.bin Go.BinOp.gtr 5
    (Go.Operand.tmp 48) (Go.Operand.const (Go.Value.int Go.IntKind.u8 57)) t48 (Go.Value.int Go.IntKind.u8 57)) (fun t49 w => br t49 (S.v P (Instr.loadAt 99
    t6) (fun t51_2 w => S.u P (Instr.storeAt 99 t4 t51_2) (fun w => S.p P (S.ldR 99 t4) (fun r4_4 w => K (.tuple #[r4_4, (Go.Value.bool false)]) w) w) w) w)
    (S.v P (S.bin Go.BinOp.add 3 (Go.Operand.tmp 53) (Go.Operand.const (Go.Value.int Go.IntKind.i64 2)) a1 (Go.Value.int Go.IntKind.i64 2)) (fun t54 w => S.v P
    (Instr.index 9 a0 t54) (fun t55 w => S.v P (S.bin Go.BinOp.sub 5 (Go.Operand.tmp 55) (Go.Operand.const (Go.Value.int Go.IntKind.u8 48)) t55 (Go.Value.int
    Go.IntKind.u8 48)) (fun t56 w => S.v P (Go.convert 5 21 t56) (fun t57 w => S.v P (Instr.fieldAt 99 t6 2) (fun t58 w => S.u P (Instr.storeAt 21 t58 t57)
    (fun w => S.v P (S.bin Go.BinOp.add 3 (Go.Operand.tmp 59) (Go.Operand.const (Go.Value.int Go.IntKind.i64 3)) a1 (Go.Value.int Go.IntKind.i64 3)) (fun t60 w
    => S.v P (Instr.fieldAt 99 t6 6) (fun t61 w => S.u P (Instr.storeAt 3 t61 t60) (fun w => S.v P (Instr.loadAt 99 t6) (fun t62 w => S.u P (Instr.storeAt 99
    t4 t62) (fun w => S.p P (S.ldR 99 t4) (fun r4_5 w => K (.tuple #[r4_5, (Go.Value.bool true)]) w) w) w) w) w) w) w) w) w) w) w) w) w)) w) w) w)) w) w) w))
    w) w) w) (S.v P (Instr.fieldAt 99 t6 1) (fun t64 w => S.v P (Instr.loadAt 5 t64) (fun t65 w => S.v P (S.bin Go.BinOp.eql 5 (Go.Operand.tmp 65)
    (Go.Operand.const (Go.Value.int Go.IntKind.u8 80)) t65 (Go.Value.int Go.IntKind.u8 80)) (fun t66 w => br t66 (S.v P (S.bin Go.BinOp.add 3 (Go.Operand.tmp
    72) (Go.Operand.const (Go.Value.int Go.IntKind.i64 2)) a1 (Go.Value.int Go.IntKind.i64 2)) (fun t73 w => S.v P (Builtin.len_ #[9] 3 #[a0]) (fun t75 w =>
    S.v P (S.bin Go.BinOp.geq 3 (Go.Operand.tmp 73) (Go.Operand.tmp 75) t73 t75) (fun t76 w => br t76 (S.v P (Instr.loadAt 99 t6) (fun t85 w => S.u P
    (Instr.storeAt 99 t4 t85) (fun w => S.p P (S.ldR 99 t4) (fun r4_6 w => K (.tuple #[r4_6, (Go.Value.bool false)]) w) w) w) w) (S.v P (S.bin Go.BinOp.add 3
    (Go.Operand.tmp 79) (Go.Operand.const (Go.Value.int Go.IntKind.i64 2)) a1 (Go.Value.int Go.IntKind.i64 2)) (fun t80 w => S.v P (Instr.index 9 a0 t80) (fun
    t81 w => S.call P 44 [t81] (fun t82 w => S.v P (S.bin Go.BinOp.lss 3 (Go.Operand.tmp 82) (Go.Operand.const (Go.Value.int Go.IntKind.i64 0)) t82
    (Go.Value.int Go.IntKind.i64 0)) (fun t83 w => br t83 (S.v P (Instr.loadAt 99 t6) (fun t85_1 w => S.u P (Instr.storeAt 99 t4 t85_1) (fun w => S.p P (S.ldR
    99 t4) (fun r4_7 w => K (.tuple #[r4_7, (Go.Value.bool false)]) w) w) w) w) (S.v P (S.bin Go.BinOp.add 3 (Go.Operand.tmp 87) (Go.Operand.const
    (Go.Value.int Go.IntKind.i64 2)) a1 (Go.Value.int Go.IntKind.i64 2)) (fun t88 w => S.v P (Instr.index 9 a0 t88) (fun t89 w => S.v P (Go.convert 5 21 t89)
    (fun t90 w => S.v P (Instr.fieldAt 99 t6 2) (fun t91 w => S.u P (Instr.storeAt 21 t91 t90) (fun w => S.v P (S.bin Go.BinOp.add 3 (Go.Operand.tmp 92)
    (Go.Operand.const (Go.Value.int Go.IntKind.i64 3)) a1 (Go.Value.int Go.IntKind.i64 3)) (fun t93 w => S.v P (Instr.fieldAt 99 t6 6) (fun t94 w => S.u P
    (Instr.storeAt 3 t94 t93) (fun w => S.v P (Instr.loadAt 99 t6) (fun t95 w => S.u P (Instr.storeAt 99 t4 t95) (fun w => S.p P (S.ldR 99 t4) (fun r4_8 w => K
    (.tuple #[r4_8, (Go.Value.bool true)]) w) w) w) w) w) w) w) w) w) w) w) w)) w) w) w) w)) w) w) w) (S.v P (Instr.fieldAt 99 t6 1) (fun t68 w => S.v P
    (Instr.loadAt 5 t68) (fun t69 w => S.v P (S.bin Go.BinOp.eql 5 (Go.Operand.tmp 69) (Go.Operand.const (Go.Value.int Go.IntKind.u8 103)) t69 (Go.Value.int
    Go.IntKind.u8 103)) (fun t70 w => br t70 (S.v P (S.bin Go.BinOp.add 3 (Go.Operand.tmp 72) (Go.Operand.const (Go.Value.int Go.IntKind.i64 2)) a1
    (Go.Value.int Go.IntKind.i64 2)) (fun t73_1 w => S.v P (Builtin.len_ #[9] 3 #[a0]) (fun t75_1 w => S.v P (S.bin Go.BinOp.geq 3 (Go.Operand.tmp 73)
    (Go.Operand.tmp 75) t73_1 t75_1) (fun t76_1 w => br t76_1 (S.v P (Instr.loadAt 99 t6) (fun t85_2 w => S.u P (Instr.storeAt 99 t4 t85_2) (fun w => S.p P
    (S.ldR 99 t4) (fun r4_9 w => K (.tuple #[r4_9, (Go.Value.bool false)]) w) w) w) w) (S.v P (S.bin Go.BinOp.add 3 (Go.Operand.tmp 79) (Go.Operand.const
    (Go.Value.int Go.IntKind.i64 2)) a1 (Go.Value.int Go.IntKind.i64 2)) (fun t80_1 w => S.v P (Instr.index 9 a0 t80_1) (fun t81_1 w => S.call P 44 [t81_1]
    (fun t82_1 w => S.v P (S.bin Go.BinOp.lss 3 (Go.Operand.tmp 82) (Go.Operand.const (Go.Value.int Go.IntKind.i64 0)) t82_1 (Go.Value.int Go.IntKind.i64 0))
    (fun t83_1 w => br t83_1 (S.v P (Instr.loadAt 99 t6) (fun t85_3 w => S.u P (Instr.storeAt 99 t4 t85_3) (fun w => S.p P (S.ldR 99 t4) (fun r4_10 w => K
    (.tuple #[r4_10, (Go.Value.bool false)]) w) w) w) w) (S.v P (S.bin Go.BinOp.add 3 (Go.Operand.tmp 87) (Go.Operand.const (Go.Value.int Go.IntKind.i64 2)) a1
    (Go.Value.int Go.IntKind.i64 2)) (fun t88_1 w => S.v P (Instr.index 9 a0 t88_1) (fun t89_1 w => S.v P (Go.convert 5 21 t89_1) (fun t90_1 w => S.v P
    (Instr.fieldAt 99 t6 2) (fun t91_1 w => S.u P (Instr.storeAt 21 t91_1 t90_1) (fun w => S.v P (S.bin Go.BinOp.add 3 (Go.Operand.tmp 92) (Go.Operand.const
    (Go.Value.int Go.IntKind.i64 3)) a1 (Go.Value.int Go.IntKind.i64 3)) (fun t93_1 w => S.v P (Instr.fieldAt 99 t6 6) (fun t94_1 w => S.u P (Instr.storeAt 3
    t94_1 t93_1) (fun w => S.v P (Instr.loadAt 99 t6) (fun t95_1 w => S.u P (Instr.storeAt 99 t4 t95_1) (fun w => S.p P (S.ldR 99 t4) (fun r4_11 w => K (.tuple
    #[r4_11, (Go.Value.bool true)]) w) w) w) w) w) w) w) w) w) w) w) w)) w) w) w) w)) w) w) w) (S.v P (Instr.fieldAt 99 t6 1) (fun t97 w => S.v P (Instr.loadAt
    5 t97) (fun t98 w => S.v P (S.bin Go.BinOp.eql 5 (Go.Operand.tmp 98) (Go.Operand.const (Go.Value.int Go.IntKind.u8 39)) t98 (Go.Value.int Go.IntKind.u8
    39)) (fun t99 w => br t99 (S.v P (S.bin Go.BinOp.add 3 (Go.Operand.tmp 100) (Go.Operand.const (Go.Value.int Go.IntKind.i64 3)) a1 (Go.Value.int
    Go.IntKind.i64 3)) (fun t101 w => S.v P (Builtin.len_ #[9] 3 #[a0]) (fun t103 w => S.v P (S.bin Go.BinOp.geq 3 (Go.Operand.tmp 101) (Go.Operand.tmp 103)
    t101 t103) (fun t104 w => br t104 (S.v P (Instr.loadAt 99 t6) (fun t112 w => S.u P (Instr.storeAt 99 t4 t112) (fun w => S.p P (S.ldR 99 t4) (fun r4_12 w =>
    K (.tuple #[r4_12, (Go.Value.bool false)]) w) w) w) w) (S.v P (S.bin Go.BinOp.add 3 (Go.Operand.tmp 107) (Go.Operand.const (Go.Value.int Go.IntKind.i64 3))
    a1 (Go.Value.int Go.IntKind.i64 3)) (fun t108 w => S.v P (Instr.index 9 a0 t108) (fun t109 w => S.v P (S.bin Go.BinOp.neq 5 (Go.Operand.tmp 109)
    (Go.Operand.const (Go.Value.int Go.IntKind.u8 39)) t109 (Go.Value.int Go.IntKind.u8 39)) (fun t110 w => br t110 (S.v P (Instr.loadAt 99 t6) (fun t112_1 w
    => S.u P (Instr.storeAt 99 t4 t112_1) (fun w => S.p P (S.ldR 99 t4) (fun r4_13 w => K (.tuple #[r4_13, (Go.Value.bool false)]) w) w) w) w) (S.v P
    (Instr.fieldAt 99 t6 1) (fun t113 w => S.u P (Instr.storeAt 5 t113 (Go.Value.int Go.IntKind.u8 123)) (fun w => S.v P (S.bin Go.BinOp.add 3 (Go.Operand.tmp
    115) (Go.Operand.const (Go.Value.int Go.IntKind.i64 2)) a1 (Go.Value.int Go.IntKind.i64 2)) (fun t116 w => S.v P (Instr.index 9 a0 t116) (fun t117 w => S.v
    P (Go.convert 5 21 t117) (fun t118 w => S.v P (Instr.fieldAt 99 t6 2) (fun t119 w => S.u P (Instr.storeAt 21 t119 t118) (fun w => S.v P (S.bin Go.BinOp.add
    3 (Go.Operand.tmp 120) (Go.Operand.const (Go.Value.int Go.IntKind.i64 4)) a1 (Go.Value.int Go.IntKind.i64 4)) (fun t121 w => S.v P (Instr.fieldAt 99 t6 6)
    (fun t122 w => S.u P (Instr.storeAt 3 t122 t121) (fun w => S.v P (Instr.loadAt 99 t6) (fun t123 w => S.u P (Instr.storeAt 99 t4 t123) (fun w => S.p P
    (S.ldR 99 t4) (fun r4_14 w => K (.tuple #[r4_14, (Go.Value.bool true)]) w) w) w) w) w) w) w) w) w) w) w) w) w) w)) w) w) w)) w) w) w) (S.v P (Instr.fieldAt
    99 t6 1) (fun t125 w => S.v P (Instr.loadAt 5 t125) (fun t126 w => S.v P (S.bin Go.BinOp.eql 5 (Go.Operand.tmp 126) (Go.Operand.const (Go.Value.int
    Go.IntKind.u8 123)) t126 (Go.Value.int Go.IntKind.u8 123)) (fun t127 w => br t127 (S.v P (Instr.loadAt 99 t6) (fun t129 w => S.call P 69 [a0, t129] (fun
    t130 w => S.v P (Instr.extract t130 0) (fun t131 w => S.v P (Instr.extract t130 1) (fun t132 w => S.u P (Instr.storeAt 99 t4 t131) (fun w => S.p P (S.ldR
    99 t4) (fun r4_15 w => K (.tuple #[r4_15, t132]) w) w) w) w) w) w) w) (S.v P (Instr.loadAt 99 t6) (fun t134 w => S.call P 70 [a0, t134] (fun t135 w => S.v
    P (Instr.extract t135 0) (fun t136 w => S.v P (Instr.extract t135 1) (fun t137 w => S.u P (Instr.storeAt 99 t4 t136) (fun w => S.p P (S.ldR 99 t4) (fun
    r4_16 w => K (.tuple #[r4_16, t137]) w) w) w) w) w) w) w)) w) w) w)) w) w) w)) w) w) w)) w) w) w)) w) w) w)) w) w) w) w) w) w) w) w) w) w)) w) w) w) w) w)
    w) w
theorem F47_chk : chkFn Tryd.f47 (bodyOf Tryd.f47) [0, 1, 4, 5, 6, 13, 23, 28, 50, 63, 84, 96, 111, 124] [] 2 = true := by kernel_rfl
theorem F47_eq (a0 a1 : Value) (K : Value → World → Prop) (w : World) : F47 Tryd.prog a0 a1 K w = denFn Tryd.prog (has ents) [] [0, 1, 4, 5, 6, 13, 23, 28, 50, 63, 84, 96, 111, 124] (bodyOf Tryd.f47) Tryd.f47.results.toList [a0, a1] K w := by kernel_rfl
theorem F47_link {a0 a1 : Value} {K : Value → World → Prop} {w : World} (h : F47 Tryd.prog a0 a1 K w) : S.call Tryd.prog 47 [a0, a1] K w :=
  calls_of_den entOk mixOk Tryd.func47 rfl F47_chk (Eq.mp (F47_eq a0 a1 K w) h)
/-- (*lanyard/tparm.parser).one -/
def F51 (P : Program) (a0 : Value) (K : Value → World → Prop) (w : World) : Prop :=
  S.v P (Instr.alloc 76 true (.tuple #[])) (fun t2 w => S.call P 75 [a0] (fun t17 w => S.v P (Instr.extract t17 0) (fun t18 w => S.v P (Instr.extract t17 1) (fun
    t19 w => S.v P (S.bin Go.BinOp.neq 5 (Go.Operand.tmp 20) (Go.Operand.const (Go.Value.int Go.IntKind.u8 37)) t18 (Go.Value.int Go.IntKind.u8 37)) (fun t21 w
    => br t21 (S.v P (Instr.build 76 #[(2, t18)]) (fun t23 w => S.u P (Instr.storeAt 76 t2 t23) (fun w => S.p P (S.ldR 76 t2) (fun r2 w => K (.tuple #[r2,
    (Go.Value.bool true)]) w) w) w) w) (S.call P 75 [a0] (fun t26 w => S.v P (Instr.extract t26 0) (fun t27 w => S.v P (Instr.extract t26 1) (fun t28 w => S.v
    P (Op.unary Go.UnOp.not t28) (fun t30 w => br t30 (S.v P (Instr.build 76 #[]) (fun t31 w => S.u P (Instr.storeAt 76 t2 t31) (fun w => S.p P (S.ldR 76 t2)
    (fun r2_1 w => K (.tuple #[r2_1, (Go.Value.bool false)]) w) w) w) w) (S.v P (S.bin Go.BinOp.eql 5 (Go.Operand.tmp 32) (Go.Operand.const (Go.Value.int
    Go.IntKind.u8 37)) t27 (Go.Value.int Go.IntKind.u8 37)) (fun t34 w => br t34 (S.v P (Instr.build 76 #[(2, (Go.Value.int Go.IntKind.u8 37))]) (fun t35 w =>
    S.u P (Instr.storeAt 76 t2 t35) (fun w => S.p P (S.ldR 76 t2) (fun r2_2 w => K (.tuple #[r2_2, (Go.Value.bool true)]) w) w) w) w) (S.seq (fun vs w => br
    (nth vs 0) (S.v P (Instr.build 76 #[(1, t27)]) (fun t60 w => S.u P (Instr.storeAt 76 t2 t60) (fun w => S.p P (S.ldR 76 t2) (fun r2_3 w => K (.tuple #[r2_3,
    (Go.Value.bool true)]) w) w) w) w) (S.v P (S.bin Go.BinOp.eql 5 (Go.Operand.tmp 32) (Go.Operand.const (Go.Value.int Go.IntKind.u8 112)) t27 (Go.Value.int
    Go.IntKind.u8 112)) (fun t62 w => br t62 (S.call P 75 [a0] (fun t65 w => S.v P (Instr.extract t65 0) (fun t66 w => S.v P (Instr.extract t65 1) (fun t67 w
    => S.v P (Instr.build 76 #[(1, t27), (2, t66)]) (fun t70 w => br t67 (S.v P (S.bin Go.BinOp.geq 5 (Go.Operand.tmp 73) (Go.Operand.const (Go.Value.int
    Go.IntKind.u8 49)) t66 (Go.Value.int Go.IntKind.u8 49)) (fun t74 w => br t74 (S.v P (S.bin Go.BinOp.leq 5 (Go.Operand.tmp 77) (Go.Operand.const
    (Go.Value.int Go.IntKind.u8 57)) t66 (Go.Value.int Go.IntKind.u8 57)) (fun t78 w => S.u P (Instr.storeAt 76 t2 t70) (fun w => S.p P (S.ldR 76 t2) (fun r2_4
    w => K (.tuple #[r2_4, t78]) w) w) w) w) (S.u P (Instr.storeAt 76 t2 t70) (fun w => S.p P (S.ldR 76 t2) (fun r2_5 w => K (.tuple #[r2_5, (Go.Value.bool
    false)]) w) w) w)) w) (S.u P (Instr.storeAt 76 t2 t70) (fun w => S.p P (S.ldR 76 t2) (fun r2_6 w => K (.tuple #[r2_6, (Go.Value.bool false)]) w) w) w)) w)
    w) w) w) (S.seq (fun vs_1 w => br (nth vs_1 0) (S.call P 75 [a0] (fun t85 w => S.v P (Instr.extract t85 0) (fun t86 w => S.v P (Instr.extract t85 1) (fun
    t87 w => S.v P (Instr.build 76 #[(1, t27), (2, t86)]) (fun t90 w => br t87 (S.call P 43 [t86] (fun t94 w => S.u P (Instr.storeAt 76 t2 t90) (fun w => S.p P
    (S.ldR 76 t2) (fun r2_7 w => K (.tuple #[r2_7, t94]) w) w) w) w) (S.u P (Instr.storeAt 76 t2 t90) (fun w => S.p P (S.ldR 76 t2) (fun r2_8 w => K (.tuple
    #[r2_8, (Go.Value.bool false)]) w) w) w)) w) w) w) w) (S.v P (S.bin Go.BinOp.eql 5 (Go.Operand.tmp 32) (Go.Operand.const (Go.Value.int Go.IntKind.u8 39))
    t27 (Go.Value.int Go.IntKind.u8 39)) (fun t97 w => br t97 (S.call P 75 [a0] (fun t100 w => S.v P (Instr.extract t100 0) (fun t101 w => S.v P (Instr.extract
    t100 1) (fun t102 w => S.call P 75 [a0] (fun t105 w => S.v P (Instr.extract t105 0) (fun t106 w => S.v P (Instr.extract t105 1) (fun t107 w => S.v P
    (Go.convert 5 21 t101) (fun t109 w => S.v P (Instr.build 76 #[(1, (Go.Value.int Go.IntKind.u8 123)), (3, t109)]) (fun t110 w => br t102 (br t107 (S.v P
    (S.bin Go.BinOp.eql 5 (Go.Operand.tmp 116) (Go.Operand.const (Go.Value.int Go.IntKind.u8 39)) t106 (Go.Value.int Go.IntKind.u8 39)) (fun t117 w => S.u P
    (Instr.storeAt 76 t2 t110) (fun w => S.p P (S.ldR 76 t2) (fun r2_9 w => K (.tuple #[r2_9, t117]) w) w) w) w) (S.u P (Instr.storeAt 76 t2 t110) (fun w =>
    S.p P (S.ldR 76 t2) (fun r2_10 w => K (.tuple #[r2_10, (Go.Value.bool false)]) w) w) w)) (S.u P (Instr.storeAt 76 t2 t110) (fun w => S.p P (S.ldR 76 t2)
    (fun r2_11 w => K (.tuple #[r2_11, (Go.Value.bool false)]) w) w) w)) w) w) w) w) w) w) w) w) (S.v P (S.bin Go.BinOp.eql 5 (Go.Operand.tmp 32)
    (Go.Operand.const (Go.Value.int Go.IntKind.u8 123)) t27 (Go.Value.int Go.IntKind.u8 123)) (fun t120 w => br t120 (S.call P 76 [a0] (fun t122 w => S.v P
    (Instr.extract t122 0) (fun t123 w => S.v P (Instr.extract t122 1) (fun t124 w => S.u P (Instr.storeAt 76 t2 t123) (fun w => S.p P (S.ldR 76 t2) (fun r2_12
    w => K (.tuple #[r2_12, t124]) w) w) w) w) w) w) (S.v P (S.nilC a0) (fun t126 w => S.v P (Instr.fieldAt 107 t126 1) (fun t127 w => S.v P (Instr.loadAt 3
    t127) (fun t128 w => S.v P (S.bin Go.BinOp.sub 3 (Go.Operand.tmp 128) (Go.Operand.const (Go.Value.int Go.IntKind.i64 1)) t128 (Go.Value.int Go.IntKind.i64
    1)) (fun t129 w => S.v P (S.nilC a0) (fun t130 w => S.v P (Instr.fieldAt 107 t130 1) (fun t131 w => S.u P (Instr.storeAt 3 t131 t129) (fun w => S.call P 77
    [a0] (fun t133 w => S.v P (Instr.extract t133 0) (fun t134 w => S.v P (Instr.extract t133 1) (fun t135 w => S.u P (Instr.storeAt 76 t2 t134) (fun w => S.p
    P (S.ldR 76 t2) (fun r2_13 w => K (.tuple #[r2_13, t135]) w) w) w) w) w) w) w) w) w) w) w) w) w)) w)) w)) (fun J_1 => S.v P (S.bin Go.BinOp.eql 5
    (Go.Operand.tmp 32) (Go.Operand.const (Go.Value.int Go.IntKind.u8 80)) t27 (Go.Value.int Go.IntKind.u8 80)) (fun t81 w => br t81 (J_1 [t81] w) (S.v P
    (S.bin Go.BinOp.eql 5 (Go.Operand.tmp 32) (Go.Operand.const (Go.Value.int Go.IntKind.u8 103)) t27 (Go.Value.int Go.IntKind.u8 103)) (fun t82 w => J_1 [t82]
    w) w)) w))) w)) (fun J => S.v P (S.bin Go.BinOp.eql 5 (Go.Operand.tmp 32) (Go.Operand.const (Go.Value.int Go.IntKind.u8 99)) t27 (Go.Value.int
    Go.IntKind.u8 99)) (fun t37 w => br t37 (J [t37] w) (S.v P (S.bin Go.BinOp.eql 5 (Go.Operand.tmp 32) (Go.Operand.const (Go.Value.int Go.IntKind.u8 105))
    t27 (Go.Value.int Go.IntKind.u8 105)) (fun t38 w => br t38 (J [t38] w) (S.v P (S.bin Go.BinOp.eql 5 (Go.Operand.tmp 32) (Go.Operand.const (Go.Value.int
    Go.IntKind.u8 108)) t27 (Go.Value.int Go.IntKind.u8 108)) (fun t39 w => br t39 (J [t39] w) (S.v P (S.bin Go.BinOp.eql 5 (Go.Operand.tmp 32)
    (Go.Operand.const (Go.Value.int Go.IntKind.u8 43)) t27 (Go.Value.int Go.IntKind.u8 43)) (fun t40 w => br t40 (J [t40] w) (S.v P (S.bin Go.BinOp.eql 5
    (Go.Operand.tmp 32) (Go.Operand.const (Go.Value.int Go.IntKind.u8 45)) t27 (Go.Value.int Go.IntKind.u8 45)) (fun t41 w => br t41 (J [t41] w) (S.v P (S.bin
    Go.BinOp.eql 5 (Go.Operand.tmp 32) (Go.Operand.const (Go.Value.int Go.IntKind.u8 42)) t27 (Go.Value.int Go.IntKind.u8 42)) (fun t42 w => br t42 (J [t42] w)
    (S.v P (S.bin Go.BinOp.eql 5 (Go.Operand.tmp 32) (Go.Operand.const (Go.Value.int Go.IntKind.u8 47)) t27 (Go.Value.int Go.IntKind.u8 47)) (fun t43 w => br
    t43 (J [t43] w) (S.v P (S.bin Go.BinOp.eql 5 (Go.Operand.tmp 32) (Go.Operand.const (Go.Value.int Go.IntKind.u8 109)) t27 (Go.Value.int Go.IntKind.u8 109))
    (fun t44 w => br t44 (J [t44] w) (S.v P (S.bin Go.BinOp.eql 5 (Go.Operand.tmp 32) (Go.Operand.const (Go.Value.int Go.IntKind.u8 38)) t27 (Go.Value.int
    Go.IntKind.u8 38)) (fun t45 w => br t45 (J [t45] w) (S.v P (S.bin Go.BinOp.eql 5 (Go.Operand.tmp 32) (Go.Operand.const (Go.Value.int Go.IntKind.u8 124))
    t27 (Go.Value.int Go.IntKind.u8 124)) (fun t46 w => br t46 (J [t46] w) (S.v P (S.bin Go.BinOp.eql 5 (Go.Operand.tmp 32) (Go.Operand.const (Go.Value.int
    Go.IntKind.u8 94)) t27 (Go.Value.int Go.IntKind.u8 94)) (fun t47 w => br t47 (J [t47] w) (S.v P (S.bin Go.BinOp.eql 5 (Go.Operand.tmp 32) (Go.Operand.const
    (Go.Value.int Go.IntKind.u8 61)) t27 (Go.Value.int Go.IntKind.u8 61)) (fun t48 w => br t48 (J [t48] w) (S.v P (S.bin Go.BinOp.eql 5 (Go.Operand.tmp 32)
    (Go.Operand.const (Go.Value.int Go.IntKind.u8 62)) t27 (Go.Value.int Go.IntKind.u8 62)) (fun t49 w => br t49 (J [t49] w) (S.v P (S.bin Go.BinOp.eql 5
    (Go.Operand.tmp 32) (Go.Operand.const (Go.Value.int Go.IntKind.u8 60)) t27 (Go.Value.int Go.IntKind.u8 60)) (fun t50 w => br t50 (J [t50] w) (S.v P (S.bin
    Go.BinOp.eql 5 (Go.Operand.tmp 32) (Go.Operand.const (Go.Value.int Go.IntKind.u8 65)) t27 (Go.Value.int Go.IntKind.u8 65)) (fun t51 w => br t51 (J [t51] w)
    (S.v P (S.bin Go.BinOp.eql 5 (Go.Operand.tmp 32) (Go.Operand.const (Go.Value.int Go.IntKind.u8 79)) t27 (Go.Value.int Go.IntKind.u8 79)) (fun t52 w => br
    t52 (J [t52] w) (S.v P (S.bin Go.BinOp.eql 5 (Go.Operand.tmp 32) (Go.Operand.const (Go.Value.int Go.IntKind.u8 33)) t27 (Go.Value.int Go.IntKind.u8 33))
    (fun t53 w => br t53 (J [t53] w) (S.v P (S.bin Go.BinOp.eql 5 (Go.Operand.tmp 32) (Go.Operand.const (Go.Value.int Go.IntKind.u8 126)) t27 (Go.Value.int
    Go.IntKind.u8 126)) (fun t54 w => br t54 (J [t54] w) (S.v P (S.bin Go.BinOp.eql 5 (Go.Operand.tmp 32) (Go.Operand.const (Go.Value.int Go.IntKind.u8 63))
    t27 (Go.Value.int Go.IntKind.u8 63)) (fun t55 w => br t55 (J [t55] w) (S.v P (S.bin Go.BinOp.eql 5 (Go.Operand.tmp 32) (Go.Operand.const (Go.Value.int
    Go.IntKind.u8 116)) t27 (Go.Value.int Go.IntKind.u8 116)) (fun t56 w => br t56 (J [t56] w) (S.v P (S.bin Go.BinOp.eql 5 (Go.Operand.tmp 32)
    (Go.Operand.const (Go.Value.int Go.IntKind.u8 101)) t27 (Go.Value.int Go.IntKind.u8 101)) (fun t57 w => br t57 (J [t57] w) (S.v P (S.bin Go.BinOp.eql 5
    (Go.Operand.tmp 32) (Go.Operand.const (Go.Value.int Go.IntKind.u8 59)) t27 (Go.Value.int Go.IntKind.u8 59)) (fun t58 w => J [t58] w) w)) w)) w)) w)) w))
    w)) w)) w)) w)) w)) w)) w)) w)) w)) w)) w)) w)) w)) w)) w)) w)) w))) w)) w) w) w) w)) w) w) w) w) w
theorem F51_chk : chkFn Tryd.f51 (bodyOf Tryd.f51) [0, 2, 3, 4, 6, 7, 8, 9, 10, 11, 12, 13, 14, 21, 30, 32, 33, 36, 61, 80, 96, 119] [] 1 = true := by kernel_rfl
theorem F51_eq (a0 : Value) (K : Value → World → Prop) (w : World) : F51 Tryd.prog a0 K w = denFn Tryd.prog (has ents) [] [0, 2, 3, 4, 6, 7, 8, 9, 10, 11, 12, 13, 14, 21, 30, 32, 33, 36, 61, 80, 96, 119] (bodyOf Tryd.f51) Tryd.f51.results.toList [a0] K w := by kernel_rfl
theorem F51_link {a0 : Value} {K : Value → World → Prop} {w : World} (h : F51 Tryd.prog a0 K w) : S.call Tryd.prog 51 [a0] K w :=
  calls_of_den entOk mixOk Tryd.func51 rfl F51_chk (Eq.mp (F51_eq a0 K w) h)
/-- (*lanyard/tparm.machine).pop -/
def F52 (P : Program) (a0 : Value) (K : Value → World → Prop) (w : World) : Prop :=
  S.v P (Instr.alloc 36 true (.tuple #[])) (fun t2 w => S.v P (S.nilC a0) (fun t6 w => S.v P (Instr.fieldAt 73 t6 2) (fun t7 w => S.v P (Instr.loadAt 22 t7) (fun
    t8 w => S.v P (Builtin.len_ #[22] 3 #[t8]) (fun t9 w => S.v P (S.bin Go.BinOp.sub 3 (Go.Operand.tmp 9) (Go.Operand.const (Go.Value.int Go.IntKind.i64 1))
    t9 (Go.Value.int Go.IntKind.i64 1)) (fun t10 w => S.v P (S.bin Go.BinOp.lss 3 (Go.Operand.tmp 11) (Go.Operand.const (Go.Value.int Go.IntKind.i64 0)) t10
    (Go.Value.int Go.IntKind.i64 0)) (fun t12 w => br t12 (S.v P (Instr.build 36 #[]) (fun t13 w => S.u P (Instr.storeAt 36 t2 t13) (fun w => S.p P (S.ldR 36
    t2) (fun r2 w => K r2 w) w) w) w) (S.v P (S.nilC a0) (fun t15 w => S.v P (Instr.fieldAt 73 t15 2) (fun t16 w => S.v P (Instr.loadAt 22 t16) (fun t17 w =>
    S.v P (Instr.indexAt 22 t17 t10) (fun t19 w => S.v P (Instr.loadAt 36 t19) (fun t20 w => S.v P (Instr.alloc 36 true (.tuple #[])) (fun t4 w => S.u P
    (Instr.storeAt 36 t4 t20) (fun w => S.v P (S.nilC a0) (fun t23 w => S.v P (Instr.fieldAt 73 t23 2) (fun t24 w => S.v P (Instr.loadAt 22 t24) (fun t25 w =>
    S.v P (Instr.sliceAt 22 t25 none (some t10) none) (fun t27 w => S.v P (S.nilC a0) (fun t28 w => S.v P (Instr.fieldAt 73 t28 2) (fun t29 w => S.u P
    (Instr.storeAt 22 t29 t27) (fun w => S.v P (Instr.loadAt 36 t4) (fun t30 w => S.u P (Instr.storeAt 36 t2 t30) (fun w => S.p P (S.ldR 36 t2) (fun r2_1 w =>
    K r2_1 w) w) w) w) w) w) w) w) w) w) w) w) w) w) w) w) w) w)) w) w) w) w) w) w) w
theorem F52_chk : chkFn Tryd.f52 (bodyOf Tryd.f52) [0, 2, 3, 4, 12] [] 1 = true := by kernel_rfl
theorem F52_eq (a0 : Value) (K : Value → World → Prop) (w : World) : F52 Tryd.prog a0 K w = denFn Tryd.prog (has ents) [] [0, 2, 3, 4, 12] (bodyOf Tryd.f52) Tryd.f52.results.toList [a0] K w := by kernel_rfl
theorem F52_link {a0 : Value} {K : Value → World → Prop} {w : World} (h : F52 Tryd.prog a0 K w) : S.call Tryd.prog 52 [a0] K w :=
  calls_of_den entOk mixOk Tryd.func52 rfl F52_chk (Eq.mp (F52_eq a0 K w) h)
/-- (*lanyard/tparm.machine).write -/
def F53 (P : Program) (a0 a1 : Value) (K : Value → World → Prop) (w : World) : Prop :=
  S.v P (S.nilC a0) (fun t6 w => S.v P (Instr.fieldAt 73 t6 3) (fun t7 w => S.v P (Instr.loadAt 71 t7) (fun t8 w => S.v P (Builtin.len_ #[71] 3 #[t8]) (fun t9 w
    => S.v P (Builtin.len_ #[9] 3 #[a1]) (fun t11 w => S.v P (S.bin Go.BinOp.add 3 (Go.Operand.tmp 9) (Go.Operand.tmp 11) t9 t11) (fun t12 w => S.v P (S.bin
    Go.BinOp.gtr 3 (Go.Operand.tmp 12) (Go.Operand.const (Go.Value.int Go.IntKind.i64 16384)) t12 (Go.Value.int Go.IntKind.i64 16384)) (fun t13 w => br t13 (K
    (Go.Value.int Go.IntKind.i64 3) w) (S.v P (S.nilC a0) (fun t16 w => S.v P (Instr.fieldAt 73 t16 3) (fun t17 w => S.v P (Instr.loadAt 71 t17) (fun t18 w =>
    S.v P (Builtin.append_ #[71, 9] 71 #[t18, a1]) (fun t20 w => S.v P (S.nilC a0) (fun t21 w => S.v P (Instr.fieldAt 73 t21 3) (fun t22 w => S.u P
    (Instr.storeAt 71 t22 t20) (fun w => K (Go.Value.int Go.IntKind.i64 0) w) w) w) w) w) w) w) w)) w) w) w) w) w) w) w
theorem F53_chk : chkFn Tryd.f53 (bodyOf Tryd.f53) [0, 1, 4, 13] [] 2 = true := by kernel_rfl
theorem F53_eq (a0 a1 : Value) (K : Value → World → Prop) (w : World) : F53 Tryd.prog a0 a1 K w = denFn Tryd.prog (has ents) [] [0, 1, 4, 13] (bodyOf Tryd.f53) Tryd.f53.results.toList [a0, a1] K w := by kernel_rfl
theorem F53_link {a0 a1 : Value} {K : Value → World → Prop} {w : World} (h : F53 Tryd.prog a0 a1 K w) : S.call Tryd.prog 53 [a0, a1] K w :=
  calls_of_den entOk mixOk Tryd.func53 rfl F53_chk (Eq.mp (F53_eq a0 a1 K w) h)
/-- lanyard/tparm.formatted -/
def F54 (P : Program) (a0 a1 : Value) (K : Value → World → Prop) (w : World) : Prop :=
  S.v P (Instr.box 76 a0) (fun t2 w => S.v P (Instr.box 36 a1) (fun t3 w => S.seq (fun vs w => S.v P (Instr.fieldAt 76 t2 5) (fun t30 w => S.v P (Instr.loadAt 3
    t30) (fun t31 w => S.v P (Builtin.len_ #[9] 3 #[(nth vs 0)]) (fun t33 w => S.v P (S.bin Go.BinOp.sub 3 (Go.Operand.tmp 31) (Go.Operand.tmp 33) t31 t33)
    (fun t34 w => S.v P (Builtin.len_ #[9] 3 #[(nth vs 1)]) (fun t36 w => S.v P (S.bin Go.BinOp.sub 3 (Go.Operand.tmp 34) (Go.Operand.tmp 36) t34 t36) (fun t37
    w => S.v P (Builtin.max_ #[3, 3] 3 #[(Go.Value.int Go.IntKind.i64 0), t37]) (fun t38 w => S.v P (Instr.fieldAt 76 t2 4) (fun t40 w => S.v P (Instr.loadAt 9
    t40) (fun t41 w => S.call P 79 [t41, (Go.Value.string { data := #[45] })] (fun t42 w => br t42 (S.v P (S.bin Go.BinOp.add 9 (Go.Operand.tmp 43)
    (Go.Operand.tmp 44) (nth vs 1) (nth vs 0)) (fun t45 w => S.call P 16 [(Go.Value.string { data := #[32] }), t38] (fun t47 w => S.v P (S.bin Go.BinOp.add 9
    (Go.Operand.tmp 45) (Go.Operand.tmp 47) t45 t47) (fun t48 w => K t48 w) w) w) w) (S.v P (Instr.fieldAt 76 t2 4) (fun t50 w => S.v P (Instr.loadAt 9 t50)
    (fun t51 w => S.call P 79 [t51, (Go.Value.string { data := #[48] })] (fun t52 w => br t52 (S.v P (Instr.fieldAt 76 t2 6) (fun t54 w => S.v P (Instr.loadAt
    3 t54) (fun t55 w => S.v P (S.bin Go.BinOp.lss 3 (Go.Operand.tmp 55) (Go.Operand.const (Go.Value.int Go.IntKind.i64 0)) t55 (Go.Value.int Go.IntKind.i64
    0)) (fun t56 w => br t56 (S.v P (Instr.fieldAt 76 t2 2) (fun t59 w => S.v P (Instr.loadAt 5 t59) (fun t60 w => S.v P (S.bin Go.BinOp.neq 5 (Go.Operand.tmp
    60) (Go.Operand.const (Go.Value.int Go.IntKind.u8 115)) t60 (Go.Value.int Go.IntKind.u8 115)) (fun t61 w => br t61 (S.call P 16 [(Go.Value.string { data :=
    #[48] }), t38] (fun t65 w => S.v P (S.bin Go.BinOp.add 9 (Go.Operand.tmp 63) (Go.Operand.tmp 65) (nth vs 1) t65) (fun t66 w => S.v P (S.bin Go.BinOp.add 9
    (Go.Operand.tmp 66) (Go.Operand.tmp 67) t66 (nth vs 0)) (fun t68 w => K t68 w) w) w) w) (S.call P 16 [(Go.Value.string { data := #[32] }), t38] (fun t70 w
    => S.v P (S.bin Go.BinOp.add 9 (Go.Operand.tmp 70) (Go.Operand.tmp 71) t70 (nth vs 1)) (fun t72 w => S.v P (S.bin Go.BinOp.add 9 (Go.Operand.tmp 72)
    (Go.Operand.tmp 73) t72 (nth vs 0)) (fun t74 w => K t74 w) w) w) w)) w) w) w) (S.call P 16 [(Go.Value.string { data := #[32] }), t38] (fun t70_1 w => S.v P
    (S.bin Go.BinOp.add 9 (Go.Operand.tmp 70) (Go.Operand.tmp 71) t70_1 (nth vs 1)) (fun t72_1 w => S.v P (S.bin Go.BinOp.add 9 (Go.Operand.tmp 72)
    (Go.Operand.tmp 73) t72_1 (nth vs 0)) (fun t74_1 w => K t74_1 w) w) w) w)) w) w) w) (S.call P 16 [(Go.Value.string { data := #[32] }), t38] (fun t70_2 w =>
    S.v P (S.bin Go.BinOp.add 9 (Go.Operand.tmp 70) (Go.Operand.tmp 71) t70_2 (nth vs 1)) (fun t72_2 w => S.v P (S.bin Go.BinOp.add 9 (Go.Operand.tmp 72)
    (Go.Operand.tmp 73) t72_2 (nth vs 0)) (fun t74_2 w => K t74_2 w) w) w) w)) w) w) w)) w) w) w) w) w) w) w) w) w) w) (fun J => S.v P (Instr.fieldAt 76 t2 2)
    (fun t8 w => S.v P (Instr.loadAt 5 t8) (fun t9 w => S.v P (S.bin Go.BinOp.eql 5 (Go.Operand.tmp 9) (Go.Operand.const (Go.Value.int Go.IntKind.u8 115)) t9
    (Go.Value.int Go.IntKind.u8 115)) (fun t10 w => br t10 (S.v P (Instr.fieldAt 36 t3 1) (fun t11 w => S.v P (Instr.loadAt 9 t11) (fun t12 w => S.v P
    (Instr.fieldAt 76 t2 6) (fun t13 w => S.v P (Instr.loadAt 3 t13) (fun t14 w => S.v P (S.bin Go.BinOp.geq 3 (Go.Operand.tmp 14) (Go.Operand.const
    (Go.Value.int Go.IntKind.i64 0)) t14 (Go.Value.int Go.IntKind.i64 0)) (fun t15 w => br t15 (S.v P (Builtin.len_ #[9] 3 #[t12]) (fun t18 w => S.v P
    (Instr.fieldAt 76 t2 6) (fun t19 w => S.v P (Instr.loadAt 3 t19) (fun t20 w => S.v P (Builtin.min_ #[3, 3] 3 #[t18, t20]) (fun t21 w => S.v P
    (Instr.sliceAt 9 t12 none (some t21) none) (fun t22 w => J [t22, (Go.Value.string { data := #[] }), t10, t15] w) w) w) w) w) w) (J [t12, (Go.Value.string {
    data := #[] }), t10, t15] w)) w) w) w) w) w) (S.v P (Instr.loadAt 76 t2) (fun t24 w => S.v P (Instr.fieldAt 36 t3 0) (fun t25 w => S.v P (Instr.loadAt 21
    t25) (fun t26 w => S.call P 78 [t24, t26] (fun t27 w => S.v P (Instr.extract t27 0) (fun t28 w => S.v P (Instr.extract t27 1) (fun t29 w => J [t28, t29,
    t10, undef] w) w) w) w) w) w) w)) w) w) w)) w) w
theorem F54_chk : chkFn Tryd.f54 (bodyOf Tryd.f54) [0, 1, 2, 3, 4, 5, 6, 7, 10, 15, 39, 49] [] 2 = true := by kernel_rfl
theorem F54_eq (a0 a1 : Value) (K : Value → World → Prop) (w : World) : F54 Tryd.prog a0 a1 K w = denFn Tryd.prog (has ents) [] [0, 1, 2, 3, 4, 5, 6, 7, 10, 15, 39, 49] (bodyOf Tryd.f54) Tryd.f54.results.toList [a0, a1] K w := by kernel_rfl
theorem F54_link {a0 a1 : Value} {K : Value → World → Prop} {w : World} (h : F54 Tryd.prog a0 a1 K w) : S.call Tryd.prog 54 [a0, a1] K w :=
  calls_of_den entOk mixOk Tryd.func54 rfl F54_chk (Eq.mp (F54_eq a0 a1 K w) h)
/-- (*lanyard/tparm.machine).push -/
def F55 (P : Program) (a0 a1 : Value) (K : Value → World → Prop) (w : World) : Prop :=
  S.v P (Instr.box 36 a1) (fun t3 w => S.v P (S.nilC a0) (fun t6 w => S.v P (Instr.fieldAt 73 t6 2) (fun t7 w => S.v P (Instr.loadAt 22 t7) (fun t8 w => S.v P
    (Builtin.len_ #[22] 3 #[t8]) (fun t9 w => S.v P (S.bin Go.BinOp.geq 3 (Go.Operand.tmp 9) (Go.Operand.const (Go.Value.int Go.IntKind.i64 64)) t9
    (Go.Value.int Go.IntKind.i64 64)) (fun t10 w => br t10 (K (Go.Value.int Go.IntKind.i64 41) w) (S.drawn (fun w => ∃ H : World → Prop, H w ∧ (S.h P H (S.nilC
    a0) (fun t13 w => S.h P H (Instr.fieldAt 73 t13 2) (fun t14 w => S.h P H (Instr.loadAt 22 t14) (fun t15 w => S.h P H (Instr.loadAt 36 t3) (fun t16 w => S.v
    P (Instr.buildSlice 22 1 #[(0, t16)]) (fun t17 w => H w ∧ (S.v P (Builtin.append_ #[22, 22] 22 #[t15, t17]) (fun t18 w => H w ∧ (S.v P (S.nilC a0) (fun t19
    w => S.v P (Instr.fieldAt 73 t19 2) (fun t20 w => S.u P (Instr.storeAt 22 t20 t18) (fun w => K (Go.Value.int Go.IntKind.i64 0) w) w) w) w)) w)) w) w) w) w)
    w)) w)) w) w) w) w) w) w
theorem F55_chk : chkFn Tryd.f55 (bodyOf Tryd.f55) [0, 1, 3, 4, 10] [(3, { ord := (.step 0 true (.step 1 true (.step 2 true (.step 3 true (.step 4 true (.step 5 true (.step 6 false (.step 7 false (.step 8 false (.step 9 false (.step 10 false .fin))))))))))), flags := [6, 7], held := true, init := true })] 2 = true := by kernel_rfl
theorem F55_eq (a0 a1 : Value) (K : Value → World → Prop) (w : World) : F55 Tryd.prog a0 a1 K w = denFn Tryd.prog (has ents) [(3, { ord := (.step 0 true (.step 1 true (.step 2 true (.step 3 true (.step 4 true (.step 5 true (.step 6 false (.step 7 false (.step 8 false (.step 9 false (.step 10 false .fin))))))))))), flags := [6, 7], held := true, init := true })] [0, 1, 3, 4, 10] (bodyOf Tryd.f55) Tryd.f55.results.toList [a0, a1] K w := by kernel_rfl
theorem F55_link {a0 a1 : Value} {K : Value → World → Prop} {w : World} (h : F55 Tryd.prog a0 a1 K w) : S.call Tryd.prog 55 [a0, a1] K w :=
  calls_of_den entOk mixOk Tryd.func55 rfl F55_chk (Eq.mp (F55_eq a0 a1 K w) h)
/-- lanyard/tparm.truth -/
def F56 (P : Program) (a0 : Value) (K : Value → World → Prop) (w : World) : Prop :=
  br a0 (K (Go.Value.int Go.IntKind.i32 1) w) (K (Go.Value.int Go.IntKind.i32 0) w)
theorem F56_chk : chkFn Tryd.f56 (bodyOf Tryd.f56) [0, 2, 3] [] 1 = true := by kernel_rfl
theorem F56_eq (a0 : Value) (K : Value → World → Prop) (w : World) : F56 Tryd.prog a0 K w = denFn Tryd.prog (has ents) [] [0, 2, 3] (bodyOf Tryd.f56) Tryd.f56.results.toList [a0] K w := by kernel_rfl
theorem F56_link {a0 : Value} {K : Value → World → Prop} {w : World} (h : F56 Tryd.prog a0 K w) : S.call Tryd.prog 56 [a0] K w :=
  calls_of_den entOk mixOk Tryd.func56 rfl F56_chk (Eq.mp (F56_eq a0 K w) h)
/-- lanyard/tparm.two -/
def F57 (P : Program) (a0 a1 a2 : Value) (K : Value → World → Prop) (w : World) : Prop :=
  S.v P (S.bin Go.BinOp.eql 5 (Go.Operand.tmp 7) (Go.Operand.const (Go.Value.int Go.IntKind.u8 43)) a0 (Go.Value.int Go.IntKind.u8 43)) (fun t9 w => br t9 (S.v P
    (S.bin Go.BinOp.add 21 (Go.Operand.tmp 10) (Go.Operand.tmp 11) a1 a2) (fun t12 w => K t12 w) w) (S.v P (S.bin Go.BinOp.eql 5 (Go.Operand.tmp 7)
    (Go.Operand.const (Go.Value.int Go.IntKind.u8 45)) a0 (Go.Value.int Go.IntKind.u8 45)) (fun t14 w => br t14 (S.v P (S.bin Go.BinOp.sub 21 (Go.Operand.tmp
    15) (Go.Operand.tmp 16) a1 a2) (fun t17 w => K t17 w) w) (S.v P (S.bin Go.BinOp.eql 5 (Go.Operand.tmp 7) (Go.Operand.const (Go.Value.int Go.IntKind.u8 42))
    a0 (Go.Value.int Go.IntKind.u8 42)) (fun t19 w => br t19 (S.v P (S.bin Go.BinOp.mul 21 (Go.Operand.tmp 20) (Go.Operand.tmp 21) a1 a2) (fun t22 w => K t22
    w) w) (S.v P (S.bin Go.BinOp.eql 5 (Go.Operand.tmp 7) (Go.Operand.const (Go.Value.int Go.IntKind.u8 47)) a0 (Go.Value.int Go.IntKind.u8 47)) (fun t24 w =>
    br t24 (S.v P (S.bin Go.BinOp.eql 21 (Go.Operand.tmp 25) (Go.Operand.const (Go.Value.int Go.IntKind.i32 0)) a2 (Go.Value.int Go.IntKind.i32 0)) (fun t26 w
    => br t26 (K (Go.Value.int Go.IntKind.i32 0) w) (S.v P (Go.convert 21 2 a1) (fun t28 w => S.v P (Go.convert 21 2 a2) (fun t30 w => S.v P (S.bin
    Go.BinOp.quo 2 (Go.Operand.tmp 28) (Go.Operand.tmp 30) t28 t30) (fun t31 w => S.v P (Go.convert 2 21 t31) (fun t32 w => K t32 w) w) w) w) w)) w) (S.v P
    (S.bin Go.BinOp.eql 5 (Go.Operand.tmp 7) (Go.Operand.const (Go.Value.int Go.IntKind.u8 109)) a0 (Go.Value.int Go.IntKind.u8 109)) (fun t34 w => br t34 (S.v
    P (S.bin Go.BinOp.eql 21 (Go.Operand.tmp 35) (Go.Operand.const (Go.Value.int Go.IntKind.i32 0)) a2 (Go.Value.int Go.IntKind.i32 0)) (fun t36 w => br t36 (K
    (Go.Value.int Go.IntKind.i32 0) w) (S.v P (Go.convert 21 2 a1) (fun t38 w => S.v P (Go.convert 21 2 a2) (fun t40 w => S.v P (S.bin Go.BinOp.rem 2
    (Go.Operand.tmp 38) (Go.Operand.tmp 40) t38 t40) (fun t41 w => S.v P (Go.convert 2 21 t41) (fun t42 w => K t42 w) w) w) w) w)) w) (S.v P (S.bin
    Go.BinOp.eql 5 (Go.Operand.tmp 7) (Go.Operand.const (Go.Value.int Go.IntKind.u8 38)) a0 (Go.Value.int Go.IntKind.u8 38)) (fun t44 w => br t44 (S.v P (S.bin
    Go.BinOp.and 21 (Go.Operand.tmp 45) (Go.Operand.tmp 46) a1 a2) (fun t47 w => K t47 w) w) (S.v P (S.bin Go.BinOp.eql 5 (Go.Operand.tmp 7) (Go.Operand.const
    (Go.Value.int Go.IntKind.u8 124)) a0 (Go.Value.int Go.IntKind.u8 124)) (fun t49 w => br t49 (S.v P (S.bin Go.BinOp.or 21 (Go.Operand.tmp 50)
    (Go.Operand.tmp 51) a1 a2) (fun t52 w => K t52 w) w) (S.v P (S.bin Go.BinOp.eql 5 (Go.Operand.tmp 7) (Go.Operand.const (Go.Value.int Go.IntKind.u8 94)) a0
    (Go.Value.int Go.IntKind.u8 94)) (fun t54 w => br t54 (S.v P (S.bin Go.BinOp.xor 21 (Go.Operand.tmp 55) (Go.Operand.tmp 56) a1 a2) (fun t57 w => K t57 w)
    w) (S.v P (S.bin Go.BinOp.eql 5 (Go.Operand.tmp 7) (Go.Operand.const (Go.Value.int Go.IntKind.u8 61)) a0 (Go.Value.int Go.IntKind.u8 61)) (fun t59 w => br
    t59 (S.v P (S.bin Go.BinOp.eql 21 (Go.Operand.tmp 60) (Go.Operand.tmp 61) a1 a2) (fun t62 w => S.call P 56 [t62] (fun t63 w => K t63 w) w) w) (S.v P (S.bin
    Go.BinOp.eql 5 (Go.Operand.tmp 7) (Go.Operand.const (Go.Value.int Go.IntKind.u8 62)) a0 (Go.Value.int Go.IntKind.u8 62)) (fun t65 w => br t65 (S.v P (S.bin
    Go.BinOp.gtr 21 (Go.Operand.tmp 66) (Go.Operand.tmp 67) a1 a2) (fun t68 w => S.call P 56 [t68] (fun t69 w => K t69 w) w) w) (S.v P (S.bin Go.BinOp.eql 5
    (Go.Operand.tmp 7) (Go.Operand.const (Go.Value.int Go.IntKind.u8 60)) a0 (Go.Value.int Go.IntKind.u8 60)) (fun t71 w => br t71 (S.v P (S.bin Go.BinOp.lss
    21 (Go.Operand.tmp 72) (Go.Operand.tmp 73) a1 a2) (fun t74 w => S.call P 56 [t74] (fun t75 w => K t75 w) w) w) (S.v P (S.bin Go.BinOp.eql 5 (Go.Operand.tmp
    7) (Go.Operand.const (Go.Value.int Go.IntKind.u8 65)) a0 (Go.Value.int Go.IntKind.u8 65)) (fun t77 w => br t77 (S.v P (S.bin Go.BinOp.neq 21
    (Go.Operand.tmp 78) (Go.Operand.const (Go.Value.int Go.IntKind.i32 0)) a1 (Go.Value.int Go.IntKind.i32 0)) (fun t79 w => br t79 (S.v P (S.bin Go.BinOp.neq
    21 (Go.Operand.tmp 81) (Go.Operand.const (Go.Value.int Go.IntKind.i32 0)) a2 (Go.Value.int Go.IntKind.i32 0)) (fun t82 w => S.call P 56 [t82] (fun t84 w =>
    K t84 w) w) w) (S.call P 56 [(Go.Value.bool false)] (fun t84_1 w => K t84_1 w) w)) w) (S.v P (S.bin Go.BinOp.neq 21 (Go.Operand.tmp 85) (Go.Operand.const
    (Go.Value.int Go.IntKind.i32 0)) a1 (Go.Value.int Go.IntKind.i32 0)) (fun t86 w => br t86 (S.call P 56 [(Go.Value.bool true)] (fun t91 w => K t91 w) w)
    (S.v P (S.bin Go.BinOp.neq 21 (Go.Operand.tmp 88) (Go.Operand.const (Go.Value.int Go.IntKind.i32 0)) a2 (Go.Value.int Go.IntKind.i32 0)) (fun t89 w =>
    S.call P 56 [t89] (fun t91_1 w => K t91_1 w) w) w)) w)) w)) w)) w)) w)) w)) w)) w)) w)) w)) w)) w)) w
theorem F57_chk : chkFn Tryd.f57 (bodyOf Tryd.f57) [0, 1, 2, 6, 7, 8, 13, 18, 23, 26, 33, 36, 43, 48, 53, 58, 64, 70, 76] [] 3 = true := by kernel_rfl
theorem F57_eq (a0 a1 a2 : Value) (K : Value → World → Prop) (w : World) : F57 Tryd.prog a0 a1 a2 K w = denFn Tryd.prog (has ents) [] [0, 1, 2, 6, 7, 8, 13, 18, 23, 26, 33, 36, 43, 48, 53, 58, 64, 70, 76] (bodyOf Tryd.f57) Tryd.f57.results.toList [a0, a1, a2] K w := by kernel_rfl
theorem F57_link {a0 a1 a2 : Value} {K : Value → World → Prop} {w : World} (h : F57 Tryd.prog a0 a1 a2 K w) : S.call Tryd.prog 57 [a0, a1, a2] K w :=
  calls_of_den entOk mixOk Tryd.func57 rfl F57_chk (Eq.mp (F57_eq a0 a1 a2 K w) h)
/-- internal/stringslite.HasPrefix -/
def F65 (P : Program) (a0 a1 : Value) (K : Value → World → Prop) (w : World) : Prop :=
  S.v P (Builtin.len_ #[9] 3 #[a0]) (fun t6 w => S.v P (Builtin.len_ #[9] 3 #[a1]) (fun t8 w => S.v P (S.bin Go.BinOp.geq 3 (Go.Operand.tmp 6) (Go.Operand.tmp 8)
    t6 t8) (fun t9 w => br t9 (S.v P (Builtin.len_ #[9] 3 #[a1]) (fun t13 w => S.v P (Instr.sliceAt 9 a0 none (some t13) none) (fun t14 w => S.v P (S.bin
    Go.BinOp.eql 9 (Go.Operand.tmp 14) (Go.Operand.tmp 15) t14 a1) (fun t16 w => K t16 w) w) w) w) (K (Go.Value.bool false) w)) w) w) w
theorem F65_chk : chkFn Tryd.f65 (bodyOf Tryd.f65) [0, 1, 4] [] 2 = true := by kernel_rfl
theorem F65_eq (a0 a1 : Value) (K : Value → World → Prop) (w : World) : F65 Tryd.prog a0 a1 K w = denFn Tryd.prog (has ents) [] [0, 1, 4] (bodyOf Tryd.f65) Tryd.f65.results.toList [a0, a1] K w := by kernel_rfl
theorem F65_link {a0 a1 : Value} {K : Value → World → Prop} {w : World} (h : F65 Tryd.prog a0 a1 K w) : S.call Tryd.prog 65 [a0, a1] K w :=
  calls_of_den entOk mixOk Tryd.func65 rfl F65_chk (Eq.mp (F65_eq a0 a1 K w) h)
/-- lanyard/lanyardref04.in -/
def F68 (P : Program) (a0 a1 : Value) (K : Value → World → Prop) (w : World) : Prop :=
  S.loop (fun I => ∀ (x4 : Value) (x5 : Value) (x9 : Value) (x16 : Value) (w : World), (S.v P (Builtin.len_ #[9] 3 #[a1]) (fun t8 w => S.v P (S.bin Go.BinOp.lss
    3 (Go.Operand.tmp 6) (Go.Operand.tmp 8) x5 t8) (fun t9 w => br t9 (S.v P (Instr.index 9 a1 x5) (fun t14 w => S.v P (S.bin Go.BinOp.eql 5 (Go.Operand.tmp
    14) (Go.Operand.tmp 15) t14 a0) (fun t16 w => br t16 (K (Go.Value.bool true) w) (S.v P (S.bin Go.BinOp.add 3 (Go.Operand.tmp 10) (Go.Operand.const
    (Go.Value.int Go.IntKind.i64 1)) x5 (Go.Value.int Go.IntKind.i64 1)) (fun t11 w => I [x4, t11, t9, t16] w) w)) w) w) (K (Go.Value.bool false) w)) w) w) → I
    [x4, x5, x9, x16] w) [(Go.Value.bool false), (Go.Value.int Go.IntKind.i64 0), undef, undef] w
theorem F68_chk : chkFn Tryd.f68 (bodyOf Tryd.f68) [0, 1, 4, 5, 9, 16] [] 2 = true := by kernel_rfl
theorem F68_eq (a0 a1 : Value) (K : Value → World → Prop) (w : World) : F68 Tryd.prog a0 a1 K w = denFn Tryd.prog (has ents) [] [0, 1, 4, 5, 9, 16] (bodyOf Tryd.f68) Tryd.f68.results.toList [a0, a1] K w := by kernel_rfl
theorem F68_link {a0 a1 : Value} {K : Value → World → Prop} {w : World} (h : F68 Tryd.prog a0 a1 K w) : S.call Tryd.prog 68 [a0, a1] K w :=
  calls_of_den entOk mixOk Tryd.func68 rfl F68_chk (Eq.mp (F68_eq a0 a1 K w) h)
/-- lanyard/lanyardref04.braces -/
def F69 (P : Program) (a0 a1 : Value) (K : Value → World → Prop) (w : World) : Prop :=
  S.v P (Instr.box 99 a1) (fun t3 w => S.v P (Instr.alloc 99 true (.tuple #[])) (fun t4 w => S.v P (Instr.fieldAt 99 t3 0) (fun t10 w => S.v P (Instr.loadAt 3
    t10) (fun t11 w => S.v P (S.bin Go.BinOp.add 3 (Go.Operand.tmp 11) (Go.Operand.const (Go.Value.int Go.IntKind.i64 2)) t11 (Go.Value.int Go.IntKind.i64 2))
    (fun t12 w => S.v P (Builtin.len_ #[9] 3 #[a0]) (fun t15 w => S.v P (S.bin Go.BinOp.lss 3 (Go.Operand.tmp 13) (Go.Operand.tmp 15) t12 t15) (fun t16 w => br
    t16 (S.v P (Instr.index 9 a0 t12) (fun t20 w => S.v P (S.bin Go.BinOp.eql 5 (Go.Operand.tmp 20) (Go.Operand.const (Go.Value.int Go.IntKind.u8 45)) t20
    (Go.Value.int Go.IntKind.u8 45)) (fun t21 w => S.seq (fun vs w => S.call P 87 [a0, (nth vs 0)] (fun t29 w => S.v P (Instr.extract t29 0) (fun t30 w => S.v
    P (Instr.extract t29 1) (fun t31 w => S.v P (S.bin Go.BinOp.add 3 (Go.Operand.tmp 32) (Go.Operand.tmp 33) (nth vs 0) t31) (fun t34 w => S.v P (S.bin
    Go.BinOp.eql 3 (Go.Operand.tmp 35) (Go.Operand.const (Go.Value.int Go.IntKind.i64 0)) t31 (Go.Value.int Go.IntKind.i64 0)) (fun t36 w => br t36 (S.v P
    (Instr.loadAt 99 t3) (fun t53 w => S.u P (Instr.storeAt 99 t4 t53) (fun w => S.p P (S.ldR 99 t4) (fun r4 w => K (.tuple #[r4, (Go.Value.bool false)]) w) w)
    w) w) (S.v P (S.bin Go.BinOp.gtr 3 (Go.Operand.tmp 38) (Go.Operand.const (Go.Value.int Go.IntKind.i64 9)) t31 (Go.Value.int Go.IntKind.i64 9)) (fun t39 w
    => br t39 (S.v P (Instr.loadAt 99 t3) (fun t53_1 w => S.u P (Instr.storeAt 99 t4 t53_1) (fun w => S.p P (S.ldR 99 t4) (fun r4_1 w => K (.tuple #[r4_1,
    (Go.Value.bool false)]) w) w) w) w) (S.v P (Builtin.len_ #[9] 3 #[a0]) (fun t44 w => S.v P (S.bin Go.BinOp.geq 3 (Go.Operand.tmp 42) (Go.Operand.tmp 44)
    t34 t44) (fun t45 w => br t45 (S.v P (Instr.loadAt 99 t3) (fun t53_2 w => S.u P (Instr.storeAt 99 t4 t53_2) (fun w => S.p P (S.ldR 99 t4) (fun r4_2 w => K
    (.tuple #[r4_2, (Go.Value.bool false)]) w) w) w) w) (S.v P (Instr.index 9 a0 t34) (fun t50 w => S.v P (S.bin Go.BinOp.neq 5 (Go.Operand.tmp 50)
    (Go.Operand.const (Go.Value.int Go.IntKind.u8 125)) t50 (Go.Value.int Go.IntKind.u8 125)) (fun t51 w => br t51 (S.v P (Instr.loadAt 99 t3) (fun t53_3 w =>
    S.u P (Instr.storeAt 99 t4 t53_3) (fun w => S.p P (S.ldR 99 t4) (fun r4_3 w => K (.tuple #[r4_3, (Go.Value.bool false)]) w) w) w) w) (S.seq (fun vs_1 w =>
    S.v P (Go.convert 3 21 (nth vs_1 0)) (fun t58 w => S.v P (Instr.fieldAt 99 t3 2) (fun t59 w => S.u P (Instr.storeAt 21 t59 t58) (fun w => S.v P (S.bin
    Go.BinOp.add 3 (Go.Operand.tmp 60) (Go.Operand.const (Go.Value.int Go.IntKind.i64 1)) t34 (Go.Value.int Go.IntKind.i64 1)) (fun t61 w => S.v P
    (Instr.fieldAt 99 t3 6) (fun t62 w => S.u P (Instr.storeAt 3 t62 t61) (fun w => S.v P (Instr.loadAt 99 t3) (fun t63 w => S.u P (Instr.storeAt 99 t4 t63)
    (fun w => S.p P (S.ldR 99 t4) (fun r4_4 w => K (.tuple #[r4_4, (Go.Value.bool true)]) w) w) w) w) w) w) w) w) w) w) (fun J_1 => br t21 (S.v P (Op.unary
    Go.UnOp.neg t30) (fun t56 w => J_1 [t56, t21] w) w) (J_1 [t30, t21] w)))) w) w)) w) w)) w)) w) w) w) w) w) (fun J => br t21 (S.v P (S.bin Go.BinOp.add 3
    (Go.Operand.tmp 24) (Go.Operand.const (Go.Value.int Go.IntKind.i64 1)) t12 (Go.Value.int Go.IntKind.i64 1)) (fun t25 w => J [t25, t21] w) w) (J [t12, t21]
    w))) w) w) (S.seq (fun vs_2 w => S.call P 87 [a0, (nth vs_2 0)] (fun t29_1 w => S.v P (Instr.extract t29_1 0) (fun t30_1 w => S.v P (Instr.extract t29_1 1)
    (fun t31_1 w => S.v P (S.bin Go.BinOp.add 3 (Go.Operand.tmp 32) (Go.Operand.tmp 33) (nth vs_2 0) t31_1) (fun t34_1 w => S.v P (S.bin Go.BinOp.eql 3
    (Go.Operand.tmp 35) (Go.Operand.const (Go.Value.int Go.IntKind.i64 0)) t31_1 (Go.Value.int Go.IntKind.i64 0)) (fun t36_1 w => br t36_1 (S.v P (Instr.loadAt
    99 t3) (fun t53_4 w => S.u P (Instr.storeAt 99 t4 t53_4) (fun w => S.p P (S.ldR 99 t4) (fun r4_5 w => K (.tuple #[r4_5, (Go.Value.bool false)]) w) w) w) w)
    (S.v P (S.bin Go.BinOp.gtr 3 (Go.Operand.tmp 38) (Go.Operand.const (Go.Value.int Go.IntKind.i64 9)) t31_1 (Go.Value.int Go.IntKind.i64 9)) (fun t39_1 w =>
    br t39_1 (S.v P (Instr.loadAt 99 t3) (fun t53_5 w => S.u P (Instr.storeAt 99 t4 t53_5) (fun w => S.p P (S.ldR 99 t4) (fun r4_6 w => K (.tuple #[r4_6,
    (Go.Value.bool false)]) w) w) w) w) (S.v P (Builtin.len_ #[9] 3 #[a0]) (fun t44_1 w => S.v P (S.bin Go.BinOp.geq 3 (Go.Operand.tmp 42) (Go.Operand.tmp 44)
    t34_1 t44_1) (fun t45_1 w => br t45_1 (S.v P (Instr.loadAt 99 t3) (fun t53_6 w => S.u P (Instr.storeAt 99 t4 t53_6) (fun w => S.p P (S.ldR 99 t4) (fun r4_7
    w => K (.tuple #[r4_7, (Go.Value.bool false)]) w) w) w) w) (S.v P (Instr.index 9 a0 t34_1) (fun t50_1 w => S.v P (S.bin Go.BinOp.neq 5 (Go.Operand.tmp 50)
    (Go.Operand.const (Go.Value.int Go.IntKind.u8 125)) t50_1 (Go.Value.int Go.IntKind.u8 125)) (fun t51_1 w => br t51_1 (S.v P (Instr.loadAt 99 t3) (fun t53_7
    w => S.u P (Instr.storeAt 99 t4 t53_7) (fun w => S.p P (S.ldR 99 t4) (fun r4_8 w => K (.tuple #[r4_8, (Go.Value.bool false)]) w) w) w) w) (S.seq (fun vs_3
    w => S.v P (Go.convert 3 21 (nth vs_3 0)) (fun t58_1 w => S.v P (Instr.fieldAt 99 t3 2) (fun t59_1 w => S.u P (Instr.storeAt 21 t59_1 t58_1) (fun w => S.v
    P (S.bin Go.BinOp.add 3 (Go.Operand.tmp 60) (Go.Operand.const (Go.Value.int Go.IntKind.i64 1)) t34_1 (Go.Value.int Go.IntKind.i64 1)) (fun t61_1 w => S.v P
    (Instr.fieldAt 99 t3 6) (fun t62_1 w => S.u P (Instr.storeAt 3 t62_1 t61_1) (fun w => S.v P (Instr.loadAt 99 t3) (fun t63_1 w => S.u P (Instr.storeAt 99 t4
    t63_1) (fun w => S.p P (S.ldR 99 t4) (fun r4_9 w => K (.tuple #[r4_9, (Go.Value.bool true)]) w) w) w) w) w) w) w) w) w) w) (fun J_3 => J_3 [t30_1,
    (Go.Value.bool false)] w))) w) w)) w) w)) w)) w) w) w) w) w) (fun J_2 => J_2 [t12, (Go.Value.bool false)] w))) w) w) w) w) w) w) w
theorem F69_chk : chkFn Tryd.f69 (bodyOf Tryd.f69) [0, 1, 3, 4, 5, 6, 7, 8, 9, 23, 52, 54] [] 2 = true := by kernel_rfl
theorem F69_eq (a0 a1 : Value) (K : Value → World → Prop) (w : World) : F69 Tryd.prog a0 a1 K w = denFn Tryd.prog (has ents) [] [0, 1, 3, 4, 5, 6, 7, 8, 9, 23, 52, 54] (bodyOf Tryd.f69) Tryd.f69.results.toList [a0, a1] K w := by kernel_rfl
theorem F69_link {a0 a1 : Value} {K : Value → World → Prop} {w : World} (h : F69 Tryd.prog a0 a1 K w) : S.call Tryd.prog 69 [a0, a1] K w :=
  calls_of_den entOk mixOk Tryd.func69 rfl F69_chk (Eq.mp (F69_eq a0 a1 K w) h)
/-- lanyard/lanyardref04.format -/
def F70 (P : Program) (a0 a1 : Value) (K : Value → World → Prop) (w : World) : Prop :=
  S.v P (Instr.box 99 a1) (fun t3 w => S.v P (Instr.alloc 99 true (.tuple #[])) (fun t4 w => S.v P (Instr.fieldAt 99 t3 0) (fun t12 w => S.v P (Instr.loadAt 3
    t12) (fun t13 w => S.v P (S.bin Go.BinOp.add 3 (Go.Operand.tmp 13) (Go.Operand.const (Go.Value.int Go.IntKind.i64 1)) t13 (Go.Value.int Go.IntKind.i64 1))
    (fun t14 w => S.v P (Builtin.len_ #[9] 3 #[a0]) (fun t17 w => S.v P (S.bin Go.BinOp.lss 3 (Go.Operand.tmp 15) (Go.Operand.tmp 17) t14 t17) (fun t18 w => br
    t18 (S.v P (Instr.index 9 a0 t14) (fun t22 w => S.v P (S.bin Go.BinOp.eql 5 (Go.Operand.tmp 22) (Go.Operand.const (Go.Value.int Go.IntKind.u8 58)) t22
    (Go.Value.int Go.IntKind.u8 58)) (fun t23 w => S.seq (fun vs w => S.loop (fun I => ∀ (x6 : Value) (x64 : Value) (w : World), (S.v P (Builtin.len_ #[9] 3
    #[a0]) (fun t30 w => S.v P (S.bin Go.BinOp.lss 3 (Go.Operand.tmp 28) (Go.Operand.tmp 30) x6 t30) (fun t31 w => br t31 (S.v P (Instr.index 9 a0 x6) (fun t35
    w => S.v P (S.bin Go.BinOp.eql 5 (Go.Operand.tmp 35) (Go.Operand.const (Go.Value.int Go.IntKind.u8 35)) t35 (Go.Value.int Go.IntKind.u8 35)) (fun t36 w =>
    br t36 (S.drawn (fun w => S.p P (Instr.fieldAt 99 t3 3) (fun t65 w => S.p P (Instr.loadAt 9 t65) (fun t66 w => S.p P (S.bin Go.BinOp.add 3 (Go.Operand.tmp
    69) (Go.Operand.const (Go.Value.int Go.IntKind.i64 1)) x6 (Go.Value.int Go.IntKind.i64 1)) (fun t70 w => S.p P (Instr.sliceAt 9 a0 (some x6) (some t70)
    none) (fun t71 w => S.p P (S.bin Go.BinOp.add 9 (Go.Operand.tmp 66) (Go.Operand.tmp 71) t66 t71) (fun t72 w => S.p P (Instr.fieldAt 99 t3 3) (fun t73 w =>
    S.u P (Instr.storeAt 9 t73 t72) (fun w => S.v P (S.bin Go.BinOp.add 3 (Go.Operand.tmp 74) (Go.Operand.const (Go.Value.int Go.IntKind.i64 1)) x6
    (Go.Value.int Go.IntKind.i64 1)) (fun t75 w => I [t75, (Go.Value.bool true)] w) w) w) w) w) w) w) w) w) w) (S.v P (Instr.index 9 a0 x6) (fun t40 w => S.v P
    (S.bin Go.BinOp.eql 5 (Go.Operand.tmp 40) (Go.Operand.const (Go.Value.int Go.IntKind.u8 48)) t40 (Go.Value.int Go.IntKind.u8 48)) (fun t41 w => br t41
    (S.drawn (fun w => S.p P (Instr.fieldAt 99 t3 3) (fun t65_1 w => S.p P (Instr.loadAt 9 t65_1) (fun t66_1 w => S.p P (S.bin Go.BinOp.add 3 (Go.Operand.tmp
    69) (Go.Operand.const (Go.Value.int Go.IntKind.i64 1)) x6 (Go.Value.int Go.IntKind.i64 1)) (fun t70_1 w => S.p P (Instr.sliceAt 9 a0 (some x6) (some t70_1)
    none) (fun t71_1 w => S.p P (S.bin Go.BinOp.add 9 (Go.Operand.tmp 66) (Go.Operand.tmp 71) t66_1 t71_1) (fun t72_1 w => S.p P (Instr.fieldAt 99 t3 3) (fun
    t73_1 w => S.u P (Instr.storeAt 9 t73_1 t72_1) (fun w => S.v P (S.bin Go.BinOp.add 3 (Go.Operand.tmp 74) (Go.Operand.const (Go.Value.int Go.IntKind.i64 1))
    x6 (Go.Value.int Go.IntKind.i64 1)) (fun t75_1 w => I [t75_1, (Go.Value.bool true)] w) w) w) w) w) w) w) w) w) w) (S.v P (Instr.index 9 a0 x6) (fun t46 w
    => S.v P (S.bin Go.BinOp.eql 5 (Go.Operand.tmp 46) (Go.Operand.const (Go.Value.int Go.IntKind.u8 32)) t46 (Go.Value.int Go.IntKind.u8 32)) (fun t47 w => br
    t47 (S.drawn (fun w => S.p P (Instr.fieldAt 99 t3 3) (fun t65_2 w => S.p P (Instr.loadAt 9 t65_2) (fun t66_2 w => S.p P (S.bin Go.BinOp.add 3
    (Go.Operand.tmp 69) (Go.Operand.const (Go.Value.int Go.IntKind.i64 1)) x6 (Go.Value.int Go.IntKind.i64 1)) (fun t70_2 w => S.p P (Instr.sliceAt 9 a0 (some
    x6) (some t70_2) none) (fun t71_2 w => S.p P (S.bin Go.BinOp.add 9 (Go.Operand.tmp 66) (Go.Operand.tmp 71) t66_2 t71_2) (fun t72_2 w => S.p P
    (Instr.fieldAt 99 t3 3) (fun t73_2 w => S.u P (Instr.storeAt 9 t73_2 t72_2) (fun w => S.v P (S.bin Go.BinOp.add 3 (Go.Operand.tmp 74) (Go.Operand.const
    (Go.Value.int Go.IntKind.i64 1)) x6 (Go.Value.int Go.IntKind.i64 1)) (fun t75_2 w => I [t75_2, (Go.Value.bool true)] w) w) w) w) w) w) w) w) w) w) (br t23
    (S.v P (Instr.index 9 a0 x6) (fun t54 w => S.v P (S.bin Go.BinOp.eql 5 (Go.Operand.tmp 54) (Go.Operand.const (Go.Value.int Go.IntKind.u8 45)) t54
    (Go.Value.int Go.IntKind.u8 45)) (fun t55 w => br t55 (S.drawn (fun w => S.p P (Instr.fieldAt 99 t3 3) (fun t65_3 w => S.p P (Instr.loadAt 9 t65_3) (fun
    t66_3 w => S.p P (S.bin Go.BinOp.add 3 (Go.Operand.tmp 69) (Go.Operand.const (Go.Value.int Go.IntKind.i64 1)) x6 (Go.Value.int Go.IntKind.i64 1)) (fun
    t70_3 w => S.p P (Instr.sliceAt 9 a0 (some x6) (some t70_3) none) (fun t71_3 w => S.p P (S.bin Go.BinOp.add 9 (Go.Operand.tmp 66) (Go.Operand.tmp 71) t66_3
    t71_3) (fun t72_3 w => S.p P (Instr.fieldAt 99 t3 3) (fun t73_3 w => S.u P (Instr.storeAt 9 t73_3 t72_3) (fun w => S.v P (S.bin Go.BinOp.add 3
    (Go.Operand.tmp 74) (Go.Operand.const (Go.Value.int Go.IntKind.i64 1)) x6 (Go.Value.int Go.IntKind.i64 1)) (fun t75_3 w => I [t75_3, (Go.Value.bool true)]
    w) w) w) w) w) w) w) w) w) w) (S.v P (Instr.index 9 a0 x6) (fun t59 w => S.v P (S.bin Go.BinOp.eql 5 (Go.Operand.tmp 59) (Go.Operand.const (Go.Value.int
    Go.IntKind.u8 43)) t59 (Go.Value.int Go.IntKind.u8 43)) (fun t60 w => br t60 (S.drawn (fun w => S.p P (Instr.fieldAt 99 t3 3) (fun t65_4 w => S.p P
    (Instr.loadAt 9 t65_4) (fun t66_4 w => S.p P (S.bin Go.BinOp.add 3 (Go.Operand.tmp 69) (Go.Operand.const (Go.Value.int Go.IntKind.i64 1)) x6 (Go.Value.int
    Go.IntKind.i64 1)) (fun t70_4 w => S.p P (Instr.sliceAt 9 a0 (some x6) (some t70_4) none) (fun t71_4 w => S.p P (S.bin Go.BinOp.add 9 (Go.Operand.tmp 66)
    (Go.Operand.tmp 71) t66_4 t71_4) (fun t72_4 w => S.p P (Instr.fieldAt 99 t3 3) (fun t73_4 w => S.u P (Instr.storeAt 9 t73_4 t72_4) (fun w => S.v P (S.bin
    Go.BinOp.add 3 (Go.Operand.tmp 74) (Go.Operand.const (Go.Value.int Go.IntKind.i64 1)) x6 (Go.Value.int Go.IntKind.i64 1)) (fun t75_4 w => I [t75_4, t60] w)
    w) w) w) w) w) w) w) w) w) (S.call P 87 [a0, x6] (fun t79 w => S.v P (Instr.extract t79 0) (fun t80 w => S.v P (Instr.extract t79 1) (fun t81 w => S.v P
    (Instr.fieldAt 99 t3 4) (fun t83 w => S.u P (Instr.storeAt 3 t83 t80) (fun w => S.v P (S.bin Go.BinOp.add 3 (Go.Operand.tmp 84) (Go.Operand.tmp 85) x6 t81)
    (fun t86 w => S.v P (Instr.fieldAt 99 t3 5) (fun t87 w => S.u P (Instr.storeAt 3 t87 (Go.Value.int Go.IntKind.i64 (-1))) (fun w => S.seq (fun vs_1 w => S.v
    P (Instr.fieldAt 99 t3 4) (fun t111 w => S.v P (Instr.loadAt 3 t111) (fun t112 w => S.v P (S.bin Go.BinOp.gtr 3 (Go.Operand.tmp 112) (Go.Operand.const
    (Go.Value.int Go.IntKind.i64 1000)) t112 (Go.Value.int Go.IntKind.i64 1000)) (fun t113 w => br t113 (S.v P (Instr.loadAt 99 t3) (fun t125 w => S.u P
    (Instr.storeAt 99 t4 t125) (fun w => S.p P (S.ldR 99 t4) (fun r4 w => K (.tuple #[r4, (Go.Value.bool false)]) w) w) w) w) (S.v P (Instr.fieldAt 99 t3 5)
    (fun t115 w => S.v P (Instr.loadAt 3 t115) (fun t116 w => S.v P (S.bin Go.BinOp.gtr 3 (Go.Operand.tmp 116) (Go.Operand.const (Go.Value.int Go.IntKind.i64
    1000)) t116 (Go.Value.int Go.IntKind.i64 1000)) (fun t117 w => br t117 (S.v P (Instr.loadAt 99 t3) (fun t125_1 w => S.u P (Instr.storeAt 99 t4 t125_1) (fun
    w => S.p P (S.ldR 99 t4) (fun r4_1 w => K (.tuple #[r4_1, (Go.Value.bool false)]) w) w) w) w) (S.v P (Builtin.len_ #[9] 3 #[a0]) (fun t122 w => S.v P
    (S.bin Go.BinOp.geq 3 (Go.Operand.tmp 120) (Go.Operand.tmp 122) (nth vs_1 0) t122) (fun t123 w => br t123 (S.v P (Instr.loadAt 99 t3) (fun t125_2 w => S.u
    P (Instr.storeAt 99 t4 t125_2) (fun w => S.p P (S.ldR 99 t4) (fun r4_2 w => K (.tuple #[r4_2, (Go.Value.bool false)]) w) w) w) w) (S.v P (Instr.index 9 a0
    (nth vs_1 0)) (fun t128 w => S.v P (Instr.fieldAt 99 t3 1) (fun t129 w => S.u P (Instr.storeAt 5 t129 t128) (fun w => S.v P (S.bin Go.BinOp.add 3
    (Go.Operand.tmp 130) (Go.Operand.const (Go.Value.int Go.IntKind.i64 1)) (nth vs_1 0) (Go.Value.int Go.IntKind.i64 1)) (fun t131 w => S.v P (Instr.fieldAt
    99 t3 6) (fun t132 w => S.u P (Instr.storeAt 3 t132 t131) (fun w => S.drawn (fun w => ∃ H : World → Prop, H w ∧ (S.h P H (Instr.loadAt 99 t3) (fun t133 w
    => S.h P H (Instr.fieldAt 99 t3 1) (fun t134 w => S.h P H (Instr.loadAt 5 t134) (fun t135 w => S.h P H (S.bin Go.BinOp.eql 5 (Go.Operand.tmp 135)
    (Go.Operand.const (Go.Value.int Go.IntKind.u8 100)) t135 (Go.Value.int Go.IntKind.u8 100)) (fun t136 w => br t136 (S.u P (Instr.storeAt 99 t4 t133) (fun w
    => H w ∧ (S.p P (S.ldR 99 t4) (fun r4_3 w => K (.tuple #[r4_3, (Go.Value.bool true)]) w) w)) w) (S.h P H (Instr.fieldAt 99 t3 1) (fun t138 w => S.h P H
    (Instr.loadAt 5 t138) (fun t139 w => S.h P H (S.bin Go.BinOp.eql 5 (Go.Operand.tmp 139) (Go.Operand.const (Go.Value.int Go.IntKind.u8 111)) t139
    (Go.Value.int Go.IntKind.u8 111)) (fun t140 w => br t140 (S.u P (Instr.storeAt 99 t4 t133) (fun w => H w ∧ (S.p P (S.ldR 99 t4) (fun r4_4 w => K (.tuple
    #[r4_4, (Go.Value.bool true)]) w) w)) w) (S.h P H (Instr.fieldAt 99 t3 1) (fun t143 w => S.h P H (Instr.loadAt 5 t143) (fun t144 w => S.h P H (S.bin
    Go.BinOp.eql 5 (Go.Operand.tmp 144) (Go.Operand.const (Go.Value.int Go.IntKind.u8 120)) t144 (Go.Value.int Go.IntKind.u8 120)) (fun t145 w => br t145 (S.u
    P (Instr.storeAt 99 t4 t133) (fun w => H w ∧ (S.p P (S.ldR 99 t4) (fun r4_5 w => K (.tuple #[r4_5, (Go.Value.bool true)]) w) w)) w) (S.h P H (Instr.fieldAt
    99 t3 1) (fun t148 w => S.h P H (Instr.loadAt 5 t148) (fun t149 w => S.h P H (S.bin Go.BinOp.eql 5 (Go.Operand.tmp 149) (Go.Operand.const (Go.Value.int
    Go.IntKind.u8 88)) t149 (Go.Value.int Go.IntKind.u8 88)) (fun t150 w => br t150 (S.u P (Instr.storeAt 99 t4 t133) (fun w => H w ∧ (S.p P (S.ldR 99 t4) (fun
    r4_6 w => K (.tuple #[r4_6, (Go.Value.bool true)]) w) w)) w) (S.h P H (Instr.fieldAt 99 t3 1) (fun t153 w => S.h P H (Instr.loadAt 5 t153) (fun t154 w =>
    S.h P H (S.bin Go.BinOp.eql 5 (Go.Operand.tmp 154) (Go.Operand.const (Go.Value.int Go.IntKind.u8 115)) t154 (Go.Value.int Go.IntKind.u8 115)) (fun t155 w
    => S.u P (Instr.storeAt 99 t4 t133) (fun w => H w ∧ (S.p P (S.ldR 99 t4) (fun r4_7 w => K (.tuple #[r4_7, t155]) w) w)) w) w) w) w)) w) w) w)) w) w) w)) w)
    w) w)) w) w) w) w)) w) w) w) w) w) w) w)) w) w)) w) w) w)) w) w) w) (fun J_1 => S.v P (Builtin.len_ #[9] 3 #[a0]) (fun t90 w => S.v P (S.bin Go.BinOp.lss 3
    (Go.Operand.tmp 88) (Go.Operand.tmp 90) t86 t90) (fun t91 w => br t91 (S.v P (Instr.index 9 a0 t86) (fun t95 w => S.v P (S.bin Go.BinOp.eql 5
    (Go.Operand.tmp 95) (Go.Operand.const (Go.Value.int Go.IntKind.u8 46)) t95 (Go.Value.int Go.IntKind.u8 46)) (fun t96 w => br t96 (S.v P (S.bin Go.BinOp.add
    3 (Go.Operand.tmp 100) (Go.Operand.const (Go.Value.int Go.IntKind.i64 1)) t86 (Go.Value.int Go.IntKind.i64 1)) (fun t101 w => S.call P 87 [a0, t101] (fun
    t102 w => S.v P (Instr.extract t102 0) (fun t103 w => S.v P (Instr.extract t102 1) (fun t104 w => S.v P (Instr.fieldAt 99 t3 5) (fun t106 w => S.u P
    (Instr.storeAt 3 t106 t103) (fun w => S.v P (S.bin Go.BinOp.add 3 (Go.Operand.tmp 108) (Go.Operand.const (Go.Value.int Go.IntKind.i64 1)) t104
    (Go.Value.int Go.IntKind.i64 1)) (fun t109 w => S.v P (S.bin Go.BinOp.add 3 (Go.Operand.tmp 107) (Go.Operand.tmp 109) t86 t109) (fun t110 w => J_1 [t110,
    t103, t104, t96] w) w) w) w) w) w) w) w) w) (J_1 [t86, undef, undef, t96] w)) w) w) (J_1 [t86, undef, undef, (Go.Value.bool false)] w)) w) w)) w) w) w) w)
    w) w) w) w)) w) w)) w) w) (S.call P 87 [a0, x6] (fun t79_1 w => S.v P (Instr.extract t79_1 0) (fun t80_1 w => S.v P (Instr.extract t79_1 1) (fun t81_1 w =>
    S.v P (Instr.fieldAt 99 t3 4) (fun t83_1 w => S.u P (Instr.storeAt 3 t83_1 t80_1) (fun w => S.v P (S.bin Go.BinOp.add 3 (Go.Operand.tmp 84) (Go.Operand.tmp
    85) x6 t81_1) (fun t86_1 w => S.v P (Instr.fieldAt 99 t3 5) (fun t87_1 w => S.u P (Instr.storeAt 3 t87_1 (Go.Value.int Go.IntKind.i64 (-1))) (fun w =>
    S.seq (fun vs_2 w => S.v P (Instr.fieldAt 99 t3 4) (fun t111_1 w => S.v P (Instr.loadAt 3 t111_1) (fun t112_1 w => S.v P (S.bin Go.BinOp.gtr 3
    (Go.Operand.tmp 112) (Go.Operand.const (Go.Value.int Go.IntKind.i64 1000)) t112_1 (Go.Value.int Go.IntKind.i64 1000)) (fun t113_1 w => br t113_1 (S.v P
    (Instr.loadAt 99 t3) (fun t125_3 w => S.u P (Instr.storeAt 99 t4 t125_3) (fun w => S.p P (S.ldR 99 t4) (fun r4_8 w => K (.tuple #[r4_8, (Go.Value.bool
    false)]) w) w) w) w) (S.v P (Instr.fieldAt 99 t3 5) (fun t115_1 w => S.v P (Instr.loadAt 3 t115_1) (fun t116_1 w => S.v P (S.bin Go.BinOp.gtr 3
    (Go.Operand.tmp 116) (Go.Operand.const (Go.Value.int Go.IntKind.i64 1000)) t116_1 (Go.Value.int Go.IntKind.i64 1000)) (fun t117_1 w => br t117_1 (S.v P
    (Instr.loadAt 99 t3) (fun t125_4 w => S.u P (Instr.storeAt 99 t4 t125_4) (fun w => S.p P (S.ldR 99 t4) (fun r4_9 w => K (.tuple #[r4_9, (Go.Value.bool
    false)]) w) w) w) w) (S.v P (Builtin.len_ #[9] 3 #[a0]) (fun t122_1 w => S.v P (S.bin Go.BinOp.geq 3 (Go.Operand.tmp 120) (Go.Operand.tmp 122) (nth vs_2 0)
    t122_1) (fun t123_1 w => br t123_1 (S.v P (Instr.loadAt 99 t3) (fun t125_5 w => S.u P (Instr.storeAt 99 t4 t125_5) (fun w => S.p P (S.ldR 99 t4) (fun r4_10
    w => K (.tuple #[r4_10, (Go.Value.bool false)]) w) w) w) w) (S.v P (Instr.index 9 a0 (nth vs_2 0)) (fun t128_1 w => S.v P (Instr.fieldAt 99 t3 1) (fun
    t129_1 w => S.u P (Instr.storeAt 5 t129_1 t128_1) (fun w => S.v P (S.bin Go.BinOp.add 3 (Go.Operand.tmp 130) (Go.Operand.const (Go.Value.int Go.IntKind.i64
    1)) (nth vs_2 0) (Go.Value.int Go.IntKind.i64 1)) (fun t131_1 w => S.v P (Instr.fieldAt 99 t3 6) (fun t132_1 w => S.u P (Instr.storeAt 3 t132_1 t131_1)
    (fun w => S.drawn (fun w => ∃ H_1 : World → Prop, H_1 w ∧ (S.h P H_1 (Instr.loadAt 99 t3) (fun t133_1 w => S.h P H_1 (Instr.fieldAt 99 t3 1) (fun t134_1 w
    => S.h P H_1 (Instr.loadAt 5 t134_1) (fun t135_1 w => S.h P H_1 (S.bin Go.BinOp.eql 5 (Go.Operand.tmp 135) (Go.Operand.const (Go.Value.int Go.IntKind.u8
    100)) t135_1 (Go.Value.int Go.IntKind.u8 100)) (fun t136_1 w => br t136_1 (S.u P (Instr.storeAt 99 t4 t133_1) (fun w => H_1 w ∧ (S.p P (S.ldR 99 t4) (fun
    r4_11 w => K (.tuple #[r4_11, (Go.Value.bool true)]) w) w)) w) (S.h P H_1 (Instr.fieldAt 99 t3 1) (fun t138_1 w => S.h P H_1 (Instr.loadAt 5 t138_1) (fun
    t139_1 w => S.h P H_1 (S.bin Go.BinOp.eql 5 (Go.Operand.tmp 139) (Go.Operand.const (Go.Value.int Go.IntKind.u8 111)) t139_1 (Go.Value.int Go.IntKind.u8
    111)) (fun t140_1 w => br t140_1 (S.u P (Instr.storeAt 99 t4 t133_1) (fun w => H_1 w ∧ (S.p P (S.ldR 99 t4) (fun r4_12 w => K (.tuple #[r4_12,
    (Go.Value.bool true)]) w) w)) w) (S.h P H_1 (Instr.fieldAt 99 t3 1) (fun t143_1 w => S.h P H_1 (Instr.loadAt 5 t143_1) (fun t144_1 w => S.h P H_1 (S.bin
    Go.BinOp.eql 5 (Go.Operand.tmp 144) (Go.Operand.const (Go.Value.int Go.IntKind.u8 120)) t144_1 (Go.Value.int Go.IntKind.u8 120)) (fun t145_1 w => br t145_1
    (S.u P (Instr.storeAt 99 t4 t133_1) (fun w => H_1 w ∧ (S.p P (S.ldR 99 t4) (fun r4_13 w => K (.tuple #[r4_13, (Go.Value.bool true)]) w) w)) w) (S.h P H_1
    (Instr.fieldAt 99 t3 1) (fun t148_1 w => S.h P H_1 (Instr.loadAt 5 t148_1) (fun t149_1 w => S.h P H_1 (S.bin Go.BinOp.eql 5 (Go.Operand.tmp 149)
    (Go.Operand.const (Go.Value.int Go.IntKind.u8 88)) t149_1 (Go.Value.int Go.IntKind.u8 88)) (fun t150_1 w => br t150_1 (S.u P (Instr.storeAt 99 t4 t133_1)
    (fun w => H_1 w ∧ (S.p P (S.ldR 99 t4) (fun r4_14 w => K (.tuple #[r4_14, (Go.Value.bool true)]) w) w)) w) (S.h P H_1 (Instr.fieldAt 99 t3 1) (fun t153_1 w
    => S.h P H_1 (Instr.loadAt 5 t153_1) (fun t154_1 w => S.h P H_1 (S.bin Go.BinOp.eql 5 (Go.Operand.tmp 154) (Go.Operand.const (Go.Value.int Go.IntKind.u8
    115)) t154_1 (Go.Value.int Go.IntKind.u8 115)) (fun t155_1 w => S.u P (Instr.storeAt 99 t4 t133_1) (fun w => H_1 w ∧ (S.p P (S.ldR 99 t4) (fun r4_15 w => K
    (.tuple #[r4_15, t155_1]) w) w)) w) w) w) w)) w) w) w)) w) w) w)) w) w) w)) w) w) w) w)) w) w) w) w) w) w) w)) w) w)) w) w) w)) w) w) w) (fun J_2 => S.v P
    (Builtin.len_ #[9] 3 #[a0]) (fun t90_1 w => S.v P (S.bin Go.BinOp.lss 3 (Go.Operand.tmp 88) (Go.Operand.tmp 90) t86_1 t90_1) (fun t91_1 w => br t91_1 (S.v
    P (Instr.index 9 a0 t86_1) (fun t95_1 w => S.v P (S.bin Go.BinOp.eql 5 (Go.Operand.tmp 95) (Go.Operand.const (Go.Value.int Go.IntKind.u8 46)) t95_1
    (Go.Value.int Go.IntKind.u8 46)) (fun t96_1 w => br t96_1 (S.v P (S.bin Go.BinOp.add 3 (Go.Operand.tmp 100) (Go.Operand.const (Go.Value.int Go.IntKind.i64
    1)) t86_1 (Go.Value.int Go.IntKind.i64 1)) (fun t101_1 w => S.call P 87 [a0, t101_1] (fun t102_1 w => S.v P (Instr.extract t102_1 0) (fun t103_1 w => S.v P
    (Instr.extract t102_1 1) (fun t104_1 w => S.v P (Instr.fieldAt 99 t3 5) (fun t106_1 w => S.u P (Instr.storeAt 3 t106_1 t103_1) (fun w => S.v P (S.bin
    Go.BinOp.add 3 (Go.Operand.tmp 108) (Go.Operand.const (Go.Value.int Go.IntKind.i64 1)) t104_1 (Go.Value.int Go.IntKind.i64 1)) (fun t109_1 w => S.v P
    (S.bin Go.BinOp.add 3 (Go.Operand.tmp 107) (Go.Operand.tmp 109) t86_1 t109_1) (fun t110_1 w => J_2 [t110_1, t103_1, t104_1, t96_1] w) w) w) w) w) w) w) w)
    w) (J_2 [t86_1, undef, undef, t96_1] w)) w) w) (J_2 [t86_1, undef, undef, (Go.Value.bool false)] w)) w) w)) w) w) w) w) w) w) w) w))) w) w)) w) w)) w) w)
    (S.call P 87 [a0, x6] (fun t79_2 w => S.v P (Instr.extract t79_2 0) (fun t80_2 w => S.v P (Instr.extract t79_2 1) (fun t81_2 w => S.v P (Instr.fieldAt 99
    t3 4) (fun t83_2 w => S.u P (Instr.storeAt 3 t83_2 t80_2) (fun w => S.v P (S.bin Go.BinOp.add 3 (Go.Operand.tmp 84) (Go.Operand.tmp 85) x6 t81_2) (fun
    t86_2 w => S.v P (Instr.fieldAt 99 t3 5) (fun t87_2 w => S.u P (Instr.storeAt 3 t87_2 (Go.Value.int Go.IntKind.i64 (-1))) (fun w => S.seq (fun vs_3 w =>
    S.v P (Instr.fieldAt 99 t3 4) (fun t111_2 w => S.v P (Instr.loadAt 3 t111_2) (fun t112_2 w => S.v P (S.bin Go.BinOp.gtr 3 (Go.Operand.tmp 112)
    (Go.Operand.const (Go.Value.int Go.IntKind.i64 1000)) t112_2 (Go.Value.int Go.IntKind.i64 1000)) (fun t113_2 w => br t113_2 (S.v P (Instr.loadAt 99 t3)
    (fun t125_6 w => S.u P (Instr.storeAt 99 t4 t125_6) (fun w => S.p P (S.ldR 99 t4) (fun r4_16 w => K (.tuple #[r4_16, (Go.Value.bool false)]) w) w) w) w)
    (S.v P (Instr.fieldAt 99 t3 5) (fun t115_2 w => S.v P (Instr.loadAt 3 t115_2) (fun t116_2 w => S.v P (S.bin Go.BinOp.gtr 3 (Go.Operand.tmp 116)
    (Go.Operand.const (Go.Value.int Go.IntKind.i64 1000)) t116_2 (Go.Value.int Go.IntKind.i64 1000)) (fun t117_2 w => br t117_2 (S.v P (Instr.loadAt 99 t3)
    (fun t125_7 w => S.u P (Instr.storeAt 99 t4 t125_7) (fun w => S.p P (S.ldR 99 t4) (fun r4_17 w => K (.tuple #[r4_17, (Go.Value.bool false)]) w) w) w) w)
    (S.v P (Builtin.len_ #[9] 3 #[a0]) (fun t122_2 w => S.v P (S.bin Go.BinOp.geq 3 (Go.Operand.tmp 120) (Go.Operand.tmp 122) (nth vs_3 0) t122_2) (fun t123_2
    w => br t123_2 (S.v P (Instr.loadAt 99 t3) (fun t125_8 w => S.u P (Instr.storeAt 99 t4 t125_8) (fun w => S.p P (S.ldR 99 t4) (fun r4_18 w => K (.tuple
    #[r4_18, (Go.Value.bool false)]) w) w) w) w) (S.v P (Instr.index 9 a0 (nth vs_3 0)) (fun t128_2 w => S.v P (Instr.fieldAt 99 t3 1) (fun t129_2 w => S.u P
    (Instr.storeAt 5 t129_2 t128_2) (fun w => S.v P (S.bin Go.BinOp.add 3 (Go.Operand.tmp 130) (Go.Operand.const (Go.Value.int Go.IntKind.i64 1)) (nth vs_3 0)
    (Go.Value.int Go.IntKind.i64 1)) (fun t131_2 w => S.v P (Instr.fieldAt 99 t3 6) (fun t132_2 w => S.u P (Instr.storeAt 3 t132_2 t131_2) (fun w => S.drawn
    (fun w => ∃ H_2 : World → Prop, H_2 w ∧ (S.h P H_2 (Instr.loadAt 99 t3) (fun t133_2 w => S.h P H_2 (Instr.fieldAt 99 t3 1) (fun t134_2 w => S.h P H_2
    (Instr.loadAt 5 t134_2) (fun t135_2 w => S.h P H_2 (S.bin Go.BinOp.eql 5 (Go.Operand.tmp 135) (Go.Operand.const (Go.Value.int Go.IntKind.u8 100)) t135_2
    (Go.Value.int Go.IntKind.u8 100)) (fun t136_2 w => br t136_2 (S.u P (Instr.storeAt 99 t4 t133_2) (fun w => H_2 w ∧ (S.p P (S.ldR 99 t4) (fun r4_19 w => K
    (.tuple #[r4_19, (Go.Value.bool true)]) w) w)) w) (S.h P H_2 (Instr.fieldAt 99 t3 1) (fun t138_2 w => S.h P H_2 (Instr.loadAt 5 t138_2) (fun t139_2 w =>
    S.h P H_2 (S.bin Go.BinOp.eql 5 (Go.Operand.tmp 139) (Go.Operand.const (Go.Value.int Go.IntKind.u8 111)) t139_2 (Go.Value.int Go.IntKind.u8 111)) (fun
    t140_2 w => br t140_2 (S.u P (Instr.storeAt 99 t4 t133_2) (fun w => H_2 w ∧ (S.p P (S.ldR 99 t4) (fun r4_20 w => K (.tuple #[r4_20, (Go.Value.bool true)])
    w) w)) w) (S.h P H_2 (Instr.fieldAt 99 t3 1) (fun t143_2 w => S.h P H_2 (Instr.loadAt 5 t143_2) (fun t144_2 w => S.h P H_2 (S.bin Go.BinOp.eql 5
    (Go.Operand.tmp 144) (Go.Operand.const (Go.Value.int Go.IntKind.u8 120)) t144_2 (Go.Value.int Go.IntKind.u8 120)) (fun t145_2 w => br t145_2 (S.u P
    (Instr.storeAt 99 t4 t133_2) (fun w => H_2 w ∧ (S.p P (S.ldR 99 t4) (fun r4_21 w => K (.tuple #[r4_21, (Go.Value.bool true)]) w) w)) w) (S.h P H_2
    (Instr.fieldAt 99 t3 1) (fun t148_2 w => S.h P H_2 (Instr.loadAt 5 t148_2) (fun t149_2 w => S.h P H_2 (S.bin Go.BinOp.eql 5 (Go.Operand.tmp 149)
    (Go.Operand.const (Go.Value.int Go.IntKind.u8 88)) t149_2 (Go.Value.int Go.IntKind.u8 88)) (fun t150_2 w => br t150_2 (S.u P (Instr.storeAt 99 t4 t133_2)
    (fun w => H_2 w ∧ (S.p P (S.ldR 99 t4) (fun r4_22 w => K (.tuple #[r4_22, (Go.Value.bool true)]) w) w)) w) (S.h P H_2 (Instr.fieldAt 99 t3 1) (fun t153_2 w
    => S.h P H_2 (Instr.loadAt 5 t153_2) (fun t154_2 w => S.h P H_2 (S.bin Go.BinOp.eql 5 (Go.Operand.tmp 154) (Go.Operand.const (Go.Value.int Go.IntKind.u8
    115)) t154_2 (Go.Value.int Go.IntKind.u8 115)) (fun t155_2 w => S.u P (Instr.storeAt 99 t4 t133_2) (fun w => H_2 w ∧ (S.p P (S.ldR 99 t4) (fun r4_23 w => K
    (.tuple #[r4_23, t155_2]) w) w)) w) w) w) w)) w) w) w)) w) w) w)) w) w) w)) w) w) w) w)) w) w) w) w) w) w) w)) w) w)) w) w) w)) w) w) w) (fun J_3 => S.v P
    (Builtin.len_ #[9] 3 #[a0]) (fun t90_2 w => S.v P (S.bin Go.BinOp.lss 3 (Go.Operand.tmp 88) (Go.Operand.tmp 90) t86_2 t90_2) (fun t91_2 w => br t91_2 (S.v
    P (Instr.index 9 a0 t86_2) (fun t95_2 w => S.v P (S.bin Go.BinOp.eql 5 (Go.Operand.tmp 95) (Go.Operand.const (Go.Value.int Go.IntKind.u8 46)) t95_2
    (Go.Value.int Go.IntKind.u8 46)) (fun t96_2 w => br t96_2 (S.v P (S.bin Go.BinOp.add 3 (Go.Operand.tmp 100) (Go.Operand.const (Go.Value.int Go.IntKind.i64
    1)) t86_2 (Go.Value.int Go.IntKind.i64 1)) (fun t101_2 w => S.call P 87 [a0, t101_2] (fun t102_2 w => S.v P (Instr.extract t102_2 0) (fun t103_2 w => S.v P
    (Instr.extract t102_2 1) (fun t104_2 w => S.v P (Instr.fieldAt 99 t3 5) (fun t106_2 w => S.u P (Instr.storeAt 3 t106_2 t103_2) (fun w => S.v P (S.bin
    Go.BinOp.add 3 (Go.Operand.tmp 108) (Go.Operand.const (Go.Value.int Go.IntKind.i64 1)) t104_2 (Go.Value.int Go.IntKind.i64 1)) (fun t109_2 w => S.v P
    (S.bin Go.BinOp.add 3 (Go.Operand.tmp 107) (Go.Operand.tmp 109) t86_2 t109_2) (fun t110_2 w => J_3 [t110_2, t103_2, t104_2, t96_2] w) w) w) w) w) w) w) w)
    w) (J_3 [t86_2, undef, undef, t96_2] w)) w) w) (J_3 [t86_2, undef, undef, (Go.Value.bool false)] w)) w) w)) w) w) w) w) w) w) w) w)) w) w) → I [x6, x64] w)
    [(nth vs 0), undef] w) (fun J => br t23 (S.v P (S.bin Go.BinOp.add 3 (Go.Operand.tmp 26) (Go.Operand.const (Go.Value.int Go.IntKind.i64 1)) t14
    (Go.Value.int Go.IntKind.i64 1)) (fun t27 w => J [t27, t23] w) w) (J [t14, t23] w))) w) w) (S.seq (fun vs_4 w => S.loop (fun I_1 => ∀ (x6_1 : Value) (x64_1
    : Value) (w : World), (S.v P (Builtin.len_ #[9] 3 #[a0]) (fun t30_1 w => S.v P (S.bin Go.BinOp.lss 3 (Go.Operand.tmp 28) (Go.Operand.tmp 30) x6_1 t30_1)
    (fun t31_1 w => br t31_1 (S.v P (Instr.index 9 a0 x6_1) (fun t35_1 w => S.v P (S.bin Go.BinOp.eql 5 (Go.Operand.tmp 35) (Go.Operand.const (Go.Value.int
    Go.IntKind.u8 35)) t35_1 (Go.Value.int Go.IntKind.u8 35)) (fun t36_1 w => br t36_1 (S.drawn (fun w => S.p P (Instr.fieldAt 99 t3 3) (fun t65_5 w => S.p P
    (Instr.loadAt 9 t65_5) (fun t66_5 w => S.p P (S.bin Go.BinOp.add 3 (Go.Operand.tmp 69) (Go.Operand.const (Go.Value.int Go.IntKind.i64 1)) x6_1
    (Go.Value.int Go.IntKind.i64 1)) (fun t70_5 w => S.p P (Instr.sliceAt 9 a0 (some x6_1) (some t70_5) none) (fun t71_5 w => S.p P (S.bin Go.BinOp.add 9
    (Go.Operand.tmp 66) (Go.Operand.tmp 71) t66_5 t71_5) (fun t72_5 w => S.p P (Instr.fieldAt 99 t3 3) (fun t73_5 w => S.u P (Instr.storeAt 9 t73_5 t72_5) (fun
    w => S.v P (S.bin Go.BinOp.add 3 (Go.Operand.tmp 74) (Go.Operand.const (Go.Value.int Go.IntKind.i64 1)) x6_1 (Go.Value.int Go.IntKind.i64 1)) (fun t75_5 w
    => I_1 [t75_5, (Go.Value.bool true)] w) w) w) w) w) w) w) w) w) w) (S.v P (Instr.index 9 a0 x6_1) (fun t40_1 w => S.v P (S.bin Go.BinOp.eql 5
    (Go.Operand.tmp 40) (Go.Operand.const (Go.Value.int Go.IntKind.u8 48)) t40_1 (Go.Value.int Go.IntKind.u8 48)) (fun t41_1 w => br t41_1 (S.drawn (fun w =>
    S.p P (Instr.fieldAt 99 t3 3) (fun t65_6 w => S.p P (Instr.loadAt 9 t65_6) (fun t66_6 w => S.p P (S.bin Go.BinOp.add 3 (Go.Operand.tmp 69)
    (Go.Operand.const (Go.Value.int Go.IntKind.i64 1)) x6_1 (Go.Value.int Go.IntKind.i64 1)) (fun t70_6 w => S.p P (Instr.sliceAt 9 a0 (some x6_1) (some t70_6)
    none) (fun t71_6 w => S.p P (S.bin Go.BinOp.add 9 (Go.Operand.tmp 66) (Go.Operand.tmp 71) t66_6 t71_6) (fun t72_6 w => S.p P (Instr.fieldAt 99 t3 3) (fun
    t73_6 w => S.u P (Instr.storeAt 9 t73_6 t72_6) (fun w => S.v P (S.bin Go.BinOp.add 3 (Go.Operand.tmp 74) (Go.Operand.const (Go.Value.int Go.IntKind.i64 1))
    x6_1 (Go.Value.int Go.IntKind.i64 1)) (fun t75_6 w => I_1 [t75_6, (Go.Value.bool true)] w) w) w) w) w) w) w) w) w) w) (S.v P (Instr.index 9 a0 x6_1) (fun
    t46_1 w => S.v P (S.bin Go.BinOp.eql 5 (Go.Operand.tmp 46) (Go.Operand.const (Go.Value.int Go.IntKind.u8 32)) t46_1 (Go.Value.int Go.IntKind.u8 32)) (fun
    t47_1 w => br t47_1 (S.drawn (fun w => S.p P (Instr.fieldAt 99 t3 3) (fun t65_7 w => S.p P (Instr.loadAt 9 t65_7) (fun t66_7 w => S.p P (S.bin Go.BinOp.add
    3 (Go.Operand.tmp 69) (Go.Operand.const (Go.Value.int Go.IntKind.i64 1)) x6_1 (Go.Value.int Go.IntKind.i64 1)) (fun t70_7 w => S.p P (Instr.sliceAt 9 a0
    (some x6_1) (some t70_7) none) (fun t71_7 w => S.p P (S.bin Go.BinOp.add 9 (Go.Operand.tmp 66) (Go.Operand.tmp 71) t66_7 t71_7) (fun t72_7 w => S.p P
    (Instr.fieldAt 99 t3 3) (fun t73_7 w => S.u P (Instr.storeAt 9 t73_7 t72_7) (fun w => S.v P (S.bin Go.BinOp.add 3 (Go.Operand.tmp 74) (Go.Operand.const
    (Go.Value.int Go.IntKind.i64 1)) x6_1 (Go.Value.int Go.IntKind.i64 1)) (fun t75_7 w => I_1 [t75_7, (Go.Value.bool true)] w) w) w) w) w) w) w) w) w) w)
    (S.call P 87 [a0, x6_1] (fun t79_3 w => S.v P (Instr.extract t79_3 0) (fun t80_3 w => S.v P (Instr.extract t79_3 1) (fun t81_3 w => S.v P (Instr.fieldAt 99
    t3 4) (fun t83_3 w => S.u P (Instr.storeAt 3 t83_3 t80_3) (fun w => S.v P (S.bin Go.BinOp.add 3 (Go.Operand.tmp 84) (Go.Operand.tmp 85) x6_1 t81_3) (fun
    t86_3 w => S.v P (Instr.fieldAt 99 t3 5) (fun t87_3 w => S.u P (Instr.storeAt 3 t87_3 (Go.Value.int Go.IntKind.i64 (-1))) (fun w => S.seq (fun vs_5 w =>
    S.v P (Instr.fieldAt 99 t3 4) (fun t111_3 w => S.v P (Instr.loadAt 3 t111_3) (fun t112_3 w => S.v P (S.bin Go.BinOp.gtr 3 (Go.Operand.tmp 112)
    (Go.Operand.const (Go.Value.int Go.IntKind.i64 1000)) t112_3 (Go.Value.int Go.IntKind.i64 1000)) (fun t113_3 w => br t113_3 (S.v P (Instr.loadAt 99 t3)
    (fun t125_9 w => S.u P (Instr.storeAt 99 t4 t125_9) (fun w => S.p P (S.ldR 99 t4) (fun r4_24 w => K (.tuple #[r4_24, (Go.Value.bool false)]) w) w) w) w)
    (S.v P (Instr.fieldAt 99 t3 5) (fun t115_3 w => S.v P (Instr.loadAt 3 t115_3) (fun t116_3 w => S.v P (S.bin Go.BinOp.gtr 3 (Go.Operand.tmp 116)
    (Go.Operand.const (Go.Value.int Go.IntKind.i64 1000)) t116_3 (Go.Value.int Go.IntKind.i64 1000)) (fun t117_3 w => br t117_3 (S.v P (Instr.loadAt 99 t3)
    (fun t125_10 w => S.u P (Instr.storeAt 99 t4 t125_10) (fun w => S.p P (S.ldR 99 t4) (fun r4_25 w => K (.tuple #[r4_25, (Go.Value.bool false)]) w) w) w) w)
    (S.v P (Builtin.len_ #[9] 3 #[a0]) (fun t122_3 w => S.v P (S.bin Go.BinOp.geq 3 (Go.Operand.tmp 120) (Go.Operand.tmp 122) (nth vs_5 0) t122_3) (fun t123_3
    w => br t123_3 (S.v P (Instr.loadAt 99 t3) (fun t125_11 w => S.u P (Instr.storeAt 99 t4 t125_11) (fun w => S.p P (S.ldR 99 t4) (fun r4_26 w => K (.tuple
    #[r4_26, (Go.Value.bool false)]) w) w) w) w) (S.v P (Instr.index 9 a0 (nth vs_5 0)) (fun t128_3 w => S.v P (Instr.fieldAt 99 t3 1) (fun t129_3 w => S.u P
    (Instr.storeAt 5 t129_3 t128_3) (fun w => S.v P (S.bin Go.BinOp.add 3 (Go.Operand.tmp 130) (Go.Operand.const (Go.Value.int Go.IntKind.i64 1)) (nth vs_5 0)
    (Go.Value.int Go.IntKind.i64 1)) (fun t131_3 w => S.v P (Instr.fieldAt 99 t3 6) (fun t132_3 w => S.u P (Instr.storeAt 3 t132_3 t131_3) (fun w => S.drawn
    (fun w => ∃ H_3 : World → Prop, H_3 w ∧ (S.h P H_3 (Instr.loadAt 99 t3) (fun t133_3 w => S.h P H_3 (Instr.fieldAt 99 t3 1) (fun t134_3 w => S.h P H_3
    (Instr.loadAt 5 t134_3) (fun t135_3 w => S.h P H_3 (S.bin Go.BinOp.eql 5 (Go.Operand.tmp 135) (Go.Operand.const (Go.Value.int Go.IntKind.u8 100)) t135_3
    (Go.Value.int Go.IntKind.u8 100)) (fun t136_3 w => br t136_3 (S.u P (Instr.storeAt 99 t4 t133_3) (fun w => H_3 w ∧ (S.p P (S.ldR 99 t4) (fun r4_27 w => K
    (.tuple #[r4_27, (Go.Value.bool true)]) w) w)) w) (S.h P H_3 (Instr.fieldAt 99 t3 1) (fun t138_3 w => S.h P H_3 (Instr.loadAt 5 t138_3) (fun t139_3 w =>
    S.h P H_3 (S.bin Go.BinOp.eql 5 (Go.Operand.tmp 139) (Go.Operand.const (Go.Value.int Go.IntKind.u8 111)) t139_3 (Go.Value.int Go.IntKind.u8 111)) (fun
    t140_3 w => br t140_3 (S.u P (Instr.storeAt 99 t4 t133_3) (fun w => H_3 w ∧ (S.p P (S.ldR 99 t4) (fun r4_28 w => K (.tuple #[r4_28, (Go.Value.bool true)])
    w) w)) w) (S.h P H_3 (Instr.fieldAt 99 t3 1) (fun t143_3 w => S.h P H_3 (Instr.loadAt 5 t143_3) (fun t144_3 w => S.h P H_3 (S.bin Go.BinOp.eql 5
    (Go.Operand.tmp 144) (Go.Operand.const (Go.Value.int Go.IntKind.u8 120)) t144_3 (Go.Value.int Go.IntKind.u8 120)) (fun t145_3 w => br t145_3 (S.u P
    (Instr.storeAt 99 t4 t133_3) (fun w => H_3 w ∧ (S.p P (S.ldR 99 t4) (fun r4_29 w => K (.tuple #[r4_29, (Go.Value.bool true)]) w) w)) w) (S.h P H_3
    (Instr.fieldAt 99 t3 1) (fun t148_3 w => S.h P H_3 (Instr.loadAt 5 t148_3) (fun t149_3 w => S.h P H_3 (S.bin Go.BinOp.eql 5 (Go.Operand.tmp 149)
    (Go.Operand.const (Go.Value.int Go.IntKind.u8 88)) t149_3 (Go.Value.int Go.IntKind.u8 88)) (fun t150_3 w => br t150_3 (S.u P (Instr.storeAt 99 t4 t133_3)
    (fun w => H_3 w ∧ (S.p P (S.ldR 99 t4) (fun r4_30 w => K (.tuple #[r4_30, (Go.Value.bool true)]) w) w)) w) (S.h P H_3 (Instr.fieldAt 99 t3 1) (fun t153_3 w
    => S.h P H_3 (Instr.loadAt 5 t153_3) (fun t154_3 w => S.h P H_3 (S.bin Go.BinOp.eql 5 (Go.Operand.tmp 154) (Go.Operand.const (Go.Value.int Go.IntKind.u8
    115)) t154_3 (Go.Value.int Go.IntKind.u8 115)) (fun t155_3 w => S.u P (Instr.storeAt 99 t4 t133_3) (fun w => H_3 w ∧ (S.p P (S.ldR 99 t4) (fun r4_31 w => K
    (.tuple #[r4_31, t155_3]) w) w)) w) w) w) w)) w) w) w)) w) w) w)) w) w) w)) w) w) w) w)) w) w) w) w) w) w) w)) w) w)) w) w) w)) w) w) w) (fun J_5 => S.v P
    (Builtin.len_ #[9] 3 #[a0]) (fun t90_3 w => S.v P (S.bin Go.BinOp.lss 3 (Go.Operand.tmp 88) (Go.Operand.tmp 90) t86_3 t90_3) (fun t91_3 w => br t91_3 (S.v
    P (Instr.index 9 a0 t86_3) (fun t95_3 w => S.v P (S.bin Go.BinOp.eql 5 (Go.Operand.tmp 95) (Go.Operand.const (Go.Value.int Go.IntKind.u8 46)) t95_3
    (Go.Value.int Go.IntKind.u8 46)) (fun t96_3 w => br t96_3 (S.v P (S.bin Go.BinOp.add 3 (Go.Operand.tmp 100) (Go.Operand.const (Go.Value.int Go.IntKind.i64
    1)) t86_3 (Go.Value.int Go.IntKind.i64 1)) (fun t101_3 w => S.call P 87 [a0, t101_3] (fun t102_3 w => S.v P (Instr.extract t102_3 0) (fun t103_3 w => S.v P
    (Instr.extract t102_3 1) (fun t104_3 w => S.v P (Instr.fieldAt 99 t3 5) (fun t106_3 w => S.u P (Instr.storeAt 3 t106_3 t103_3) (fun w => S.v P (S.bin
    Go.BinOp.add 3 (Go.Operand.tmp 108) (Go.Operand.const (Go.Value.int Go.IntKind.i64 1)) t104_3 (Go.Value.int Go.IntKind.i64 1)) (fun t109_3 w => S.v P
    (S.bin Go.BinOp.add 3 (Go.Operand.tmp 107) (Go.Operand.tmp 109) t86_3 t109_3) (fun t110_3 w => J_5 [t110_3, t103_3, t104_3, t96_3] w) w) w) w) w) w) w) w)
    w) (J_5 [t86_3, undef, undef, t96_3] w)) w) w) (J_5 [t86_3, undef, undef, (Go.Value.bool false)] w)) w) w)) w) w) w) w) w) w) w) w)) w) w)) w) w)) w) w)
    (S.call P 87 [a0, x6_1] (fun t79_4 w => S.v P (Instr.extract t79_4 0) (fun t80_4 w => S.v P (Instr.extract t79_4 1) (fun t81_4 w => S.v P (Instr.fieldAt 99
    t3 4) (fun t83_4 w => S.u P (Instr.storeAt 3 t83_4 t80_4) (fun w => S.v P (S.bin Go.BinOp.add 3 (Go.Operand.tmp 84) (Go.Operand.tmp 85) x6_1 t81_4) (fun
    t86_4 w => S.v P (Instr.fieldAt 99 t3 5) (fun t87_4 w => S.u P (Instr.storeAt 3 t87_4 (Go.Value.int Go.IntKind.i64 (-1))) (fun w => S.seq (fun vs_6 w =>
    S.v P (Instr.fieldAt 99 t3 4) (fun t111_4 w => S.v P (Instr.loadAt 3 t111_4) (fun t112_4 w => S.v P (S.bin Go.BinOp.gtr 3 (Go.Operand.tmp 112)
    (Go.Operand.const (Go.Value.int Go.IntKind.i64 1000)) t112_4 (Go.Value.int Go.IntKind.i64 1000)) (fun t113_4 w => br t113_4 (S.v P (Instr.loadAt 99 t3)
    (fun t125_12 w => S.u P (Instr.storeAt 99 t4 t125_12) (fun w => S.p P (S.ldR 99 t4) (fun r4_32 w => K (.tuple #[r4_32, (Go.Value.bool false)]) w) w) w) w)
    (S.v P (Instr.fieldAt 99 t3 5) (fun t115_4 w => S.v P (Instr.loadAt 3 t115_4) (fun t116_4 w => S.v P (S.bin Go.BinOp.gtr 3 (Go.Operand.tmp 116)
    (Go.Operand.const (Go.Value.int Go.IntKind.i64 1000)) t116_4 (Go.Value.int Go.IntKind.i64 1000)) (fun t117_4 w => br t117_4 (S.v P (Instr.loadAt 99 t3)
    (fun t125_13 w => S.u P (Instr.storeAt 99 t4 t125_13) (fun w => S.p P (S.ldR 99 t4) (fun r4_33 w => K (.tuple #[r4_33, (Go.Value.bool false)]) w) w) w) w)
    (S.v P (Builtin.len_ #[9] 3 #[a0]) (fun t122_4 w => S.v P (S.bin Go.BinOp.geq 3 (Go.Operand.tmp 120) (Go.Operand.tmp 122) (nth vs_6 0) t122_4) (fun t123_4
    w => br t123_4 (S.v P (Instr.loadAt 99 t3) (fun t125_14 w => S.u P (Instr.storeAt 99 t4 t125_14) (fun w => S.p P (S.ldR 99 t4) (fun r4_34 w => K (.tuple
    #[r4_34, (Go.Value.bool false)]) w) w) w) w) (S.v P (Instr.index 9 a0 (nth vs_6 0)) (fun t128_4 w => S.v P (Instr.fieldAt 99 t3 1) (fun t129_4 w => S.u P
    (Instr.storeAt 5 t129_4 t128_4) (fun w => S.v P (S.bin Go.BinOp.add 3 (Go.Operand.tmp 130) (Go.Operand.const (Go.Value.int Go.IntKind.i64 1)) (nth vs_6 0)
    (Go.Value.int Go.IntKind.i64 1)) (fun t131_4 w => S.v P (Instr.fieldAt 99 t3 6) (fun t132_4 w => S.u P (Instr.storeAt 3 t132_4 t131_4) (fun w => S.drawn
    (fun w => ∃ H_4 : World → Prop, H_4 w ∧ (S.h P H_4 (Instr.loadAt 99 t3) (fun t133_4 w => S.h P H_4 (Instr.fieldAt 99 t3 1) (fun t134_4 w => S.h P H_4
    (Instr.loadAt 5 t134_4) (fun t135_4 w => S.h P H_4 (S.bin Go.BinOp.eql 5 (Go.Operand.tmp 135) (Go.Operand.const (Go.Value.int Go.IntKind.u8 100)) t135_4
    (Go.Value.int Go.IntKind.u8 100)) (fun t136_4 w => br t136_4 (S.u P (Instr.storeAt 99 t4 t133_4) (fun w => H_4 w ∧ (S.p P (S.ldR 99 t4) (fun r4_35 w => K
    (.tuple #[r4_35, (Go.Value.bool true)]) w) w)) w) (S.h P H_4 (Instr.fieldAt 99 t3 1) (fun t138_4 w => S.h P H_4 (Instr.loadAt 5 t138_4) (fun t139_4 w =>
    S.h P H_4 (S.bin Go.BinOp.eql 5 (Go.Operand.tmp 139) (Go.Operand.const (Go.Value.int Go.IntKind.u8 111)) t139_4 (Go.Value.int Go.IntKind.u8 111)) (fun
    t140_4 w => br t140_4 (S.u P (Instr.storeAt 99 t4 t133_4) (fun w => H_4 w ∧ (S.p P (S.ldR 99 t4) (fun r4_36 w => K (.tuple #[r4_36, (Go.Value.bool true)])
    w) w)) w) (S.h P H_4 (Instr.fieldAt 99 t3 1) (fun t143_4 w => S.h P H_4 (Instr.loadAt 5 t143_4) (fun t144_4 w => S.h P H_4 (S.bin Go.BinOp.eql 5
    (Go.Operand.tmp 144) (Go.Operand.const (Go.Value.int Go.IntKind.u8 120)) t144_4 (Go.Value.int Go.IntKind.u8 120)) (fun t145_4 w => br t145_4 (S.u P
    (Instr.storeAt 99 t4 t133_4) (fun w => H_4 w ∧ (S.p P (S.ldR 99 t4) (fun r4_37 w => K (.tuple #[r4_37, (Go.Value.bool true)]) w) w)) w) (S.h P H_4
    (Instr.fieldAt 99 t3 1) (fun t148_4 w => S.h P H_4 (Instr.loadAt 5 t148_4) (fun t149_4 w => S.h P H_4 (S.bin Go.BinOp.eql 5 (Go.Operand.tmp 149)
    (Go.Operand.const (Go.Value.int Go.IntKind.u8 88)) t149_4 (Go.Value.int Go.IntKind.u8 88)) (fun t150_4 w => br t150_4 (S.u P (Instr.storeAt 99 t4 t133_4)
    (fun w => H_4 w ∧ (S.p P (S.ldR 99 t4) (fun r4_38 w => K (.tuple #[r4_38, (Go.Value.bool true)]) w) w)) w) (S.h P H_4 (Instr.fieldAt 99 t3 1) (fun t153_4 w
    => S.h P H_4 (Instr.loadAt 5 t153_4) (fun t154_4 w => S.h P H_4 (S.bin Go.BinOp.eql 5 (Go.Operand.tmp 154) (Go.Operand.const (Go.Value.int Go.IntKind.u8
    115)) t154_4 (Go.Value.int Go.IntKind.u8 115)) (fun t155_4 w => S.u P (Instr.storeAt 99 t4 t133_4) (fun w => H_4 w ∧ (S.p P (S.ldR 99 t4) (fun r4_39 w => K
    (.tuple #[r4_39, t155_4]) w) w)) w) w) w) w)) w) w) w)) w) w) w)) w) w) w)) w) w) w) w)) w) w) w) w) w) w) w)) w) w)) w) w) w)) w) w) w) (fun J_6 => S.v P
    (Builtin.len_ #[9] 3 #[a0]) (fun t90_4 w => S.v P (S.bin Go.BinOp.lss 3 (Go.Operand.tmp 88) (Go.Operand.tmp 90) t86_4 t90_4) (fun t91_4 w => br t91_4 (S.v
    P (Instr.index 9 a0 t86_4) (fun t95_4 w => S.v P (S.bin Go.BinOp.eql 5 (Go.Operand.tmp 95) (Go.Operand.const (Go.Value.int Go.IntKind.u8 46)) t95_4
    (Go.Value.int Go.IntKind.u8 46)) (fun t96_4 w => br t96_4 (S.v P (S.bin Go.BinOp.add 3 (Go.Operand.tmp 100) (Go.Operand.const (Go.Value.int Go.IntKind.i64
    1)) t86_4 (Go.Value.int Go.IntKind.i64 1)) (fun t101_4 w => S.call P 87 [a0, t101_4] (fun t102_4 w => S.v P (Instr.extract t102_4 0) (fun t103_4 w => S.v P
    (Instr.extract t102_4 1) (fun t104_4 w => S.v P (Instr.fieldAt 99 t3 5) (fun t106_4 w => S.u P (Instr.storeAt 3 t106_4 t103_4) (fun w => S.v P (S.bin
    Go.BinOp.add 3 (Go.Operand.tmp 108) (Go.Operand.const (Go.Value.int Go.IntKind.i64 1)) t104_4 (Go.Value.int Go.IntKind.i64 1)) (fun t109_4 w => S.v P
    (S.bin Go.BinOp.add 3 (Go.Operand.tmp 107) (Go.Operand.tmp 109) t86_4 t109_4) (fun t110_4 w => J_6 [t110_4, t103_4, t104_4, t96_4] w) w) w) w) w) w) w) w)
    w) (J_6 [t86_4, undef, undef, t96_4] w)) w) w) (J_6 [t86_4, undef, undef, (Go.Value.bool false)] w)) w) w)) w) w) w) w) w) w) w) w)) w) w) → I_1 [x6_1,
    x64_1] w) [(nth vs_4 0), undef] w) (fun J_4 => J_4 [t14, (Go.Value.bool false)] w))) w) w) w) w) w) w) w
theorem F70_chk : chkFn Tryd.f70 (bodyOf Tryd.f70) [0, 1, 3, 4, 5, 6, 7, 8, 9, 10, 11, 25, 64, 97, 124] [(6, { ord := (.step 0 true (.step 1 true (.step 2 true (.step 3 true (.step 4 true (.step 5 true (.step 6 true (.step 7 true (.step 8 true (.step 9 false .fin)))))))))), flags := [], held := false, init := true }), (20, { ord := (.step 0 true (.step 1 true (.step 2 true (.step 3 true (.step 4 true (.step 5 true (.step 6 true (.step 7 true (.step 8 true (.step 9 true (.step 10 true (.step 11 true (.step 12 true (.step 13 true (.step 14 true (.step 15 true (.step 16 true (.step 17 true (.step 18 true (.step 19 true (.step 20 true (.step 21 true (.step 22 true (.step 23 true (.step 24 false (.step 25 true .fin)))))))))))))))))))))))))), flags := [1, 2, 3, 5, 6, 7, 8, 10, 11, 12, 13, 15, 16, 17, 18, 24], held := true, init := true })] 2 = true := by kernel_rfl
theorem F70_eq (a0 a1 : Value) (K : Value → World → Prop) (w : World) : F70 Tryd.prog a0 a1 K w = denFn Tryd.prog (has ents) [(6, { ord := (.step 0 true (.step 1 true (.step 2 true (.step 3 true (.step 4 true (.step 5 true (.step 6 true (.step 7 true (.step 8 true (.step 9 false .fin)))))))))), flags := [], held := false, init := true }), (20, { ord := (.step 0 true (.step 1 true (.step 2 true (.step 3 true (.step 4 true (.step 5 true (.step 6 true (.step 7 true (.step 8 true (.step 9 true (.step 10 true (.step 11 true (.step 12 true (.step 13 true (.step 14 true (.step 15 true (.step 16 true (.step 17 true (.step 18 true (.step 19 true (.step 20 true (.step 21 true (.step 22 true (.step 23 true (.step 24 false (.step 25 true .fin)))))))))))))))))))))))))), flags := [1, 2, 3, 5, 6, 7, 8, 10, 11, 12, 13, 15, 16, 17, 18, 24], held := true, init := true })] [0, 1, 3, 4, 5, 6, 7, 8, 9, 10, 11, 25, 64, 97, 124] (bodyOf Tryd.f70) Tryd.f70.results.toList [a0, a1] K w := by kernel_rfl
theorem F70_link {a0 a1 : Value} {K : Value → World → Prop} {w : World} (h : F70 Tryd.prog a0 a1 K w) : S.call Tryd.prog 70 [a0, a1] K w :=
  calls_of_den entOk mixOk Tryd.func70 rfl F70_chk (Eq.mp (F70_eq a0 a1 K w) h)
/-- (*lanyard/tparm.parser).next -/
def F75 (P : Program) (a0 : Value) (K : Value → World → Prop) (w : World) : Prop :=
  S.drawn (fun w => S.p P (S.nilC a0) (fun t5 w => S.p P (Instr.fieldAt 107 t5 1) (fun t6 w => S.p P (Instr.loadAt 3 t6) (fun t7 w => S.p P (S.nilC a0) (fun t9 w
    => S.p P (Instr.fieldAt 107 t9 0) (fun t10 w => S.p P (Instr.loadAt 9 t10) (fun t11 w => S.p P (Builtin.len_ #[9] 3 #[t11]) (fun t12 w => S.p P (S.bin
    Go.BinOp.geq 3 (Go.Operand.tmp 7) (Go.Operand.tmp 12) t7 t12) (fun t13 w => br t13 (K (.tuple #[(Go.Value.int Go.IntKind.u8 0), (Go.Value.bool false)]) w)
    (S.v P (S.nilC a0) (fun t15 w => S.v P (Instr.fieldAt 107 t15 1) (fun t16 w => S.v P (Instr.loadAt 3 t16) (fun t17 w => S.v P (S.bin Go.BinOp.add 3
    (Go.Operand.tmp 17) (Go.Operand.const (Go.Value.int Go.IntKind.i64 1)) t17 (Go.Value.int Go.IntKind.i64 1)) (fun t18 w => S.v P (S.nilC a0) (fun t19 w =>
    S.v P (Instr.fieldAt 107 t19 1) (fun t20 w => S.u P (Instr.storeAt 3 t20 t18) (fun w => S.drawn (fun w => S.p P (S.nilC a0) (fun t22 w => S.p P
    (Instr.fieldAt 107 t22 0) (fun t23 w => S.p P (Instr.loadAt 9 t23) (fun t24 w => S.p P (S.nilC a0) (fun t26 w => S.p P (Instr.fieldAt 107 t26 1) (fun t27 w
    => S.p P (Instr.loadAt 3 t27) (fun t28 w => S.p P (S.bin Go.BinOp.sub 3 (Go.Operand.tmp 28) (Go.Operand.const (Go.Value.int Go.IntKind.i64 1)) t28
    (Go.Value.int Go.IntKind.i64 1)) (fun t29 w => S.p P (Instr.index 9 t24 t29) (fun t30 w => K (.tuple #[t30, (Go.Value.bool true)]) w) w) w) w) w) w) w) w)
    w) w) w) w) w) w) w) w) w)) w) w) w) w) w) w) w) w) w
theorem F75_chk : chkFn Tryd.f75 (bodyOf Tryd.f75) [0, 2, 3, 13] [(1, { ord := (.step 0 true (.step 1 true (.step 2 true (.step 3 true (.step 4 true (.step 5 true (.step 6 true (.step 7 true (.step 8 true (.step 9 true .fin)))))))))), flags := [], held := false, init := true }), (4, { ord := (.step 0 true (.step 1 true (.step 2 true (.step 3 true (.step 4 true (.step 5 true (.step 6 true (.step 7 true (.step 8 true (.step 9 true (.step 10 true (.step 11 true .fin)))))))))))), flags := [], held := false, init := true })] 1 = true := by kernel_rfl
theorem F75_eq (a0 : Value) (K : Value → World → Prop) (w : World) : F75 Tryd.prog a0 K w = denFn Tryd.prog (has ents) [(1, { ord := (.step 0 true (.step 1 true (.step 2 true (.step 3 true (.step 4 true (.step 5 true (.step 6 true (.step 7 true (.step 8 true (.step 9 true .fin)))))))))), flags := [], held := false, init := true }), (4, { ord := (.step 0 true (.step 1 true (.step 2 true (.step 3 true (.step 4 true (.step 5 true (.step 6 true (.step 7 true (.step 8 true (.step 9 true (.step 10 true (.step 11 true .fin)))))))))))), flags := [], held := false, init := true })] [0, 2, 3, 13] (bodyOf Tryd.f75) Tryd.f75.results.toList [a0] K w := by kernel_rfl
theorem F75_link {a0 : Value} {K : Value → World → Prop} {w : World} (h : F75 Tryd.prog a0 K w) : S.call Tryd.prog 75 [a0] K w :=
  calls_of_den entOk mixOk Tryd.func75 rfl F75_chk (Eq.mp (F75_eq a0 K w) h)
/-- (*lanyard/tparm.parser).number -/
def F76 (P : Program) (a0 : Value) (K : Value → World → Prop) (w : World) : Prop :=
  S.v P (Instr.alloc 76 true (.tuple #[])) (fun t2 w => S.seq (fun vs w => S.loop (fun I => ∀ (x3 : Value) (x5 : Value) (x6 : Value) (x21 : Value) (x39 : Value)
    (w : World), (S.call P 92 [a0] (fun t20 w => S.call P 93 [t20] (fun t21 w => br t21 (S.v P (S.bin Go.BinOp.mul 2 (Go.Operand.const (Go.Value.int
    Go.IntKind.i64 10)) (Go.Operand.tmp 22) (Go.Value.int Go.IntKind.i64 10) x5) (fun t23 w => S.call P 92 [a0] (fun t25 w => S.v P (S.bin Go.BinOp.sub 5
    (Go.Operand.tmp 25) (Go.Operand.const (Go.Value.int Go.IntKind.u8 48)) t25 (Go.Value.int Go.IntKind.u8 48)) (fun t26 w => S.v P (Go.convert 5 2 t26) (fun
    t27 w => S.v P (S.bin Go.BinOp.add 2 (Go.Operand.tmp 23) (Go.Operand.tmp 27) t23 t27) (fun t28 w => S.v P (S.nilC a0) (fun t30 w => S.v P (Instr.fieldAt
    107 t30 1) (fun t31 w => S.v P (Instr.loadAt 3 t31) (fun t32 w => S.v P (S.bin Go.BinOp.add 3 (Go.Operand.tmp 32) (Go.Operand.const (Go.Value.int
    Go.IntKind.i64 1)) t32 (Go.Value.int Go.IntKind.i64 1)) (fun t33 w => S.v P (S.nilC a0) (fun t34 w => S.v P (Instr.fieldAt 107 t34 1) (fun t35 w => S.u P
    (Instr.storeAt 3 t35 t33) (fun w => S.v P (S.bin Go.BinOp.add 3 (Go.Operand.tmp 36) (Go.Operand.const (Go.Value.int Go.IntKind.i64 1)) x6 (Go.Value.int
    Go.IntKind.i64 1)) (fun t37 w => S.v P (S.bin Go.BinOp.gtr 3 (Go.Operand.tmp 38) (Go.Operand.const (Go.Value.int Go.IntKind.i64 9)) t37 (Go.Value.int
    Go.IntKind.i64 9)) (fun t39 w => br t39 (S.v P (Instr.build 76 #[]) (fun t40 w => S.u P (Instr.storeAt 76 t2 t40) (fun w => S.p P (S.ldR 76 t2) (fun r2 w
    => K (.tuple #[r2, (Go.Value.bool false)]) w) w) w) w) (I [x3, t28, t37, t21, t39] w)) w) w) w) w) w) w) w) w) w) w) w) w) w) w) (S.call P 75 [a0] (fun t43
    w => S.v P (Instr.extract t43 0) (fun t44 w => S.v P (Instr.extract t43 1) (fun t45 w => S.v P (S.bin Go.BinOp.mul 2 (Go.Operand.tmp 46) (Go.Operand.tmp
    47) (nth vs 0) x5) (fun t48 w => S.v P (Go.convert 2 21 t48) (fun t49 w => S.v P (Instr.build 76 #[(1, (Go.Value.int Go.IntKind.u8 123)), (3, t49)]) (fun
    t50 w => br t45 (S.v P (S.bin Go.BinOp.eql 5 (Go.Operand.tmp 53) (Go.Operand.const (Go.Value.int Go.IntKind.u8 125)) t44 (Go.Value.int Go.IntKind.u8 125))
    (fun t54 w => br t54 (S.v P (S.bin Go.BinOp.gtr 3 (Go.Operand.tmp 57) (Go.Operand.const (Go.Value.int Go.IntKind.i64 0)) x6 (Go.Value.int Go.IntKind.i64
    0)) (fun t58 w => S.u P (Instr.storeAt 76 t2 t50) (fun w => S.p P (S.ldR 76 t2) (fun r2_1 w => K (.tuple #[r2_1, t58]) w) w) w) w) (S.u P (Instr.storeAt 76
    t2 t50) (fun w => S.p P (S.ldR 76 t2) (fun r2_2 w => K (.tuple #[r2_2, (Go.Value.bool false)]) w) w) w)) w) (S.u P (Instr.storeAt 76 t2 t50) (fun w => S.p
    P (S.ldR 76 t2) (fun r2_3 w => K (.tuple #[r2_3, (Go.Value.bool false)]) w) w) w)) w) w) w) w) w) w)) w) w) → I [x3, x5, x6, x21, x39] w) [(Go.Value.bool
    false), (Go.Value.int Go.IntKind.i64 0), (Go.Value.int Go.IntKind.i64 0), undef, undef] w) (fun J => S.call P 92 [a0] (fun t10 w => S.v P (S.bin
    Go.BinOp.eql 5 (Go.Operand.tmp 10) (Go.Operand.const (Go.Value.int Go.IntKind.u8 45)) t10 (Go.Value.int Go.IntKind.u8 45)) (fun t11 w => br t11 (S.v P
    (S.nilC a0) (fun t13 w => S.v P (Instr.fieldAt 107 t13 1) (fun t14 w => S.v P (Instr.loadAt 3 t14) (fun t15 w => S.v P (S.bin Go.BinOp.add 3
    (Go.Operand.tmp 15) (Go.Operand.const (Go.Value.int Go.IntKind.i64 1)) t15 (Go.Value.int Go.IntKind.i64 1)) (fun t16 w => S.v P (S.nilC a0) (fun t17 w =>
    S.v P (Instr.fieldAt 107 t17 1) (fun t18 w => S.u P (Instr.storeAt 3 t18 t16) (fun w => J [(Go.Value.int Go.IntKind.i64 (-1)), t11] w) w) w) w) w) w) w) w)
    (J [(Go.Value.int Go.IntKind.i64 1), t11] w)) w) w)) w
theorem F76_chk : chkFn Tryd.f76 (bodyOf Tryd.f76) [0, 2, 3, 4, 5, 6, 7, 8, 11, 21, 39] [] 1 = true := by kernel_rfl
theorem F76_eq (a0 : Value) (K : Value → World → Prop) (w : World) : F76 Tryd.prog a0 K w = denFn Tryd.prog (has ents) [] [0, 2, 3, 4, 5, 6, 7, 8, 11, 21, 39] (bodyOf Tryd.f76) Tryd.f76.results.toList [a0] K w := by kernel_rfl
theorem F76_link {a0 : Value} {K : Value → World → Prop} {w : World} (h : F76 Tryd.prog a0 K w) : S.call Tryd.prog 76 [a0] K w :=
  calls_of_den entOk mixOk Tryd.func76 rfl F76_chk (Eq.mp (F76_eq a0 K w) h)
/-- (*lanyard/tparm.parser).format -/
def F77 (P : Program) (a0 : Value) (K : Value → World → Prop) (w : World) : Prop :=
  S.v P (Instr.alloc 76 true (.tuple #[])) (fun t2 w => S.v P (Instr.build 76 #[(6, (Go.Value.int Go.IntKind.i64 (-1)))]) (fun t9 w => S.v P (Instr.alloc 76 true
    (.tuple #[])) (fun t4 w => S.u P (Instr.storeAt 76 t4 t9) (fun w => S.call P 92 [a0] (fun t11 w => S.v P (S.bin Go.BinOp.eql 5 (Go.Operand.tmp 11)
    (Go.Operand.const (Go.Value.int Go.IntKind.u8 58)) t11 (Go.Value.int Go.IntKind.u8 58)) (fun t12 w => S.seq (fun vs w => S.loop (fun I => ∀ (x6 : Value)
    (x44 : Value) (w : World), (S.call P 92 [a0] (fun t22 w => S.v P (S.bin Go.BinOp.neq 5 (Go.Operand.tmp 23) (Go.Operand.const (Go.Value.int Go.IntKind.u8
    35)) t22 (Go.Value.int Go.IntKind.u8 35)) (fun t24 w => br t24 (S.v P (S.bin Go.BinOp.neq 5 (Go.Operand.tmp 26) (Go.Operand.const (Go.Value.int
    Go.IntKind.u8 32)) t22 (Go.Value.int Go.IntKind.u8 32)) (fun t27 w => br t27 (S.v P (S.bin Go.BinOp.neq 5 (Go.Operand.tmp 30) (Go.Operand.const
    (Go.Value.int Go.IntKind.u8 48)) t22 (Go.Value.int Go.IntKind.u8 48)) (fun t31 w => br t31 (br t12 (S.v P (S.bin Go.BinOp.eql 5 (Go.Operand.tmp 36)
    (Go.Operand.const (Go.Value.int Go.IntKind.u8 45)) t22 (Go.Value.int Go.IntKind.u8 45)) (fun t37 w => br t37 (S.v P (Op.unary Go.UnOp.not (Go.Value.bool
    true)) (fun t43 w => br t43 (S.call P 94 [a0] (fun t61 w => S.v P (Instr.extract t61 0) (fun t62 w => S.v P (Instr.extract t61 1) (fun t63 w => S.v P
    (Instr.fieldAt 76 t4 5) (fun t64 w => S.u P (Instr.storeAt 3 t64 t62) (fun w => S.v P (Op.unary Go.UnOp.not t63) (fun t66 w => br t66 (S.v P (Instr.build
    76 #[]) (fun t67 w => S.u P (Instr.storeAt 76 t2 t67) (fun w => S.p P (S.ldR 76 t2) (fun r2 w => K (.tuple #[r2, (Go.Value.bool false)]) w) w) w) w) (S.seq
    (fun vs_1 w => S.call P 75 [a0] (fun t89 w => S.v P (Instr.extract t89 0) (fun t90 w => S.v P (Instr.extract t89 1) (fun t91 w => S.v P (Instr.fieldAt 76
    t4 1) (fun t92 w => S.u P (Instr.storeAt 5 t92 (Go.Value.int Go.IntKind.u8 100)) (fun w => S.v P (Instr.fieldAt 76 t4 2) (fun t94 w => S.u P (Instr.storeAt
    5 t94 t90) (fun w => S.v P (Instr.loadAt 76 t4) (fun t95 w => br t91 (S.v P (S.bin Go.BinOp.eql 5 (Go.Operand.tmp 98) (Go.Operand.const (Go.Value.int
    Go.IntKind.u8 100)) t90 (Go.Value.int Go.IntKind.u8 100)) (fun t99 w => br t99 (S.u P (Instr.storeAt 76 t2 t95) (fun w => S.p P (S.ldR 76 t2) (fun r2_1 w
    => K (.tuple #[r2_1, (Go.Value.bool true)]) w) w) w) (S.v P (S.bin Go.BinOp.eql 5 (Go.Operand.tmp 101) (Go.Operand.const (Go.Value.int Go.IntKind.u8 111))
    t90 (Go.Value.int Go.IntKind.u8 111)) (fun t102 w => br t102 (S.u P (Instr.storeAt 76 t2 t95) (fun w => S.p P (S.ldR 76 t2) (fun r2_2 w => K (.tuple
    #[r2_2, (Go.Value.bool true)]) w) w) w) (S.v P (S.bin Go.BinOp.eql 5 (Go.Operand.tmp 105) (Go.Operand.const (Go.Value.int Go.IntKind.u8 120)) t90
    (Go.Value.int Go.IntKind.u8 120)) (fun t106 w => br t106 (S.u P (Instr.storeAt 76 t2 t95) (fun w => S.p P (S.ldR 76 t2) (fun r2_3 w => K (.tuple #[r2_3,
    (Go.Value.bool true)]) w) w) w) (S.v P (S.bin Go.BinOp.eql 5 (Go.Operand.tmp 109) (Go.Operand.const (Go.Value.int Go.IntKind.u8 88)) t90 (Go.Value.int
    Go.IntKind.u8 88)) (fun t110 w => br t110 (S.u P (Instr.storeAt 76 t2 t95) (fun w => S.p P (S.ldR 76 t2) (fun r2_4 w => K (.tuple #[r2_4, (Go.Value.bool
    true)]) w) w) w) (S.v P (S.bin Go.BinOp.eql 5 (Go.Operand.tmp 113) (Go.Operand.const (Go.Value.int Go.IntKind.u8 115)) t90 (Go.Value.int Go.IntKind.u8
    115)) (fun t114 w => S.u P (Instr.storeAt 76 t2 t95) (fun w => S.p P (S.ldR 76 t2) (fun r2_5 w => K (.tuple #[r2_5, t114]) w) w) w) w)) w)) w)) w)) w) (S.u
    P (Instr.storeAt 76 t2 t95) (fun w => S.p P (S.ldR 76 t2) (fun r2_6 w => K (.tuple #[r2_6, (Go.Value.bool false)]) w) w) w)) w) w) w) w) w) w) w) w) (fun
    J_1 => S.call P 92 [a0] (fun t69 w => S.v P (S.bin Go.BinOp.eql 5 (Go.Operand.tmp 69) (Go.Operand.const (Go.Value.int Go.IntKind.u8 46)) t69 (Go.Value.int
    Go.IntKind.u8 46)) (fun t70 w => br t70 (S.v P (S.nilC a0) (fun t72 w => S.v P (Instr.fieldAt 107 t72 1) (fun t73 w => S.v P (Instr.loadAt 3 t73) (fun t74
    w => S.v P (S.bin Go.BinOp.add 3 (Go.Operand.tmp 74) (Go.Operand.const (Go.Value.int Go.IntKind.i64 1)) t74 (Go.Value.int Go.IntKind.i64 1)) (fun t75 w =>
    S.v P (S.nilC a0) (fun t76 w => S.v P (Instr.fieldAt 107 t76 1) (fun t77 w => S.u P (Instr.storeAt 3 t77 t75) (fun w => S.call P 94 [a0] (fun t80 w => S.v
    P (Instr.extract t80 0) (fun t81 w => S.v P (Instr.extract t80 1) (fun t82 w => S.v P (Instr.fieldAt 76 t4 6) (fun t83 w => S.u P (Instr.storeAt 3 t83 t81)
    (fun w => S.v P (Op.unary Go.UnOp.not t82) (fun t85 w => br t85 (S.v P (Instr.build 76 #[]) (fun t86 w => S.u P (Instr.storeAt 76 t2 t86) (fun w => S.p P
    (S.ldR 76 t2) (fun r2_7 w => K (.tuple #[r2_7, (Go.Value.bool false)]) w) w) w) w) (J_1 [(Go.Value.bool false), t82, t70, t85] w)) w) w) w) w) w) w) w) w)
    w) w) w) w) w) (J_1 [(Go.Value.bool false), t63, t70, undef] w)) w) w))) w) w) w) w) w) w) (S.v P (Instr.fieldAt 76 t4 4) (fun t45 w => S.v P (Instr.loadAt
    9 t45) (fun t46 w => S.v P (Go.convert 5 21 t22) (fun t48 w => S.v P (Go.convert 21 9 t48) (fun t49 w => S.v P (S.bin Go.BinOp.add 9 (Go.Operand.tmp 46)
    (Go.Operand.tmp 49) t46 t49) (fun t50 w => S.v P (Instr.fieldAt 76 t4 4) (fun t51 w => S.u P (Instr.storeAt 9 t51 t50) (fun w => S.v P (S.nilC a0) (fun t53
    w => S.v P (Instr.fieldAt 107 t53 1) (fun t54 w => S.v P (Instr.loadAt 3 t54) (fun t55 w => S.v P (S.bin Go.BinOp.add 3 (Go.Operand.tmp 55)
    (Go.Operand.const (Go.Value.int Go.IntKind.i64 1)) t55 (Go.Value.int Go.IntKind.i64 1)) (fun t56 w => S.v P (S.nilC a0) (fun t57 w => S.v P (Instr.fieldAt
    107 t57 1) (fun t58 w => S.u P (Instr.storeAt 3 t58 t56) (fun w => I [t22, t43] w) w) w) w) w) w) w) w) w) w) w) w) w) w) w)) w) (S.v P (S.bin Go.BinOp.eql
    5 (Go.Operand.tmp 39) (Go.Operand.const (Go.Value.int Go.IntKind.u8 43)) t22 (Go.Value.int Go.IntKind.u8 43)) (fun t40 w => S.v P (Op.unary Go.UnOp.not
    t40) (fun t43_1 w => br t43_1 (S.call P 94 [a0] (fun t61_1 w => S.v P (Instr.extract t61_1 0) (fun t62_1 w => S.v P (Instr.extract t61_1 1) (fun t63_1 w =>
    S.v P (Instr.fieldAt 76 t4 5) (fun t64_1 w => S.u P (Instr.storeAt 3 t64_1 t62_1) (fun w => S.v P (Op.unary Go.UnOp.not t63_1) (fun t66_1 w => br t66_1
    (S.v P (Instr.build 76 #[]) (fun t67_1 w => S.u P (Instr.storeAt 76 t2 t67_1) (fun w => S.p P (S.ldR 76 t2) (fun r2_8 w => K (.tuple #[r2_8, (Go.Value.bool
    false)]) w) w) w) w) (S.seq (fun vs_2 w => S.call P 75 [a0] (fun t89_1 w => S.v P (Instr.extract t89_1 0) (fun t90_1 w => S.v P (Instr.extract t89_1 1)
    (fun t91_1 w => S.v P (Instr.fieldAt 76 t4 1) (fun t92_1 w => S.u P (Instr.storeAt 5 t92_1 (Go.Value.int Go.IntKind.u8 100)) (fun w => S.v P (Instr.fieldAt
    76 t4 2) (fun t94_1 w => S.u P (Instr.storeAt 5 t94_1 t90_1) (fun w => S.v P (Instr.loadAt 76 t4) (fun t95_1 w => br t91_1 (S.v P (S.bin Go.BinOp.eql 5
    (Go.Operand.tmp 98) (Go.Operand.const (Go.Value.int Go.IntKind.u8 100)) t90_1 (Go.Value.int Go.IntKind.u8 100)) (fun t99_1 w => br t99_1 (S.u P
    (Instr.storeAt 76 t2 t95_1) (fun w => S.p P (S.ldR 76 t2) (fun r2_9 w => K (.tuple #[r2_9, (Go.Value.bool true)]) w) w) w) (S.v P (S.bin Go.BinOp.eql 5
    (Go.Operand.tmp 101) (Go.Operand.const (Go.Value.int Go.IntKind.u8 111)) t90_1 (Go.Value.int Go.IntKind.u8 111)) (fun t102_1 w => br t102_1 (S.u P
    (Instr.storeAt 76 t2 t95_1) (fun w => S.p P (S.ldR 76 t2) (fun r2_10 w => K (.tuple #[r2_10, (Go.Value.bool true)]) w) w) w) (S.v P (S.bin Go.BinOp.eql 5
    (Go.Operand.tmp 105) (Go.Operand.const (Go.Value.int Go.IntKind.u8 120)) t90_1 (Go.Value.int Go.IntKind.u8 120)) (fun t106_1 w => br t106_1 (S.u P
    (Instr.storeAt 76 t2 t95_1) (fun w => S.p P (S.ldR 76 t2) (fun r2_11 w => K (.tuple #[r2_11, (Go.Value.bool true)]) w) w) w) (S.v P (S.bin Go.BinOp.eql 5
    (Go.Operand.tmp 109) (Go.Operand.const (Go.Value.int Go.IntKind.u8 88)) t90_1 (Go.Value.int Go.IntKind.u8 88)) (fun t110_1 w => br t110_1 (S.u P
    (Instr.storeAt 76 t2 t95_1) (fun w => S.p P (S.ldR 76 t2) (fun r2_12 w => K (.tuple #[r2_12, (Go.Value.bool true)]) w) w) w) (S.v P (S.bin Go.BinOp.eql 5
    (Go.Operand.tmp 113) (Go.Operand.const (Go.Value.int Go.IntKind.u8 115)) t90_1 (Go.Value.int Go.IntKind.u8 115)) (fun t114_1 w => S.u P (Instr.storeAt 76
    t2 t95_1) (fun w => S.p P (S.ldR 76 t2) (fun r2_13 w => K (.tuple #[r2_13, t114_1]) w) w) w) w)) w)) w)) w)) w) (S.u P (Instr.storeAt 76 t2 t95_1) (fun w
    => S.p P (S.ldR 76 t2) (fun r2_14 w => K (.tuple #[r2_14, (Go.Value.bool false)]) w) w) w)) w) w) w) w) w) w) w) w) (fun J_2 => S.call P 92 [a0] (fun t69_1
    w => S.v P (S.bin Go.BinOp.eql 5 (Go.Operand.tmp 69) (Go.Operand.const (Go.Value.int Go.IntKind.u8 46)) t69_1 (Go.Value.int Go.IntKind.u8 46)) (fun t70_1 w
    => br t70_1 (S.v P (S.nilC a0) (fun t72_1 w => S.v P (Instr.fieldAt 107 t72_1 1) (fun t73_1 w => S.v P (Instr.loadAt 3 t73_1) (fun t74_1 w => S.v P (S.bin
    Go.BinOp.add 3 (Go.Operand.tmp 74) (Go.Operand.const (Go.Value.int Go.IntKind.i64 1)) t74_1 (Go.Value.int Go.IntKind.i64 1)) (fun t75_1 w => S.v P (S.nilC
    a0) (fun t76_1 w => S.v P (Instr.fieldAt 107 t76_1 1) (fun t77_1 w => S.u P (Instr.storeAt 3 t77_1 t75_1) (fun w => S.call P 94 [a0] (fun t80_1 w => S.v P
    (Instr.extract t80_1 0) (fun t81_1 w => S.v P (Instr.extract t80_1 1) (fun t82_1 w => S.v P (Instr.fieldAt 76 t4 6) (fun t83_1 w => S.u P (Instr.storeAt 3
    t83_1 t81_1) (fun w => S.v P (Op.unary Go.UnOp.not t82_1) (fun t85_1 w => br t85_1 (S.v P (Instr.build 76 #[]) (fun t86_1 w => S.u P (Instr.storeAt 76 t2
    t86_1) (fun w => S.p P (S.ldR 76 t2) (fun r2_15 w => K (.tuple #[r2_15, (Go.Value.bool false)]) w) w) w) w) (J_2 [(Go.Value.bool false), t82_1, t70_1,
    t85_1] w)) w) w) w) w) w) w) w) w) w) w) w) w) w) (J_2 [(Go.Value.bool false), t63_1, t70_1, undef] w)) w) w))) w) w) w) w) w) w) (S.v P (Instr.fieldAt 76
    t4 4) (fun t45_1 w => S.v P (Instr.loadAt 9 t45_1) (fun t46_1 w => S.v P (Go.convert 5 21 t22) (fun t48_1 w => S.v P (Go.convert 21 9 t48_1) (fun t49_1 w
    => S.v P (S.bin Go.BinOp.add 9 (Go.Operand.tmp 46) (Go.Operand.tmp 49) t46_1 t49_1) (fun t50_1 w => S.v P (Instr.fieldAt 76 t4 4) (fun t51_1 w => S.u P
    (Instr.storeAt 9 t51_1 t50_1) (fun w => S.v P (S.nilC a0) (fun t53_1 w => S.v P (Instr.fieldAt 107 t53_1 1) (fun t54_1 w => S.v P (Instr.loadAt 3 t54_1)
    (fun t55_1 w => S.v P (S.bin Go.BinOp.add 3 (Go.Operand.tmp 55) (Go.Operand.const (Go.Value.int Go.IntKind.i64 1)) t55_1 (Go.Value.int Go.IntKind.i64 1))
    (fun t56_1 w => S.v P (S.nilC a0) (fun t57_1 w => S.v P (Instr.fieldAt 107 t57_1 1) (fun t58_1 w => S.u P (Instr.storeAt 3 t58_1 t56_1) (fun w => I [t22,
    t43_1] w) w) w) w) w) w) w) w) w) w) w) w) w) w) w)) w) w)) w) (S.v P (Op.unary Go.UnOp.not (Go.Value.bool false)) (fun t43_2 w => br t43_2 (S.call P 94
    [a0] (fun t61_2 w => S.v P (Instr.extract t61_2 0) (fun t62_2 w => S.v P (Instr.extract t61_2 1) (fun t63_2 w => S.v P (Instr.fieldAt 76 t4 5) (fun t64_2 w
    => S.u P (Instr.storeAt 3 t64_2 t62_2) (fun w => S.v P (Op.unary Go.UnOp.not t63_2) (fun t66_2 w => br t66_2 (S.v P (Instr.build 76 #[]) (fun t67_2 w =>
    S.u P (Instr.storeAt 76 t2 t67_2) (fun w => S.p P (S.ldR 76 t2) (fun r2_16 w => K (.tuple #[r2_16, (Go.Value.bool false)]) w) w) w) w) (S.seq (fun vs_3 w
    => S.call P 75 [a0] (fun t89_2 w => S.v P (Instr.extract t89_2 0) (fun t90_2 w => S.v P (Instr.extract t89_2 1) (fun t91_2 w => S.v P (Instr.fieldAt 76 t4
    1) (fun t92_2 w => S.u P (Instr.storeAt 5 t92_2 (Go.Value.int Go.IntKind.u8 100)) (fun w => S.v P (Instr.fieldAt 76 t4 2) (fun t94_2 w => S.u P
    (Instr.storeAt 5 t94_2 t90_2) (fun w => S.v P (Instr.loadAt 76 t4) (fun t95_2 w => br t91_2 (S.v P (S.bin Go.BinOp.eql 5 (Go.Operand.tmp 98)
    (Go.Operand.const (Go.Value.int Go.IntKind.u8 100)) t90_2 (Go.Value.int Go.IntKind.u8 100)) (fun t99_2 w => br t99_2 (S.u P (Instr.storeAt 76 t2 t95_2)
    (fun w => S.p P (S.ldR 76 t2) (fun r2_17 w => K (.tuple #[r2_17, (Go.Value.bool true)]) w) w) w) (S.v P (S.bin Go.BinOp.eql 5 (Go.Operand.tmp 101)
    (Go.Operand.const (Go.Value.int Go.IntKind.u8 111)) t90_2 (Go.Value.int Go.IntKind.u8 111)) (fun t102_2 w => br t102_2 (S.u P (Instr.storeAt 76 t2 t95_2)
    (fun w => S.p P (S.ldR 76 t2) (fun r2_18 w => K (.tuple #[r2_18, (Go.Value.bool true)]) w) w) w) (S.v P (S.bin Go.BinOp.eql 5 (Go.Operand.tmp 105)
    (Go.Operand.const (Go.Value.int Go.IntKind.u8 120)) t90_2 (Go.Value.int Go.IntKind.u8 120)) (fun t106_2 w => br t106_2 (S.u P (Instr.storeAt 76 t2 t95_2)
    (fun w => S.p P (S.ldR 76 t2) (fun r2_19 w => K (.tuple #[r2_19, (Go.Value.bool true)]) w) w) w) (S.v P (S.bin Go.BinOp.eql 5 (Go.Operand.tmp 109)
    (Go.Operand.const (Go.Value.int Go.IntKind.u8 88)) t90_2 (Go.Value.int Go.IntKind.u8 88)) (fun t110_2 w => br t110_2 (S.u P (Instr.storeAt 76 t2 t95_2)
    (fun w => S.p P (S.ldR 76 t2) (fun r2_20 w => K (.tuple #[r2_20, (Go.Value.bool true)]) w) w) w) (S.v P (S.bin Go.BinOp.eql 5 (Go.Operand.tmp 113)
    (Go.Operand.const (Go.Value.int Go.IntKind.u8 115)) t90_2 (Go.Value.int Go.IntKind.u8 115)) (fun t114_2 w => S.u P (Instr.storeAt 76 t2 t95_2) (fun w =>
    S.p P (S.ldR 76 t2) (fun r2_21 w => K (.tuple #[r2_21, t114_2]) w) w) w) w)) w)) w)) w)) w) (S.u P (Instr.storeAt 76 t2 t95_2) (fun w => S.p P (S.ldR 76
    t2) (fun r2_22 w => K (.tuple #[r2_22, (Go.Value.bool false)]) w) w) w)) w) w) w) w) w) w) w) w) (fun J_3 => S.call P 92 [a0] (fun t69_2 w => S.v P (S.bin
    Go.BinOp.eql 5 (Go.Operand.tmp 69) (Go.Operand.const (Go.Value.int Go.IntKind.u8 46)) t69_2 (Go.Value.int Go.IntKind.u8 46)) (fun t70_2 w => br t70_2 (S.v
    P (S.nilC a0) (fun t72_2 w => S.v P (Instr.fieldAt 107 t72_2 1) (fun t73_2 w => S.v P (Instr.loadAt 3 t73_2) (fun t74_2 w => S.v P (S.bin Go.BinOp.add 3
    (Go.Operand.tmp 74) (Go.Operand.const (Go.Value.int Go.IntKind.i64 1)) t74_2 (Go.Value.int Go.IntKind.i64 1)) (fun t75_2 w => S.v P (S.nilC a0) (fun t76_2
    w => S.v P (Instr.fieldAt 107 t76_2 1) (fun t77_2 w => S.u P (Instr.storeAt 3 t77_2 t75_2) (fun w => S.call P 94 [a0] (fun t80_2 w => S.v P (Instr.extract
    t80_2 0) (fun t81_2 w => S.v P (Instr.extract t80_2 1) (fun t82_2 w => S.v P (Instr.fieldAt 76 t4 6) (fun t83_2 w => S.u P (Instr.storeAt 3 t83_2 t81_2)
    (fun w => S.v P (Op.unary Go.UnOp.not t82_2) (fun t85_2 w => br t85_2 (S.v P (Instr.build 76 #[]) (fun t86_2 w => S.u P (Instr.storeAt 76 t2 t86_2) (fun w
    => S.p P (S.ldR 76 t2) (fun r2_23 w => K (.tuple #[r2_23, (Go.Value.bool false)]) w) w) w) w) (J_3 [(Go.Value.bool false), t82_2, t70_2, t85_2] w)) w) w)
    w) w) w) w) w) w) w) w) w) w) w) (J_3 [(Go.Value.bool false), t63_2, t70_2, undef] w)) w) w))) w) w) w) w) w) w) (S.v P (Instr.fieldAt 76 t4 4) (fun t45_2
    w => S.v P (Instr.loadAt 9 t45_2) (fun t46_2 w => S.v P (Go.convert 5 21 t22) (fun t48_2 w => S.v P (Go.convert 21 9 t48_2) (fun t49_2 w => S.v P (S.bin
    Go.BinOp.add 9 (Go.Operand.tmp 46) (Go.Operand.tmp 49) t46_2 t49_2) (fun t50_2 w => S.v P (Instr.fieldAt 76 t4 4) (fun t51_2 w => S.u P (Instr.storeAt 9
    t51_2 t50_2) (fun w => S.v P (S.nilC a0) (fun t53_2 w => S.v P (Instr.fieldAt 107 t53_2 1) (fun t54_2 w => S.v P (Instr.loadAt 3 t54_2) (fun t55_2 w => S.v
    P (S.bin Go.BinOp.add 3 (Go.Operand.tmp 55) (Go.Operand.const (Go.Value.int Go.IntKind.i64 1)) t55_2 (Go.Value.int Go.IntKind.i64 1)) (fun t56_2 w => S.v P
    (S.nilC a0) (fun t57_2 w => S.v P (Instr.fieldAt 107 t57_2 1) (fun t58_2 w => S.u P (Instr.storeAt 3 t58_2 t56_2) (fun w => I [t22, t43_2] w) w) w) w) w)
    w) w) w) w) w) w) w) w) w) w)) w)) (S.v P (Instr.fieldAt 76 t4 4) (fun t45_3 w => S.v P (Instr.loadAt 9 t45_3) (fun t46_3 w => S.v P (Go.convert 5 21 t22)
    (fun t48_3 w => S.v P (Go.convert 21 9 t48_3) (fun t49_3 w => S.v P (S.bin Go.BinOp.add 9 (Go.Operand.tmp 46) (Go.Operand.tmp 49) t46_3 t49_3) (fun t50_3 w
    => S.v P (Instr.fieldAt 76 t4 4) (fun t51_3 w => S.u P (Instr.storeAt 9 t51_3 t50_3) (fun w => S.v P (S.nilC a0) (fun t53_3 w => S.v P (Instr.fieldAt 107
    t53_3 1) (fun t54_3 w => S.v P (Instr.loadAt 3 t54_3) (fun t55_3 w => S.v P (S.bin Go.BinOp.add 3 (Go.Operand.tmp 55) (Go.Operand.const (Go.Value.int
    Go.IntKind.i64 1)) t55_3 (Go.Value.int Go.IntKind.i64 1)) (fun t56_3 w => S.v P (S.nilC a0) (fun t57_3 w => S.v P (Instr.fieldAt 107 t57_3 1) (fun t58_3 w
    => S.u P (Instr.storeAt 3 t58_3 t56_3) (fun w => I [t22, (Go.Value.bool false)] w) w) w) w) w) w) w) w) w) w) w) w) w) w) w)) w) (S.v P (Instr.fieldAt 76
    t4 4) (fun t45_4 w => S.v P (Instr.loadAt 9 t45_4) (fun t46_4 w => S.v P (Go.convert 5 21 t22) (fun t48_4 w => S.v P (Go.convert 21 9 t48_4) (fun t49_4 w
    => S.v P (S.bin Go.BinOp.add 9 (Go.Operand.tmp 46) (Go.Operand.tmp 49) t46_4 t49_4) (fun t50_4 w => S.v P (Instr.fieldAt 76 t4 4) (fun t51_4 w => S.u P
    (Instr.storeAt 9 t51_4 t50_4) (fun w => S.v P (S.nilC a0) (fun t53_4 w => S.v P (Instr.fieldAt 107 t53_4 1) (fun t54_4 w => S.v P (Instr.loadAt 3 t54_4)
    (fun t55_4 w => S.v P (S.bin Go.BinOp.add 3 (Go.Operand.tmp 55) (Go.Operand.const (Go.Value.int Go.IntKind.i64 1)) t55_4 (Go.Value.int Go.IntKind.i64 1))
    (fun t56_4 w => S.v P (S.nilC a0) (fun t57_4 w => S.v P (Instr.fieldAt 107 t57_4 1) (fun t58_4 w => S.u P (Instr.storeAt 3 t58_4 t56_4) (fun w => I [t22,
    (Go.Value.bool false)] w) w) w) w) w) w) w) w) w) w) w) w) w) w) w)) w) (S.v P (Instr.fieldAt 76 t4 4) (fun t45_5 w => S.v P (Instr.loadAt 9 t45_5) (fun
    t46_5 w => S.v P (Go.convert 5 21 t22) (fun t48_5 w => S.v P (Go.convert 21 9 t48_5) (fun t49_5 w => S.v P (S.bin Go.BinOp.add 9 (Go.Operand.tmp 46)
    (Go.Operand.tmp 49) t46_5 t49_5) (fun t50_5 w => S.v P (Instr.fieldAt 76 t4 4) (fun t51_5 w => S.u P (Instr.storeAt 9 t51_5 t50_5) (fun w => S.v P (S.nilC
    a0) (fun t53_5 w => S.v P (Instr.fieldAt 107 t53_5 1) (fun t54_5 w => S.v P (Instr.loadAt 3 t54_5) (fun t55_5 w => S.v P (S.bin Go.BinOp.add 3
    (Go.Operand.tmp 55) (Go.Operand.const (Go.Value.int Go.IntKind.i64 1)) t55_5 (Go.Value.int Go.IntKind.i64 1)) (fun t56_5 w => S.v P (S.nilC a0) (fun t57_5
    w => S.v P (Instr.fieldAt 107 t57_5 1) (fun t58_5 w => S.u P (Instr.storeAt 3 t58_5 t56_5) (fun w => I [t22, (Go.Value.bool false)] w) w) w) w) w) w) w) w)
    w) w) w) w) w) w) w)) w) w) → I [x6, x44] w) [undef, undef] w) (fun J => br t12 (S.v P (S.nilC a0) (fun t15 w => S.v P (Instr.fieldAt 107 t15 1) (fun t16 w
    => S.v P (Instr.loadAt 3 t16) (fun t17 w => S.v P (S.bin Go.BinOp.add 3 (Go.Operand.tmp 17) (Go.Operand.const (Go.Value.int Go.IntKind.i64 1)) t17
    (Go.Value.int Go.IntKind.i64 1)) (fun t18 w => S.v P (S.nilC a0) (fun t19 w => S.v P (Instr.fieldAt 107 t19 1) (fun t20 w => S.u P (Instr.storeAt 3 t20
    t18) (fun w => J [t12] w) w) w) w) w) w) w) w) (J [t12] w))) w) w) w) w) w) w
theorem F77_chk : chkFn Tryd.f77 (bodyOf Tryd.f77) [0, 2, 3, 4, 5, 6, 7, 8, 13, 44, 66, 70, 85] [] 1 = true := by kernel_rfl
theorem F77_eq (a0 : Value) (K : Value → World → Prop) (w : World) : F77 Tryd.prog a0 K w = denFn Tryd.prog (has ents) [] [0, 2, 3, 4, 5, 6, 7, 8, 13, 44, 66, 70, 85] (bodyOf Tryd.f77) Tryd.f77.results.toList [a0] K w := by kernel_rfl
theorem F77_link {a0 : Value} {K : Value → World → Prop} {w : World} (h : F77 Tryd.prog a0 K w) : S.call Tryd.prog 77 [a0] K w :=
  calls_of_den entOk mixOk Tryd.func77 rfl F77_chk (Eq.mp (F77_eq a0 K w) h)
/-- lanyard/tparm.digits -/
def F78 (P : Program) (a0 a1 : Value) (K : Value → World → Prop) (w : World) : Prop :=
  S.v P (Instr.box 76 a0) (fun t2 w => S.seq (fun vs w => S.seq (fun vs_1 w => S.seq (fun vs_2 w => S.seq (fun vs_3 w => K (.tuple #[(nth vs_3 0), (nth vs_3 1)])
    w) (fun J_3 => S.v P (Instr.fieldAt 76 t2 4) (fun t66 w => S.v P (Instr.loadAt 9 t66) (fun t67 w => S.call P 79 [t67, (Go.Value.string { data := #[35] })]
    (fun t68 w => br t68 (S.seq (fun vs_4 w => S.v P (Instr.fieldAt 76 t2 2) (fun t79 w => S.v P (Instr.loadAt 5 t79) (fun t80 w => S.v P (S.bin Go.BinOp.eql 5
    (Go.Operand.tmp 80) (Go.Operand.const (Go.Value.int Go.IntKind.u8 120)) t80 (Go.Value.int Go.IntKind.u8 120)) (fun t81 w => br t81 (S.v P (S.bin
    Go.BinOp.neq 21 (Go.Operand.tmp 88) (Go.Operand.const (Go.Value.int Go.IntKind.i32 0)) a1 (Go.Value.int Go.IntKind.i32 0)) (fun t89 w => br t89 (S.v P
    (Instr.fieldAt 76 t2 2) (fun t91 w => S.v P (Instr.loadAt 5 t91) (fun t92 w => S.v P (Go.convert 5 21 t92) (fun t93 w => S.v P (Go.convert 21 9 t93) (fun
    t94 w => S.v P (S.bin Go.BinOp.add 9 (Go.Operand.const (Go.Value.string { data := #[48] })) (Go.Operand.tmp 94) (Go.Value.string { data := #[48] }) t94)
    (fun t95 w => J_3 [(nth vs_4 0), t95, t68, (nth vs_4 1), t89] w) w) w) w) w) w) (J_3 [(nth vs_4 0), (nth vs 1), t68, (nth vs_4 1), t89] w)) w) (S.v P
    (Instr.fieldAt 76 t2 2) (fun t83 w => S.v P (Instr.loadAt 5 t83) (fun t84 w => S.v P (S.bin Go.BinOp.eql 5 (Go.Operand.tmp 84) (Go.Operand.const
    (Go.Value.int Go.IntKind.u8 88)) t84 (Go.Value.int Go.IntKind.u8 88)) (fun t85 w => br t85 (S.v P (S.bin Go.BinOp.neq 21 (Go.Operand.tmp 88)
    (Go.Operand.const (Go.Value.int Go.IntKind.i32 0)) a1 (Go.Value.int Go.IntKind.i32 0)) (fun t89_1 w => br t89_1 (S.v P (Instr.fieldAt 76 t2 2) (fun t91_1 w
    => S.v P (Instr.loadAt 5 t91_1) (fun t92_1 w => S.v P (Go.convert 5 21 t92_1) (fun t93_1 w => S.v P (Go.convert 21 9 t93_1) (fun t94_1 w => S.v P (S.bin
    Go.BinOp.add 9 (Go.Operand.const (Go.Value.string { data := #[48] })) (Go.Operand.tmp 94) (Go.Value.string { data := #[48] }) t94_1) (fun t95_1 w => J_3
    [(nth vs_4 0), t95_1, t68, (nth vs_4 1), t89_1] w) w) w) w) w) w) (J_3 [(nth vs_4 0), (nth vs 1), t68, (nth vs_4 1), t89_1] w)) w) (J_3 [(nth vs_4 0), (nth
    vs 1), t68, (nth vs_4 1), (Go.Value.bool false)] w)) w) w) w)) w) w) w) (fun J_4 => S.v P (Instr.fieldAt 76 t2 2) (fun t69 w => S.v P (Instr.loadAt 5 t69)
    (fun t70 w => S.v P (S.bin Go.BinOp.eql 5 (Go.Operand.tmp 70) (Go.Operand.const (Go.Value.int Go.IntKind.u8 111)) t70 (Go.Value.int Go.IntKind.u8 111))
    (fun t71 w => br t71 (S.call P 37 [(nth vs_2 0), (Go.Value.string { data := #[48] })] (fun t74 w => S.v P (Op.unary Go.UnOp.not t74) (fun t75 w => br t75
    (S.v P (S.bin Go.BinOp.add 9 (Go.Operand.const (Go.Value.string { data := #[48] })) (Go.Operand.tmp 77) (Go.Value.string { data := #[48] }) (nth vs_2 0))
    (fun t78 w => J_4 [t78, t75] w) w) (J_4 [(nth vs_2 0), t75] w)) w) w) (J_4 [(nth vs_2 0), (Go.Value.bool false)] w)) w) w) w)) (J_3 [(nth vs_2 0), (nth vs
    1), t68, undef, undef] w)) w) w) w)) (fun J_2 => S.v P (Instr.fieldAt 76 t2 6) (fun t55 w => S.v P (Instr.loadAt 3 t55) (fun t56 w => S.v P (Builtin.len_
    #[9] 3 #[(nth vs_1 0)]) (fun t58 w => S.v P (S.bin Go.BinOp.sub 3 (Go.Operand.tmp 56) (Go.Operand.tmp 58) t56 t58) (fun t59 w => S.v P (S.bin Go.BinOp.gtr
    3 (Go.Operand.tmp 60) (Go.Operand.const (Go.Value.int Go.IntKind.i64 0)) t59 (Go.Value.int Go.IntKind.i64 0)) (fun t61 w => br t61 (S.call P 16
    [(Go.Value.string { data := #[48] }), t59] (fun t63 w => S.v P (S.bin Go.BinOp.add 9 (Go.Operand.tmp 63) (Go.Operand.tmp 64) t63 (nth vs_1 0)) (fun t65 w
    => J_2 [t65, t59, t61] w) w) w) (J_2 [(nth vs_1 0), t59, t61] w)) w) w) w) w) w)) (fun J_1 => S.v P (Instr.fieldAt 76 t2 6) (fun t48 w => S.v P
    (Instr.loadAt 3 t48) (fun t49 w => S.v P (S.bin Go.BinOp.eql 3 (Go.Operand.tmp 49) (Go.Operand.const (Go.Value.int Go.IntKind.i64 0)) t49 (Go.Value.int
    Go.IntKind.i64 0)) (fun t50 w => br t50 (S.v P (S.bin Go.BinOp.eql 21 (Go.Operand.tmp 52) (Go.Operand.const (Go.Value.int Go.IntKind.i32 0)) a1
    (Go.Value.int Go.IntKind.i32 0)) (fun t53 w => br t53 (J_1 [(Go.Value.string { data := #[] }), t53] w) (J_1 [(nth vs 0), t53] w)) w) (J_1 [(nth vs 0),
    (Go.Value.bool false)] w)) w) w) w)) (fun J => S.v P (Instr.fieldAt 76 t2 2) (fun t11 w => S.v P (Instr.loadAt 5 t11) (fun t12 w => S.v P (S.bin
    Go.BinOp.eql 5 (Go.Operand.tmp 12) (Go.Operand.const (Go.Value.int Go.IntKind.u8 100)) t12 (Go.Value.int Go.IntKind.u8 100)) (fun t19 w => br t19 (S.v P
    (Go.convert 21 2 a1) (fun t21 w => S.call P 95 [t21, (Go.Value.int Go.IntKind.i64 10)] (fun t22 w => S.call P 96 [t22, (Go.Value.string { data := #[45] })]
    (fun t25 w => S.v P (Instr.extract t25 0) (fun t26 w => S.v P (Instr.extract t25 1) (fun t27 w => br t27 (J [t26, (Go.Value.string { data := #[45] }), t26,
    t27, t12, t19, t27, undef, undef, undef, undef] w) (S.v P (Instr.fieldAt 76 t2 4) (fun t30 w => S.v P (Instr.loadAt 9 t30) (fun t31 w => S.call P 79 [t31,
    (Go.Value.string { data := #[43] })] (fun t32 w => br t32 (J [t22, (Go.Value.string { data := #[43] }), t26, t27, t12, t19, t27, t32, undef, undef, undef]
    w) (S.v P (Instr.fieldAt 76 t2 4) (fun t33 w => S.v P (Instr.loadAt 9 t33) (fun t34 w => S.call P 79 [t34, (Go.Value.string { data := #[32] })] (fun t35 w
    => br t35 (J [t22, (Go.Value.string { data := #[32] }), t26, t27, t12, t19, t27, t32, t35, undef, undef] w) (J [t22, (Go.Value.string { data := #[] }),
    t26, t27, t12, t19, t27, t32, t35, undef, undef] w)) w) w) w)) w) w) w)) w) w) w) w) w) (S.v P (S.bin Go.BinOp.eql 5 (Go.Operand.tmp 12) (Go.Operand.const
    (Go.Value.int Go.IntKind.u8 111)) t12 (Go.Value.int Go.IntKind.u8 111)) (fun t37 w => br t37 (S.v P (Go.convert 21 40 a1) (fun t39 w => S.v P (Go.convert
    40 39 t39) (fun t40 w => S.call P 15 [t40, (Go.Value.int Go.IntKind.i64 8)] (fun t41 w => J [t41, (Go.Value.string { data := #[] }), undef, undef, t12,
    t19, undef, undef, undef, t37, undef] w) w) w) w) (S.v P (S.bin Go.BinOp.eql 5 (Go.Operand.tmp 12) (Go.Operand.const (Go.Value.int Go.IntKind.u8 120)) t12
    (Go.Value.int Go.IntKind.u8 120)) (fun t43 w => br t43 (S.v P (Go.convert 21 40 a1) (fun t45 w => S.v P (Go.convert 40 39 t45) (fun t46 w => S.call P 15
    [t46, (Go.Value.int Go.IntKind.i64 16)] (fun t47 w => J [t47, (Go.Value.string { data := #[] }), undef, undef, t12, t19, undef, undef, undef, t37, t43] w)
    w) w) w) (S.v P (Go.convert 21 40 a1) (fun t14 w => S.v P (Go.convert 40 39 t14) (fun t15 w => S.call P 15 [t15, (Go.Value.int Go.IntKind.i64 16)] (fun t16
    w => S.call P 97 [t16] (fun t17 w => J [t17, (Go.Value.string { data := #[] }), undef, undef, t12, t19, undef, undef, undef, t37, t43] w) w) w) w) w)) w))
    w)) w) w) w)) w
theorem F78_chk : chkFn Tryd.f78 (bodyOf Tryd.f78) [0, 1, 2, 4, 5, 6, 7, 8, 9, 10, 12, 18, 28, 32, 35, 36, 42, 54, 61, 68, 76, 90] [] 2 = true := by kernel_rfl
theorem F78_eq (a0 a1 : Value) (K : Value → World → Prop) (w : World) : F78 Tryd.prog a0 a1 K w = denFn Tryd.prog (has ents) [] [0, 1, 2, 4, 5, 6, 7, 8, 9, 10, 12, 18, 28, 32, 35, 36, 42, 54, 61, 68, 76, 90] (bodyOf Tryd.f78) Tryd.f78.results.toList [a0, a1] K w := by kernel_rfl
theorem F78_link {a0 a1 : Value} {K : Value → World → Prop} {w : World} (h : F78 Tryd.prog a0 a1 K w) : S.call Tryd.prog 78 [a0, a1] K w :=
  calls_of_den entOk mixOk Tryd.func78 rfl F78_chk (Eq.mp (F78_eq a0 a1 K w) h)
/-- strings.Contains -/
def F79 (P : Program) (a0 a1 : Value) (K : Value → World → Prop) (w : World) : Prop :=
  S.call P 49 [a0, a1] (fun t7 w => S.v P (S.bin Go.BinOp.geq 3 (Go.Operand.tmp 7) (Go.Operand.const (Go.Value.int Go.IntKind.i64 0)) t7 (Go.Value.int
    Go.IntKind.i64 0)) (fun t8 w => K t8 w) w) w
theorem F79_chk : chkFn Tryd.f79 (bodyOf Tryd.f79) [0, 1, 4] [] 2 = true := by kernel_rfl
theorem F79_eq (a0 a1 : Value) (K : Value → World → Prop) (w : World) : F79 Tryd.prog a0 a1 K w = denFn Tryd.prog (has ents) [] [0, 1, 4] (bodyOf Tryd.f79) Tryd.f79.results.toList [a0, a1] K w := by kernel_rfl
theorem F79_link {a0 a1 : Value} {K : Value → World → Prop} {w : World} (h : F79 Tryd.prog a0 a1 K w) : S.call Tryd.prog 79 [a0, a1] K w :=
  calls_of_den entOk mixOk Tryd.func79 rfl F79_chk (Eq.mp (F79_eq a0 a1 K w) h)
/-- lanyard/lanyardref04.number -/
def F87 (P : Program) (a0 a1 : Value) (K : Value → World → Prop) (w : World) : Prop :=
  S.loop (fun I => ∀ (x6 : Value) (x7 : Value) (x21 : Value) (x23 : Value) (w : World), (S.v P (S.bin Go.BinOp.add 3 (Go.Operand.tmp 8) (Go.Operand.tmp 9) a1 x7)
    (fun t10 w => S.v P (Builtin.len_ #[9] 3 #[a0]) (fun t12 w => S.v P (S.bin Go.BinOp.lss 3 (Go.Operand.tmp 10) (Go.Operand.tmp 12) t10 t12) (fun t13 w => br
    t13 (S.v P (S.bin Go.BinOp.add 3 (Go.Operand.tmp 16) (Go.Operand.tmp 17) a1 x7) (fun t18 w => S.v P (Instr.index 9 a0 t18) (fun t19 w => S.call P 100 [t19]
    (fun t20 w => br t20 (S.seq (fun vs w => S.v P (S.bin Go.BinOp.add 3 (Go.Operand.tmp 34) (Go.Operand.const (Go.Value.int Go.IntKind.i64 1)) x7
    (Go.Value.int Go.IntKind.i64 1)) (fun t35 w => I [(nth vs 0), t35, t20, (nth vs 1)] w) w) (fun J => S.v P (S.bin Go.BinOp.lss 3 (Go.Operand.tmp 22)
    (Go.Operand.const (Go.Value.int Go.IntKind.i64 1099511627776)) x6 (Go.Value.int Go.IntKind.i64 1099511627776)) (fun t23 w => br t23 (S.v P (S.bin
    Go.BinOp.mul 3 (Go.Operand.tmp 24) (Go.Operand.const (Go.Value.int Go.IntKind.i64 10)) x6 (Go.Value.int Go.IntKind.i64 10)) (fun t25 w => S.v P (S.bin
    Go.BinOp.add 3 (Go.Operand.tmp 27) (Go.Operand.tmp 28) a1 x7) (fun t29 w => S.v P (Instr.index 9 a0 t29) (fun t30 w => S.v P (S.bin Go.BinOp.sub 5
    (Go.Operand.tmp 30) (Go.Operand.const (Go.Value.int Go.IntKind.u8 48)) t30 (Go.Value.int Go.IntKind.u8 48)) (fun t31 w => S.v P (Go.convert 5 3 t31) (fun
    t32 w => S.v P (S.bin Go.BinOp.add 3 (Go.Operand.tmp 25) (Go.Operand.tmp 32) t25 t32) (fun t33 w => J [t33, t23] w) w) w) w) w) w) w) (J [x6, t23] w)) w))
    (K (.tuple #[x6, x7]) w)) w) w) w) (K (.tuple #[x6, x7]) w)) w) w) w) → I [x6, x7, x21, x23] w) [(Go.Value.int Go.IntKind.i64 0), (Go.Value.int
    Go.IntKind.i64 0), undef, undef] w
theorem F87_chk : chkFn Tryd.f87 (bodyOf Tryd.f87) [0, 1, 4, 5, 6, 7, 21, 23] [] 2 = true := by kernel_rfl
theorem F87_eq (a0 a1 : Value) (K : Value → World → Prop) (w : World) : F87 Tryd.prog a0 a1 K w = denFn Tryd.prog (has ents) [] [0, 1, 4, 5, 6, 7, 21, 23] (bodyOf Tryd.f87) Tryd.f87.results.toList [a0, a1] K w := by kernel_rfl
theorem F87_link {a0 a1 : Value} {K : Value → World → Prop} {w : World} (h : F87 Tryd.prog a0 a1 K w) : S.call Tryd.prog 87 [a0, a1] K w :=
  calls_of_den entOk mixOk Tryd.func87 rfl F87_chk (Eq.mp (F87_eq a0 a1 K w) h)
/-- (*lanyard/tparm.parser).peek -/
def F92 (P : Program) (a0 : Value) (K : Value → World → Prop) (w : World) : Prop :=
  S.drawn (fun w => S.p P (S.nilC a0) (fun t4 w => S.p P (Instr.fieldAt 107 t4 1) (fun t5 w => S.p P (Instr.loadAt 3 t5) (fun t6 w => S.p P (S.nilC a0) (fun t8 w
    => S.p P (Instr.fieldAt 107 t8 0) (fun t9 w => S.p P (Instr.loadAt 9 t9) (fun t10 w => S.p P (Builtin.len_ #[9] 3 #[t10]) (fun t11 w => S.p P (S.bin
    Go.BinOp.geq 3 (Go.Operand.tmp 6) (Go.Operand.tmp 11) t6 t11) (fun t12 w => br t12 (K (Go.Value.int Go.IntKind.u8 0) w) (S.drawn (fun w => S.p P (S.nilC
    a0) (fun t14 w => S.p P (Instr.fieldAt 107 t14 0) (fun t15 w => S.p P (Instr.loadAt 9 t15) (fun t16 w => S.p P (S.nilC a0) (fun t18 w => S.p P
    (Instr.fieldAt 107 t18 1) (fun t19 w => S.p P (Instr.loadAt 3 t19) (fun t20 w => S.p P (Instr.index 9 t16 t20) (fun t21 w => K t21 w) w) w) w) w) w) w) w)
    w)) w) w) w) w) w) w) w) w) w
theorem F92_chk : chkFn Tryd.f92 (bodyOf Tryd.f92) [0, 2, 12] [(1, { ord := (.step 0 true (.step 1 true (.step 2 true (.step 3 true (.step 4 true (.step 5 true (.step 6 true (.step 7 true (.step 8 true (.step 9 true .fin)))))))))), flags := [], held := false, init := true }), (3, { ord := (.step 0 true (.step 1 true (.step 2 true (.step 3 true (.step 4 true (.step 5 true (.step 6 true (.step 7 true (.step 8 true (.step 9 true .fin)))))))))), flags := [], held := false, init := true })] 1 = true := by kernel_rfl
theorem F92_eq (a0 : Value) (K : Value → World → Prop) (w : World) : F92 Tryd.prog a0 K w = denFn Tryd.prog (has ents) [(1, { ord := (.step 0 true (.step 1 true (.step 2 true (.step 3 true (.step 4 true (.step 5 true (.step 6 true (.step 7 true (.step 8 true (.step 9 true .fin)))))))))), flags := [], held := false, init := true }), (3, { ord := (.step 0 true (.step 1 true (.step 2 true (.step 3 true (.step 4 true (.step 5 true (.step 6 true (.step 7 true (.step 8 true (.step 9 true .fin)))))))))), flags := [], held := false, init := true })] [0, 2, 12] (bodyOf Tryd.f92) Tryd.f92.results.toList [a0] K w := by kernel_rfl
theorem F92_link {a0 : Value} {K : Value → World → Prop} {w : World} (h : F92 Tryd.prog a0 K w) : S.call Tryd.prog 92 [a0] K w :=
  calls_of_den entOk mixOk Tryd.func92 rfl F92_chk (Eq.mp (F92_eq a0 K w) h)
/-- lanyard/tparm.digit -/
def F93 (P : Program) (a0 : Value) (K : Value → World → Prop) (w : World) : Prop :=
  S.v P (S.bin Go.BinOp.geq 5 (Go.Operand.tmp 3) (Go.Operand.const (Go.Value.int Go.IntKind.u8 48)) a0 (Go.Value.int Go.IntKind.u8 48)) (fun t4 w => br t4 (S.v P
    (S.bin Go.BinOp.leq 5 (Go.Operand.tmp 6) (Go.Operand.const (Go.Value.int Go.IntKind.u8 57)) a0 (Go.Value.int Go.IntKind.u8 57)) (fun t7 w => K t7 w) w) (K
    (Go.Value.bool false) w)) w
theorem F93_chk : chkFn Tryd.f93 (bodyOf Tryd.f93) [0, 2] [] 1 = true := by kernel_rfl
theorem F93_eq (a0 : Value) (K : Value → World → Prop) (w : World) : F93 Tryd.prog a0 K w = denFn Tryd.prog (has ents) [] [0, 2] (bodyOf Tryd.f93) Tryd.f93.results.toList [a0] K w := by kernel_rfl
theorem F93_link {a0 : Value} {K : Value → World → Prop} {w : World} (h : F93 Tryd.prog a0 K w) : S.call Tryd.prog 93 [a0] K w :=
  calls_of_den entOk mixOk Tryd.func93 rfl F93_chk (Eq.mp (F93_eq a0 K w) h)
/-- (*lanyard/tparm.parser).count -/
def F94 (P : Program) (a0 : Value) (K : Value → World → Prop) (w : World) : Prop :=
  S.loop (fun I => ∀ (x4 : Value) (x5 : Value) (x8 : Value) (w : World), (S.call P 92 [a0] (fun t7 w => S.call P 93 [t7] (fun t8 w => br t8 (S.v P (S.bin
    Go.BinOp.mul 3 (Go.Operand.const (Go.Value.int Go.IntKind.i64 10)) (Go.Operand.tmp 9) (Go.Value.int Go.IntKind.i64 10) x4) (fun t10 w => S.call P 92 [a0]
    (fun t12 w => S.v P (S.bin Go.BinOp.sub 5 (Go.Operand.tmp 12) (Go.Operand.const (Go.Value.int Go.IntKind.u8 48)) t12 (Go.Value.int Go.IntKind.u8 48)) (fun
    t13 w => S.v P (Go.convert 5 3 t13) (fun t14 w => S.v P (S.bin Go.BinOp.add 3 (Go.Operand.tmp 10) (Go.Operand.tmp 14) t10 t14) (fun t15 w => S.v P
    (Builtin.min_ #[3, 3] 3 #[t15, (Go.Value.int Go.IntKind.i64 1001)]) (fun t16 w => S.v P (S.nilC a0) (fun t18 w => S.v P (Instr.fieldAt 107 t18 1) (fun t19
    w => S.v P (Instr.loadAt 3 t19) (fun t20 w => S.v P (S.bin Go.BinOp.add 3 (Go.Operand.tmp 20) (Go.Operand.const (Go.Value.int Go.IntKind.i64 1)) t20
    (Go.Value.int Go.IntKind.i64 1)) (fun t21 w => S.v P (S.nilC a0) (fun t22 w => S.v P (Instr.fieldAt 107 t22 1) (fun t23 w => S.u P (Instr.storeAt 3 t23
    t21) (fun w => S.v P (S.bin Go.BinOp.add 3 (Go.Operand.tmp 24) (Go.Operand.const (Go.Value.int Go.IntKind.i64 1)) x5 (Go.Value.int Go.IntKind.i64 1)) (fun
    t25 w => I [t16, t25, t8] w) w) w) w) w) w) w) w) w) w) w) w) w) w) w) (S.v P (S.bin Go.BinOp.leq 3 (Go.Operand.tmp 27) (Go.Operand.const (Go.Value.int
    Go.IntKind.i64 1000)) x4 (Go.Value.int Go.IntKind.i64 1000)) (fun t28 w => K (.tuple #[x4, t28]) w) w)) w) w) → I [x4, x5, x8] w) [(Go.Value.int
    Go.IntKind.i64 0), (Go.Value.int Go.IntKind.i64 0), undef] w
theorem F94_chk : chkFn Tryd.f94 (bodyOf Tryd.f94) [0, 2, 3, 4, 5, 8] [] 1 = true := by kernel_rfl
theorem F94_eq (a0 : Value) (K : Value → World → Prop) (w : World) : F94 Tryd.prog a0 K w = denFn Tryd.prog (has ents) [] [0, 2, 3, 4, 5, 8] (bodyOf Tryd.f94) Tryd.f94.results.toList [a0] K w := by kernel_rfl
theorem F94_link {a0 : Value} {K : Value → World → Prop} {w : World} (h : F94 Tryd.prog a0 K w) : S.call Tryd.prog 94 [a0] K w :=
  calls_of_den entOk mixOk Tryd.func94 rfl F94_chk (Eq.mp (F94_eq a0 K w) h)
/-- strconv.FormatInt -/
def F95 (P : Program) (a0 a1 : Value) (K : Value → World → Prop) (w : World) : Prop :=
  S.call P 58 [a0, a1] (fun t7 w => K t7 w) w
theorem F95_chk : chkFn Tryd.f95 (bodyOf Tryd.f95) [0, 1, 4] [] 2 = true := by kernel_rfl
theorem F95_eq (a0 a1 : Value) (K : Value → World → Prop) (w : World) : F95 Tryd.prog a0 a1 K w = denFn Tryd.prog (has ents) [] [0, 1, 4] (bodyOf Tryd.f95) Tryd.f95.results.toList [a0, a1] K w := by kernel_rfl
theorem F95_link {a0 a1 : Value} {K : Value → World → Prop} {w : World} (h : F95 Tryd.prog a0 a1 K w) : S.call Tryd.prog 95 [a0, a1] K w :=
  calls_of_den entOk mixOk Tryd.func95 rfl F95_chk (Eq.mp (F95_eq a0 a1 K w) h)
/-- strings.CutPrefix -/
def F96 (P : Program) (a0 a1 : Value) (K : Value → World → Prop) (w : World) : Prop :=
  S.call P 103 [a0, a1] (fun t8 w => S.v P (Instr.extract t8 0) (fun t9 w => S.v P (Instr.extract t8 1) (fun t10 w => K (.tuple #[t9, t10]) w) w) w) w
theorem F96_chk : chkFn Tryd.f96 (bodyOf Tryd.f96) [0, 1, 4, 5] [] 2 = true := by kernel_rfl
theorem F96_eq (a0 a1 : Value) (K : Value → World → Prop) (w : World) : F96 Tryd.prog a0 a1 K w = denFn Tryd.prog (has ents) [] [0, 1, 4, 5] (bodyOf Tryd.f96) Tryd.f96.results.toList [a0, a1] K w := by kernel_rfl
theorem F96_link {a0 a1 : Value} {K : Value → World → Prop} {w : World} (h : F96 Tryd.prog a0 a1 K w) : S.call Tryd.prog 96 [a0, a1] K w :=
  calls_of_den entOk mixOk Tryd.func96 rfl F96_chk (Eq.mp (F96_eq a0 a1 K w) h)
/-- lanyard/tparm.upper -/
def F97 (P : Program) (a0 : Value) (K : Value → World → Prop) (w : World) : Prop :=
  S.v P (Go.convert 9 71 a0) (fun t7 w => S.v P (Builtin.len_ #[71] 3 #[t7]) (fun t9 w => S.loop (fun I => ∀ (x4 : Value) (x5 : Value) (x10 : Value) (x11 :
    Value) (x20 : Value) (w : World), (S.v P (S.bin Go.BinOp.lss 3 (Go.Operand.tmp 10) (Go.Operand.tmp 9) x10 t9) (fun t11 w => br t11 (S.seq (fun vs w => S.v
    P (S.bin Go.BinOp.add 3 (Go.Operand.tmp 10) (Go.Operand.const (Go.Value.int Go.IntKind.i64 1)) x10 (Go.Value.int Go.IntKind.i64 1)) (fun t26 w => I [(nth
    vs 0), (nth vs 1), t26, t11, (nth vs 2)] w) w) (fun J => S.v P (Instr.indexAt 71 t7 x10) (fun t13 w => S.v P (Instr.loadAt 5 t13) (fun t14 w => S.v P
    (S.bin Go.BinOp.geq 5 (Go.Operand.tmp 15) (Go.Operand.const (Go.Value.int Go.IntKind.u8 97)) t14 (Go.Value.int Go.IntKind.u8 97)) (fun t16 w => br t16 (S.v
    P (S.bin Go.BinOp.leq 5 (Go.Operand.tmp 18) (Go.Operand.const (Go.Value.int Go.IntKind.u8 122)) t14 (Go.Value.int Go.IntKind.u8 122)) (fun t19 w => br t19
    (S.v P (S.bin Go.BinOp.sub 5 (Go.Operand.tmp 23) (Go.Operand.const (Go.Value.int Go.IntKind.u8 32)) t14 (Go.Value.int Go.IntKind.u8 32)) (fun t24 w => S.v
    P (Instr.indexAt 71 t7 x10) (fun t25 w => S.u P (Instr.storeAt 5 t25 t24) (fun w => J [x10, t14, t19] w) w) w) w) (J [x10, t14, t19] w)) w) (J [x10, t14,
    (Go.Value.bool false)] w)) w) w) w)) (S.v P (Go.convert 71 9 t7) (fun t28 w => K t28 w) w)) w) → I [x4, x5, x10, x11, x20] w) [undef, undef, (Go.Value.int
    Go.IntKind.i64 0), undef, undef] w) w) w
theorem F97_chk : chkFn Tryd.f97 (bodyOf Tryd.f97) [0, 2, 3, 4, 5, 8, 9, 10, 11, 20] [] 1 = true := by kernel_rfl
theorem F97_eq (a0 : Value) (K : Value → World → Prop) (w : World) : F97 Tryd.prog a0 K w = denFn Tryd.prog (has ents) [] [0, 2, 3, 4, 5, 8, 9, 10, 11, 20] (bodyOf Tryd.f97) Tryd.f97.results.toList [a0] K w := by kernel_rfl
theorem F97_link {a0 : Value} {K : Value → World → Prop} {w : World} (h : F97 Tryd.prog a0 K w) : S.call Tryd.prog 97 [a0] K w :=
  calls_of_den entOk mixOk Tryd.func97 rfl F97_chk (Eq.mp (F97_eq a0 K w) h)
/-- lanyard/lanyardref04.digit -/
def F100 (P : Program) (a0 : Value) (K : Value → World → Prop) (w : World) : Prop :=
  S.v P (S.bin Go.BinOp.geq 5 (Go.Operand.tmp 3) (Go.Operand.const (Go.Value.int Go.IntKind.u8 48)) a0 (Go.Value.int Go.IntKind.u8 48)) (fun t4 w => br t4 (S.v P
    (S.bin Go.BinOp.leq 5 (Go.Operand.tmp 6) (Go.Operand.const (Go.Value.int Go.IntKind.u8 57)) a0 (Go.Value.int Go.IntKind.u8 57)) (fun t7 w => K t7 w) w) (K
    (Go.Value.bool false) w)) w
theorem F100_chk : chkFn Tryd.f100 (bodyOf Tryd.f100) [0, 2] [] 1 = true := by kernel_rfl
theorem F100_eq (a0 : Value) (K : Value → World → Prop) (w : World) : F100 Tryd.prog a0 K w = denFn Tryd.prog (has ents) [] [0, 2] (bodyOf Tryd.f100) Tryd.f100.results.toList [a0] K w := by kernel_rfl
theorem F100_link {a0 : Value} {K : Value → World → Prop} {w : World} (h : F100 Tryd.prog a0 K w) : S.call Tryd.prog 100 [a0] K w :=
  calls_of_den entOk mixOk Tryd.func100 rfl F100_chk (Eq.mp (F100_eq a0 K w) h)
end Go.Proofs.YtjaoeipfiodnfaaDoor
