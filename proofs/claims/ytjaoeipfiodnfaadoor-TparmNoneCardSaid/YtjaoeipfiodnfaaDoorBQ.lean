import Derived.Test.YtjaoeipfiodnfaaDoorBP
set_option linter.unusedVariables false
set_option maxRecDepth 4000
namespace Go.Proofs.YtjaoeipfiodnfaaDoor
open Go Go.Fw Go.Proofs Go.RowKit
/-! ### The reference's int in braces, and its format -/
/-- Behind the sign of an int in braces (printed off F69). -/
def rBr (P : Program) (a0 t3 t4 q st : Value) (K : Value → World → Prop) (w : World) : Prop :=
  S.call P 87 [a0, st] (fun t29 w => S.v P (Instr.extract t29 0) (fun t30 w => S.v P (Instr.extract t29 1) (fun t31 w => S.v P (S.bin Go.BinOp.add 3
    (Go.Operand.tmp 32) (Go.Operand.tmp 33) st t31) (fun t34 w => S.v P (S.bin Go.BinOp.eql 3 (Go.Operand.tmp 35) (Go.Operand.const (Go.Value.int
    Go.IntKind.i64 0)) t31 (Go.Value.int Go.IntKind.i64 0)) (fun t36 w => br t36 (S.v P (Instr.loadAt 99 t3) (fun t53 w => S.u P (Instr.storeAt 99 t4
    t53) (fun w => S.p P (S.ldR 99 t4) (fun r4 w => K (.tuple #[r4, (Go.Value.bool false)]) w) w) w) w) (S.v P (S.bin Go.BinOp.gtr 3 (Go.Operand.tmp
    38) (Go.Operand.const (Go.Value.int Go.IntKind.i64 9)) t31 (Go.Value.int Go.IntKind.i64 9)) (fun t39 w => br t39 (S.v P (Instr.loadAt 99 t3) (fun
    t53_1 w => S.u P (Instr.storeAt 99 t4 t53_1) (fun w => S.p P (S.ldR 99 t4) (fun r4_1 w => K (.tuple #[r4_1, (Go.Value.bool false)]) w) w) w) w)
    (S.v P (Builtin.len_ #[9] 3 #[a0]) (fun t44 w => S.v P (S.bin Go.BinOp.geq 3 (Go.Operand.tmp 42) (Go.Operand.tmp 44) t34 t44) (fun t45 w => br
    t45 (S.v P (Instr.loadAt 99 t3) (fun t53_2 w => S.u P (Instr.storeAt 99 t4 t53_2) (fun w => S.p P (S.ldR 99 t4) (fun r4_2 w => K (.tuple #[r4_2,
    (Go.Value.bool false)]) w) w) w) w) (S.v P (Instr.index 9 a0 t34) (fun t50 w => S.v P (S.bin Go.BinOp.neq 5 (Go.Operand.tmp 50) (Go.Operand.const
    (Go.Value.int Go.IntKind.u8 125)) t50 (Go.Value.int Go.IntKind.u8 125)) (fun t51 w => br t51 (S.v P (Instr.loadAt 99 t3) (fun t53_3 w => S.u P
    (Instr.storeAt 99 t4 t53_3) (fun w => S.p P (S.ldR 99 t4) (fun r4_3 w => K (.tuple #[r4_3, (Go.Value.bool false)]) w) w) w) w) (S.seq (fun vs_1 w
    => S.v P (Go.convert 3 21 (nth vs_1 0)) (fun t58 w => S.v P (Instr.fieldAt 99 t3 2) (fun t59 w => S.u P (Instr.storeAt 21 t59 t58) (fun w => S.v
    P (S.bin Go.BinOp.add 3 (Go.Operand.tmp 60) (Go.Operand.const (Go.Value.int Go.IntKind.i64 1)) t34 (Go.Value.int Go.IntKind.i64 1)) (fun t61 w =>
    S.v P (Instr.fieldAt 99 t3 6) (fun t62 w => S.u P (Instr.storeAt 3 t62 t61) (fun w => S.v P (Instr.loadAt 99 t3) (fun t63 w => S.u P
    (Instr.storeAt 99 t4 t63) (fun w => S.p P (S.ldR 99 t4) (fun r4_4 w => K (.tuple #[r4_4, (Go.Value.bool true)]) w) w) w) w) w) w) w) w) w) w)
    (fun J_1 => br q (S.v P (Op.unary Go.UnOp.neg t30) (fun t56 w => J_1 [t56, q] w) w) (J_1 [t30, q] w)))) w) w)) w) w)) w)) w) w) w) w) w
/-- Behind the flags of a format (printed off F70). -/
def rExit (P : Program) (a0 t3 t4 x6 : Value) (K : Value → World → Prop) (w : World) : Prop :=
  S.call P 87 [a0, x6] (fun t79 w => S.v P (Instr.extract t79 0) (fun t80 w => S.v P (Instr.extract t79 1) (fun t81 w => S.v P (Instr.fieldAt 99 t3 4)
    (fun t83 w => S.u P (Instr.storeAt 3 t83 t80) (fun w => S.v P (S.bin Go.BinOp.add 3 (Go.Operand.tmp 84) (Go.Operand.tmp 85) x6 t81) (fun t86 w =>
    S.v P (Instr.fieldAt 99 t3 5) (fun t87 w => S.u P (Instr.storeAt 3 t87 (Go.Value.int Go.IntKind.i64 (-1))) (fun w => S.seq (fun vs_1 w => S.v P
    (Instr.fieldAt 99 t3 4) (fun t111 w => S.v P (Instr.loadAt 3 t111) (fun t112 w => S.v P (S.bin Go.BinOp.gtr 3 (Go.Operand.tmp 112)
    (Go.Operand.const (Go.Value.int Go.IntKind.i64 1000)) t112 (Go.Value.int Go.IntKind.i64 1000)) (fun t113 w => br t113 (S.v P (Instr.loadAt 99 t3)
    (fun t125 w => S.u P (Instr.storeAt 99 t4 t125) (fun w => S.p P (S.ldR 99 t4) (fun r4 w => K (.tuple #[r4, (Go.Value.bool false)]) w) w) w) w)
    (S.v P (Instr.fieldAt 99 t3 5) (fun t115 w => S.v P (Instr.loadAt 3 t115) (fun t116 w => S.v P (S.bin Go.BinOp.gtr 3 (Go.Operand.tmp 116)
    (Go.Operand.const (Go.Value.int Go.IntKind.i64 1000)) t116 (Go.Value.int Go.IntKind.i64 1000)) (fun t117 w => br t117 (S.v P (Instr.loadAt 99 t3)
    (fun t125_1 w => S.u P (Instr.storeAt 99 t4 t125_1) (fun w => S.p P (S.ldR 99 t4) (fun r4_1 w => K (.tuple #[r4_1, (Go.Value.bool false)]) w) w)
    w) w) (S.v P (Builtin.len_ #[9] 3 #[a0]) (fun t122 w => S.v P (S.bin Go.BinOp.geq 3 (Go.Operand.tmp 120) (Go.Operand.tmp 122) (nth vs_1 0) t122)
    (fun t123 w => br t123 (S.v P (Instr.loadAt 99 t3) (fun t125_2 w => S.u P (Instr.storeAt 99 t4 t125_2) (fun w => S.p P (S.ldR 99 t4) (fun r4_2 w
    => K (.tuple #[r4_2, (Go.Value.bool false)]) w) w) w) w) (S.v P (Instr.index 9 a0 (nth vs_1 0)) (fun t128 w => S.v P (Instr.fieldAt 99 t3 1) (fun
    t129 w => S.u P (Instr.storeAt 5 t129 t128) (fun w => S.v P (S.bin Go.BinOp.add 3 (Go.Operand.tmp 130) (Go.Operand.const (Go.Value.int
    Go.IntKind.i64 1)) (nth vs_1 0) (Go.Value.int Go.IntKind.i64 1)) (fun t131 w => S.v P (Instr.fieldAt 99 t3 6) (fun t132 w => S.u P (Instr.storeAt
    3 t132 t131) (fun w => S.drawn (fun w => ∃ H : World → Prop, H w ∧ (S.h P H (Instr.loadAt 99 t3) (fun t133 w => S.h P H (Instr.fieldAt 99 t3 1)
    (fun t134 w => S.h P H (Instr.loadAt 5 t134) (fun t135 w => S.h P H (S.bin Go.BinOp.eql 5 (Go.Operand.tmp 135) (Go.Operand.const (Go.Value.int
    Go.IntKind.u8 100)) t135 (Go.Value.int Go.IntKind.u8 100)) (fun t136 w => br t136 (S.u P (Instr.storeAt 99 t4 t133) (fun w => H w ∧ (S.p P (S.ldR
    99 t4) (fun r4_3 w => K (.tuple #[r4_3, (Go.Value.bool true)]) w) w)) w) (S.h P H (Instr.fieldAt 99 t3 1) (fun t138 w => S.h P H (Instr.loadAt 5
    t138) (fun t139 w => S.h P H (S.bin Go.BinOp.eql 5 (Go.Operand.tmp 139) (Go.Operand.const (Go.Value.int Go.IntKind.u8 111)) t139 (Go.Value.int
    Go.IntKind.u8 111)) (fun t140 w => br t140 (S.u P (Instr.storeAt 99 t4 t133) (fun w => H w ∧ (S.p P (S.ldR 99 t4) (fun r4_4 w => K (.tuple
    #[r4_4, (Go.Value.bool true)]) w) w)) w) (S.h P H (Instr.fieldAt 99 t3 1) (fun t143 w => S.h P H (Instr.loadAt 5 t143) (fun t144 w => S.h P H
    (S.bin Go.BinOp.eql 5 (Go.Operand.tmp 144) (Go.Operand.const (Go.Value.int Go.IntKind.u8 120)) t144 (Go.Value.int Go.IntKind.u8 120)) (fun t145 w
    => br t145 (S.u P (Instr.storeAt 99 t4 t133) (fun w => H w ∧ (S.p P (S.ldR 99 t4) (fun r4_5 w => K (.tuple #[r4_5, (Go.Value.bool true)]) w) w))
    w) (S.h P H (Instr.fieldAt 99 t3 1) (fun t148 w => S.h P H (Instr.loadAt 5 t148) (fun t149 w => S.h P H (S.bin Go.BinOp.eql 5 (Go.Operand.tmp
    149) (Go.Operand.const (Go.Value.int Go.IntKind.u8 88)) t149 (Go.Value.int Go.IntKind.u8 88)) (fun t150 w => br t150 (S.u P (Instr.storeAt 99 t4
    t133) (fun w => H w ∧ (S.p P (S.ldR 99 t4) (fun r4_6 w => K (.tuple #[r4_6, (Go.Value.bool true)]) w) w)) w) (S.h P H (Instr.fieldAt 99 t3 1)
    (fun t153 w => S.h P H (Instr.loadAt 5 t153) (fun t154 w => S.h P H (S.bin Go.BinOp.eql 5 (Go.Operand.tmp 154) (Go.Operand.const (Go.Value.int
    Go.IntKind.u8 115)) t154 (Go.Value.int Go.IntKind.u8 115)) (fun t155 w => S.u P (Instr.storeAt 99 t4 t133) (fun w => H w ∧ (S.p P (S.ldR 99 t4)
    (fun r4_7 w => K (.tuple #[r4_7, t155]) w) w)) w) w) w) w)) w) w) w)) w) w) w)) w) w) w)) w) w) w) w)) w) w) w) w) w) w) w)) w) w)) w) w) w)) w)
    w) w) (fun J_1 => S.v P (Builtin.len_ #[9] 3 #[a0]) (fun t90 w => S.v P (S.bin Go.BinOp.lss 3 (Go.Operand.tmp 88) (Go.Operand.tmp 90) t86 t90)
    (fun t91 w => br t91 (S.v P (Instr.index 9 a0 t86) (fun t95 w => S.v P (S.bin Go.BinOp.eql 5 (Go.Operand.tmp 95) (Go.Operand.const (Go.Value.int
    Go.IntKind.u8 46)) t95 (Go.Value.int Go.IntKind.u8 46)) (fun t96 w => br t96 (S.v P (S.bin Go.BinOp.add 3 (Go.Operand.tmp 100) (Go.Operand.const
    (Go.Value.int Go.IntKind.i64 1)) t86 (Go.Value.int Go.IntKind.i64 1)) (fun t101 w => S.call P 87 [a0, t101] (fun t102 w => S.v P (Instr.extract
    t102 0) (fun t103 w => S.v P (Instr.extract t102 1) (fun t104 w => S.v P (Instr.fieldAt 99 t3 5) (fun t106 w => S.u P (Instr.storeAt 3 t106 t103)
    (fun w => S.v P (S.bin Go.BinOp.add 3 (Go.Operand.tmp 108) (Go.Operand.const (Go.Value.int Go.IntKind.i64 1)) t104 (Go.Value.int Go.IntKind.i64
    1)) (fun t109 w => S.v P (S.bin Go.BinOp.add 3 (Go.Operand.tmp 107) (Go.Operand.tmp 109) t86 t109) (fun t110 w => J_1 [t110, t103, t104, t96] w)
    w) w) w) w) w) w) w) w) (J_1 [t86, undef, undef, t96] w)) w) w) (J_1 [t86, undef, undef, (Go.Value.bool false)] w)) w) w)) w) w) w) w) w) w) w) w
/-- One flag (printed off F70). -/
def rBody (P : Program) (a0 t3 x6 q : Value) (I : List Value → World → Prop) (w : World) : Prop :=
  S.drawn (fun w => S.p P (Instr.fieldAt 99 t3 3) (fun t65 w => S.p P (Instr.loadAt 9 t65) (fun t66 w => S.p P (S.bin Go.BinOp.add 3 (Go.Operand.tmp
    69) (Go.Operand.const (Go.Value.int Go.IntKind.i64 1)) x6 (Go.Value.int Go.IntKind.i64 1)) (fun t70 w => S.p P (Instr.sliceAt 9 a0 (some x6)
    (some t70) none) (fun t71 w => S.p P (S.bin Go.BinOp.add 9 (Go.Operand.tmp 66) (Go.Operand.tmp 71) t66 t71) (fun t72 w => S.p P (Instr.fieldAt 99
    t3 3) (fun t73 w => S.u P (Instr.storeAt 9 t73 t72) (fun w => S.v P (S.bin Go.BinOp.add 3 (Go.Operand.tmp 74) (Go.Operand.const (Go.Value.int
    Go.IntKind.i64 1)) x6 (Go.Value.int Go.IntKind.i64 1)) (fun t75 w => I [t75, q] w) w) w) w) w) w) w) w) w) w
/-- The loop over the flags (printed off F70). -/
def rLoop (P : Program) (a0 t3 t4 q st : Value) (K : Value → World → Prop) (w : World) : Prop :=
  S.loop (fun I => ∀ (x6 : Value) (x64 : Value) (w : World), (S.v P (Builtin.len_ #[9] 3 #[a0]) (fun t30 w => S.v P (S.bin Go.BinOp.lss 3
    (Go.Operand.tmp 28) (Go.Operand.tmp 30) x6 t30) (fun t31 w => br t31 (S.v P (Instr.index 9 a0 x6) (fun t35 w => S.v P (S.bin Go.BinOp.eql 5
    (Go.Operand.tmp 35) (Go.Operand.const (Go.Value.int Go.IntKind.u8 35)) t35 (Go.Value.int Go.IntKind.u8 35)) (fun t36 w => br t36 (rBody P a0 t3
    x6 (Go.Value.bool true) I w) (S.v P (Instr.index 9 a0 x6) (fun t40 w => S.v P (S.bin Go.BinOp.eql 5 (Go.Operand.tmp 40) (Go.Operand.const
    (Go.Value.int Go.IntKind.u8 48)) t40 (Go.Value.int Go.IntKind.u8 48)) (fun t41 w => br t41 (rBody P a0 t3 x6 (Go.Value.bool true) I w) (S.v P
    (Instr.index 9 a0 x6) (fun t46 w => S.v P (S.bin Go.BinOp.eql 5 (Go.Operand.tmp 46) (Go.Operand.const (Go.Value.int Go.IntKind.u8 32)) t46
    (Go.Value.int Go.IntKind.u8 32)) (fun t47 w => br t47 (rBody P a0 t3 x6 (Go.Value.bool true) I w) (br q (S.v P (Instr.index 9 a0 x6) (fun t54 w
    => S.v P (S.bin Go.BinOp.eql 5 (Go.Operand.tmp 54) (Go.Operand.const (Go.Value.int Go.IntKind.u8 45)) t54 (Go.Value.int Go.IntKind.u8 45)) (fun
    t55 w => br t55 (rBody P a0 t3 x6 (Go.Value.bool true) I w) (S.v P (Instr.index 9 a0 x6) (fun t59 w => S.v P (S.bin Go.BinOp.eql 5
    (Go.Operand.tmp 59) (Go.Operand.const (Go.Value.int Go.IntKind.u8 43)) t59 (Go.Value.int Go.IntKind.u8 43)) (fun t60 w => br t60 (rBody P a0 t3
    x6 t60 I w) (rExit P a0 t3 t4 x6 K w)) w) w)) w) w) (rExit P a0 t3 t4 x6 K w))) w) w)) w) w)) w) w) (rExit P a0 t3 t4 x6 K w)) w) w) → I [x6,
    x64] w) [st, undef] w
/-- What is left of a string. -/
def Suf (s r : List UInt8) : Prop := s.drop (s.length - r.length) = r
theorem suf_of {s r : List UInt8} {i : Nat} (h : s.drop i = r) : Suf s r := by
  have hl := drop_len h
  unfold Suf
  by_cases hi : i ≤ s.length
  · rw [show s.length - r.length = i from by omega]
    exact h
  · have : r = [] := List.eq_nil_of_length_eq_zero (by omega)
    subst this
    simp
section
variable {w : World} {K : Value → World → Prop}
theorem run_sub_str (x : List UInt8) (i j : Nat) (hij : i ≤ j) (hj : j ≤ x.length) (w : World) : (Instr.sliceAt 9 (strV x) (some (I64 i)) (some (I64 j)) none).run Tryd.prog w = .ok (strV ((x.drop i).take (j - i))) w := by
  unfold strV
  rw [run_sliceAt_string _ _ _ _ _ _ Tryd.underlying9, run_slice_string w 9 ⟨x.toArray⟩ .i64 .i64 (i : Int) (j : Int) Tryd.underlying9 (by omega) (by omega) (by rw [size_str]; omega)]
  congr 2
  rw [Int.toNat_natCast, Int.toNat_natCast]
  apply ByteArray.ext
  apply Array.ext'
  simp [List.drop_take]
theorem addS_p {x y : Operand} {a b : List UInt8} (h : a.length + b.length ≤ 9223372036854775807) : S.p Tryd.prog (S.bin .add 9 x y (strV a) (strV b)) K w = K (strV (a ++ b)) w := p_eq (by
  unfold S.bin strV
  have hs := run_string_add_sum (P := Tryd.prog) (w := w) ⟨a.toArray⟩ ⟨b.toArray⟩ (by rw [size_str, size_str]; exact h)
  simp [eqGuard, binOp, go_sem, hs]
  apply ByteArray.ext
  simp)
theorem neg_v {n : Int} : S.v Tryd.prog (Op.unary .neg (I64 n)) K w = K (I64 (IntKind.i64.wrap (0 - n))) w := v_eq rfl
theorem retF {b : Nat} {cs : Array Value} {x : RC} {q : Value} {g : Nat} (hx : RAt w g x) (hb : w.heap[b]? = some (.cells cs 99 (0, 0))) (hc : cs.size = 7) (k : ∀ w', Ch [b] w w' → K (.tuple #[rcV x, q]) w') :
    S.v Tryd.prog (Instr.loadAt 99 (PT g)) (fun t w => S.u Tryd.prog (Instr.storeAt 99 (PT b) t) (fun w => S.p Tryd.prog (S.ldR 99 (PT b)) (fun r w => K (.tuple #[r, q]) w) w) w) w := by
  rw [rldX hx]
  exact rret_ hb hc k
set_option maxHeartbeats 2000000
theorem rBr_ {s r : List UInt8} {i t3 t4 : Nat} {c : RC} {q : Bool} {sg : Int} {cs : Array Value} (hd : s.drop i = r) (hi : i ≤ s.length) (hl : s.length ≤ 4096) (hx : RAt w t3 c) (hb : w.heap[t4]? = some (.cells cs 99 (0, 0))) (hcs : cs.size = 7) (hne : t3 ≠ t4)
    (k1 : ∀ (y : RC) (x : Code) (r' : List UInt8) (w' : World), closeR sg (if (numF r 0 0).2.1 ≤ 9 then some (numF r 0 0) else none) = some (x, r') → y.fin = ((s.length - r'.length : Nat) : Int) → Suf s r' → Ch [t3, t4] w w' → K (.tuple #[rcV y, .bool true]) w')
    (k2 : ∀ (y : RC) (w' : World), closeR sg (if (numF r 0 0).2.1 ≤ 9 then some (numF r 0 0) else none) = none → Ch [t3, t4] w w' → K (.tuple #[rcV y, .bool false]) w') : rBr Tryd.prog (strV s) (PT t3) (PT t4) (.bool q) (I64 i) K w := by
  unfold rBr
  refine rnumber_ hd hi hl ?_
  obtain ⟨n1, n2, n3⟩ := numF_rest r 0 0
  have n4 := numF_lt r 0 0 (by omega)
  have hrl := drop_len hd
  generalize hN : numF r 0 0 = N at *
  obtain ⟨n, k, rest⟩ := N
  simp only [Nat.sub_zero] at n1 n2 n3 n4 k1 k2
  dsimp only
  rw [x20, x21, add_v, wrap_i64 (by omega) (by omega), eq_v]
  have no : (closeR sg (if k ≤ 9 then some (n, k, rest) else none) = none) → S.v Tryd.prog (Instr.loadAt 99 (PT t3)) (fun t w => S.u Tryd.prog (Instr.storeAt 99 (PT t4) t) (fun w => S.p Tryd.prog (S.ldR 99 (PT t4)) (fun r w => K (.tuple #[r, .bool false]) w) w) w) w := fun h =>
    retF hx hb hcs fun w' hc => k2 _ w' h (hc.mono (by simp))
  refine br_dec _ _ _ (fun h0 => ?_) (fun h0 => ?_)
  · refine no ?_
    rw [if_pos (by omega)]
    cases rest with
    | nil => rfl
    | cons a t => simp only [closeR]; rw [if_neg (by omega)]
  rw [gt_v]
  refine br_dec _ _ _ (fun h9 => ?_) (fun h9 => ?_)
  · exact no (by rw [if_neg (by omega)]; rfl)
  rw [if_pos (by omega)] at k1 k2 no
  rw [lenS_v', ge_v]
  have hdr : s.drop (i + k) = rest := by rw [← n2, ← hd, List.drop_drop]
  cases rest with
  | nil =>
    have := drop_len hdr
    simp at this
    rw [decide_eq_true (by omega), br_true]
    exact no rfl
  | cons a t =>
    obtain ⟨g1, g2, g3⟩ := drop_at hdr
    rw [decide_eq_false (by omega), br_false, ixS_v (j := i + k) (by omega) g1, neC_v]
    refine br_dec _ _ _ (fun ha => ?_) (fun ha => ?_)
    · refine no ?_
      simp only [closeR]
      rw [if_neg (fun h => ha (by rw [h.1]; rfl))]
    · have ha' : a = 125 := UInt8.toNat_inj.1 (by simp; omega)
      refine seq_ok fun J hJ => ?_
      have htl := drop_len g2
      have hJ' : ∀ (m : Int) (rs : List Value), J (I64 m :: rs) w := by
        intro m rs
        refine hJ _ _ ?_
        rw [nth_zero, v_eq (cv321w _), fa_v (show fieldOff Tryd.prog 99 2 = some 2 from fo99_2)]
        refine stN hx fun w1 hx1 hc1 => ?_
        rw [add_v, wrap_i64 (by omega) (by omega), fa_v fo99_6]
        refine stFin hx1 fun w2 hx2 hc2 => ?_
        have hc02 : Ch [t3] w w2 := hc1.trans hc2 (fun x hx => .inl hx)
        refine retF hx2 (hc02.at_ hb (by simpa using hne.symm)) hcs fun w3 hc3 => ?_
        refine k1 _ _ t w3 (by simp only [closeR]; rw [if_pos ⟨ha', by omega⟩]) (by simp only; omega) (suf_of g2) ((hc02.mono (by simp)).trans hc3 (by simp))
      cases q with
      | true => rw [br_true, neg_v]; exact hJ' _ _
      | false => rw [br_false]; exact hJ' _ _
theorem braces_ {s r : List UInt8} {c : RC} (hd : s.drop (c.at' + 2) = r) (hi : c.at' + 2 ≤ s.length) (hl : s.length ≤ 4096)
    (k1 : ∀ (y : RC) (x : Code) (r' : List UInt8) (w' : World), numberR r = some (x, r') → y.fin = ((s.length - r'.length : Nat) : Int) → Suf s r' → Ch [] w w' → K (.tuple #[rcV y, .bool true]) w')
    (k2 : ∀ (y : RC) (w' : World), numberR r = none → Ch [] w w' → K (.tuple #[rcV y, .bool false]) w') : S.call Tryd.prog 69 [strV s, rcV c] K w := by
  refine F69_link ?_
  unfold F69
  refine Go.Fw.bx fun w0 hb0 hc0 hs0 => ?_
  refine al z99 fun w1 hb1 hc1 hs1 => ?_
  have hx1 : RAt w1 w.heap.size c := hc1.at_ hb0 (by simp)
  generalize hg3 : w.heap.size = t3 at *
  generalize hg4 : w0.heap.size = t4 at *
  have hc01 : Ch [] w w1 := hc0.trans hc1 (by simp)
  have hne : t3 ≠ t4 := by omega
  rw [fa_v fo99_0, rldAt hx1, add_v, wrap_i64 (by omega) (by omega), lenS_v', lt_v, show (c.at' : Int) + 2 = ((c.at' + 2 : Nat) : Int) from by omega]
  have go : ∀ (i : Nat) (r1 : List UInt8) (sg : Int) (q : Bool), signR r = (sg, r1) → s.drop i = r1 → i ≤ s.length → rBr Tryd.prog (strV s) (PT t3) (PT t4) (.bool q) (I64 i) K w1 := by
    intro i r1 sg q hs hdi hii
    have hnum : numberR r = closeR sg (if (numF r1 0 0).2.1 ≤ 9 then some (numF r1 0 0) else none) := by
      unfold numberR
      rw [hs]
      simp only
      rw [num_num r1 0 0 (by omega) (by omega)]
    refine rBr_ hdi hii hl hx1 hb1 rfl hne (sg := sg) (fun y x r' w' h1 h2 h3 hc => ?_) (fun y w' h1 hc => ?_)
    · exact k1 y x r' w' (by rw [hnum]; exact h1) h2 h3 (Ch.fresh hc01 hc (by simp; omega))
    · exact k2 y w' (by rw [hnum]; exact h1) (Ch.fresh hc01 hc (by simp; omega))
  cases r with
  | nil =>
    have := drop_len hd
    simp at this
    rw [decide_eq_false (by omega), br_false]
    refine seq_ok fun J hJ => ?_
    refine hJ _ _ ?_
    exact go (c.at' + 2) [] 1 false (by unfold signR; rw [if_neg (by decide)]) hd hi
  | cons a t =>
    obtain ⟨g1, g2, g3⟩ := drop_at hd
    rw [decide_eq_true (by omega), br_true, ixS_v rfl g1, eqC_v]
    refine seq_ok fun J hJ => ?_
    refine br_dec _ _ _ (fun h45 => ?_) (fun h45 => ?_)
    · have ha : a = 45 := UInt8.toNat_inj.1 (by simp; omega)
      rw [decide_eq_true h45] at hJ ⊢
      rw [add_v, wrap_i64 (by omega) (by omega), show ((c.at' + 2 : Nat) : Int) + 1 = ((c.at' + 3 : Nat) : Int) from by omega]
      refine hJ _ _ ?_
      exact go (c.at' + 3) t (-1) true (by unfold signR; rw [if_pos (show peekR (a :: t) = 45 from ha)]; rfl) g2 (by omega)
    · have ha : a ≠ 45 := fun e => h45 (by rw [e]; rfl)
      rw [decide_eq_false h45] at hJ ⊢
      refine hJ _ _ ?_
      exact go (c.at' + 2) (a :: t) 1 false (by unfold signR; rw [if_neg (show ¬ peekR (a :: t) = 45 from ha)]) hd (by omega)
theorem rExit_ {s r fl : List UInt8} {i t3 t4 : Nat} {c : RC} {cs : Array Value} (hd : s.drop i = r) (hi : i ≤ s.length) (hl : s.length ≤ 4096) (hx : RAt w t3 c) (hb : w.heap[t4]? = some (.cells cs 99 (0, 0))) (hcs : cs.size = 7) (hne : t3 ≠ t4)
    (k1 : ∀ (y : RC) (x : Code) (r' : List UInt8) (w' : World), exitR fl r = some (x, r') → y.fin = ((s.length - r'.length : Nat) : Int) → Suf s r' → Ch [t3, t4] w w' → K (.tuple #[rcV y, .bool true]) w')
    (k2 : ∀ (y : RC) (w' : World), exitR fl r = none → Ch [t3, t4] w w' → K (.tuple #[rcV y, .bool false]) w') : rExit Tryd.prog (strV s) (PT t3) (PT t4) (I64 i) K w := by
  unfold rExit
  refine rnumber_ hd hi hl ?_
  obtain ⟨n1, n2, n3⟩ := numF_rest r 0 0
  have n4 := numF_lt r 0 0 (by omega)
  have hcn := count_num r 0 0
  have hrl := drop_len hd
  generalize hN : numF r 0 0 = N at *
  obtain ⟨n, k, r2⟩ := N
  simp only [Nat.sub_zero] at n1 n2 n3 n4
  dsimp only
  simp only [Nat.zero_min] at hcn
  rw [x20, x21, fa_v fo99_4]
  refine stWd hx fun w1 hx1 hc1 => ?_
  rw [add_v, wrap_i64 (by omega) (by omega), fa_v fo99_5, show (i : Int) + (k : Int) = ((i + k : Nat) : Int) from by omega]
  refine stPr hx1 fun w2 hx2 hc2 => ?_
  have hc02 : Ch [t3] w w2 := hc1.trans hc2 (fun x hx => .inl hx)
  have hb2 := hc02.at_ hb (by simpa using hne.symm)
  have hdr : s.drop (i + k) = r2 := by rw [← n2, ← hd, List.drop_drop]
  have hE : exitR fl r = if min n 1001 ≤ 1000 then precR fl (min n 1001) r2 else none := by unfold exitR; rw [hcn]
  rw [hE] at k1 k2
  refine seq_ok fun J hJ => ?_
  -- behind the width and the precision
  have hJ' : ∀ (j : Nat) (r3 : List UInt8) (pr : Int) (rs : List Value) (w3 : World) (x3 : RC), s.drop j = r3 → j ≤ s.length → RAt w3 t3 x3 → x3.wd = (n : Int) → x3.pr = pr → Ch [t3] w2 w3 → precR fl (min n 1001) r2 = (if pr ≤ 1000 then tailR fl (min n 1001) (min pr 1001) r3 else none) → J (I64 j :: rs) w3 := by
    intro j r3 pr rs w3 x3 hdj hj hx3 hw hp hc3 hP
    refine hJ _ _ ?_
    rw [hP] at k1 k2
    have hc03 : Ch [t3] w w3 := hc02.trans hc3 (fun x hx => .inl hx)
    have hb3 := hc03.at_ hb (by simpa using hne.symm)
    have no : (if min n 1001 ≤ 1000 then (if pr ≤ 1000 then tailR fl (min n 1001) (min pr 1001) r3 else none) else none) = (none : Option (Code × List UInt8)) → S.v Tryd.prog (Instr.loadAt 99 (PT t3)) (fun t w => S.u Tryd.prog (Instr.storeAt 99 (PT t4) t) (fun w => S.p Tryd.prog (S.ldR 99 (PT t4)) (fun r w => K (.tuple #[r, .bool false]) w) w) w) w3 := fun h =>
      retF hx3 hb3 hcs fun w' hc => k2 _ w' h ((hc03.mono (by simp)).trans hc (by simp))
    rw [nth_zero, fa_v fo99_4, rldWd hx3, hw, gt_v]
    refine br_dec _ _ _ (fun hwd => ?_) (fun hwd => ?_)
    · exact no (by rw [if_neg (by omega)])
    rw [if_pos (by omega)] at k1 k2 no
    rw [fa_v fo99_5, rldPr hx3, hp, gt_v]
    refine br_dec _ _ _ (fun hpr => ?_) (fun hpr => ?_)
    · exact no (by rw [if_neg (by omega)])
    rw [if_pos (by omega)] at k1 k2 no
    rw [lenS_v', ge_v]
    cases r3 with
    | nil =>
      have := drop_len hdj
      simp at this
      rw [decide_eq_true (by omega), br_true]
      exact no rfl
    | cons a t =>
      obtain ⟨g1, g2, g3⟩ := drop_at hdj
      rw [decide_eq_false (by omega), br_false, ixS_v rfl g1, fa_v fo99_1]
      refine stDo hx3 fun w4 hx4 hc4 => ?_
      rw [add_v, wrap_i64 (by omega) (by omega), fa_v fo99_6]
      refine stFin hx4 fun w5 hx5 hc5 => ?_
      have hc35 : Ch [t3] w3 w5 := hc4.trans hc5 (fun x hx => .inl hx)
      refine drawn_ok fun w6 hc6 hs6 => ?_
      have hc06 : Ch [t3] w w6 := (hc03.trans hc35 (fun x hx => .inl hx)).trans hc6 (by simp)
      have hx6 : RAt w6 t3 _ := hc6.at_ hx5 (by simp)
      have hb6 := hc06.at_ hb (by simpa using hne.symm)
      have htl := drop_len g2
      have yes : konv a → tailR fl (min n 1001) (min pr 1001) (a :: t) = some ({ op := 100, c := a, flags := fl, width := min n 1001, prec := min pr 1001 }, t) := fun h => by simp only [tailR]; rw [if_pos h]
      have nok : ¬ konv a → tailR fl (min n 1001) (min pr 1001) (a :: t) = none := fun h => by simp only [tailR]; rw [if_neg h]
      refine ⟨fun w' => RAt w' t3 { x3 with do' := a, fin := (j : Int) + 1 }, hx6, ?_⟩
      have hfin : ∀ (q : Bool), (q = true ↔ konv a) → S.u Tryd.prog (Instr.storeAt 99 (PT t4) (rcV { x3 with do' := a, fin := (j : Int) + 1 })) (fun w => RAt w t3 { x3 with do' := a, fin := (j : Int) + 1 } ∧ S.p Tryd.prog (S.ldR 99 (PT t4)) (fun r w => K (.tuple #[r, .bool q]) w) w) w6 := by
        intro q hq
        refine stw ag99 hb6 hcs rfl (one_rc _) fun w7 hb7 hc7 hs7 => ?_
        refine ⟨hc7.at_ hx6 (by simpa using hne), ?_⟩
        rw [ldR_p ag99 hb7 rfl]
        have hc07 : Ch [t3, t4] w w7 := (hc06.mono (by simp)).trans hc7 (by simp)
        cases q with
        | true => exact k1 { x3 with do' := a, fin := (j : Int) + 1 } _ t w7 (yes (hq.1 rfl)) (by simp only; omega) (suf_of g2) hc07
        | false => exact k2 { x3 with do' := a, fin := (j : Int) + 1 } w7 (nok (fun h => by simpa using hq.2 h)) hc07
      have ldx : ∀ w', RAt w' t3 { x3 with do' := a, fin := (j : Int) + 1 } → (Instr.loadAt 99 (PT t3)).run Tryd.prog w' = .ok (rcV { x3 with do' := a, fin := (j : Int) + 1 }) w' := fun w' hw => run_lda (vs := rcC { x3 with do' := a, fin := (j : Int) + 1 }) ag99 rfl (block_cells hw)
      have lda' : ∀ w', RAt w' t3 { x3 with do' := a, fin := (j : Int) + 1 } → (Instr.loadAt 5 (.pointer (some ⟨t3, 1, none⟩))).run Tryd.prog w' = .ok (byteV a) w' := fun w' hw => run_ld sc5 (cells7 hw).2.1
      have eqa : ∀ (x y : Operand) (m : Int) (w' : World), (S.bin .eql 5 x y (byteV a) (.int .u8 m)).run Tryd.prog w' = .ok (.bool (decide ((a.toNat : Int) = m))) w' := fun x y m w' => run_eq ..
      refine h_ok (x := rcV { x3 with do' := a, fin := (j : Int) + 1 }) ldx ?_
      refine h_ok (x := .pointer (some ⟨t3, 1, none⟩)) (fun w' hw => run_fa0 w' fo99_1) (h_ok (x := byteV a) lda' (h_ok (fun w' hw => eqa _ _ _ w') ?_))
      refine br_dec _ _ _ (fun e => hfin true (by simp [konv]; omega)) (fun e1 => ?_)
      refine h_ok (x := .pointer (some ⟨t3, 1, none⟩)) (fun w' hw => run_fa0 w' fo99_1) (h_ok (x := byteV a) lda' (h_ok (fun w' hw => eqa _ _ _ w') ?_))
      refine br_dec _ _ _ (fun e => hfin true (by simp [konv]; omega)) (fun e2 => ?_)
      refine h_ok (x := .pointer (some ⟨t3, 1, none⟩)) (fun w' hw => run_fa0 w' fo99_1) (h_ok (x := byteV a) lda' (h_ok (fun w' hw => eqa _ _ _ w') ?_))
      refine br_dec _ _ _ (fun e => hfin true (by simp [konv]; omega)) (fun e3 => ?_)
      refine h_ok (x := .pointer (some ⟨t3, 1, none⟩)) (fun w' hw => run_fa0 w' fo99_1) (h_ok (x := byteV a) lda' (h_ok (fun w' hw => eqa _ _ _ w') ?_))
      refine br_dec _ _ _ (fun e => hfin true (by simp [konv]; omega)) (fun e4 => ?_)
      refine h_ok (x := .pointer (some ⟨t3, 1, none⟩)) (fun w' hw => run_fa0 w' fo99_1) (h_ok (x := byteV a) lda' (h_ok (fun w' hw => eqa _ _ _ w') ?_))
      exact hfin _ (by simp [konv]; omega)
  clear hJ
  have hP0 : peekR r2 ≠ 46 → precR fl (min n 1001) r2 = (if (-1 : Int) ≤ 1000 then tailR fl (min n 1001) (min (-1) 1001) r2 else none) := fun h => by
    unfold precR
    rw [if_neg h, if_pos (by omega)]
    congr 1
  rw [lenS_v', lt_v]
  have hj2 := drop_len hdr
  cases r2 with
  | nil =>
    simp at hj2
    rw [decide_eq_false (by omega), br_false]
    exact hJ' (i + k) [] (-1) _ w2 _ hdr (by omega) hx2 rfl rfl (Ch.refl _ _) (hP0 (by decide))
  | cons a t =>
    obtain ⟨g1, g2, g3⟩ := drop_at hdr
    rw [decide_eq_true (by omega), br_true, ixS_v rfl g1, eqC_v]
    refine br_dec _ _ _ (fun h46 => ?_) (fun h46 => ?_)
    · have ha : a = 46 := UInt8.toNat_inj.1 (by simp; omega)
      rw [add_v, wrap_i64 (by omega) (by omega), show ((i + k : Nat) : Int) + 1 = ((i + k + 1 : Nat) : Int) from by omega]
      refine rnumber_ g2 (by omega) hl ?_
      obtain ⟨m1, m2, m3⟩ := numF_rest t 0 0
      have m4 := numF_lt t 0 0 (by omega)
      have hct := count_num t 0 0
      have htl := drop_len g2
      generalize hM : numF t 0 0 = M at *
      obtain ⟨n', k', r4⟩ := M
      simp only [Nat.sub_zero] at m1 m2 m3 m4
      dsimp only
      simp only [Nat.zero_min] at hct
      rw [x20, x21, fa_v fo99_5]
      refine stPr hx2 fun w3 hx3 hc3 => ?_
      rw [add_v, wrap_i64 (by omega) (by omega), add_v, wrap_i64 (by omega) (by omega), show ((i + k : Nat) : Int) + ((k' : Int) + 1) = ((i + k + (k' + 1) : Nat) : Int) from by omega]
      refine hJ' (i + k + (k' + 1)) r4 (n' : Int) _ w3 _ ?_ (by omega) hx3 rfl rfl hc3 ?_
      · rw [← m2, ← g2, List.drop_drop]
        congr 1
        omega
      · unfold precR
        rw [if_pos (show peekR (a :: t) = 46 from ha)]
        show (if (countR t 0).1 ≤ 1000 then tailR fl (min n 1001) (countR t 0).1 (countR t 0).2 else none) = _
        rw [hct]
        simp only
        by_cases hn' : n' ≤ 1000
        · rw [if_pos (by omega), if_pos (by omega)]
          congr 1
          omega
        · rw [if_neg (by omega), if_neg (by omega)]
    · have ha : a ≠ 46 := fun e => h46 (by rw [e]; rfl)
      exact hJ' (i + k) (a :: t) (-1) _ w2 _ hdr (by omega) hx2 rfl rfl (Ch.refl _ _) (hP0 ha)
theorem rLoop_ {s r : List UInt8} {i t3 t4 : Nat} {c : RC} {q : Bool} {cs : Array Value} (hd : s.drop i = r) (hi : i ≤ s.length) (hl : s.length ≤ 4096) (hx : RAt w t3 c) (htx : c.text = []) (hb : w.heap[t4]? = some (.cells cs 99 (0, 0))) (hcs : cs.size = 7) (hne : t3 ≠ t4)
    (k1 : ∀ (y : RC) (x : Code) (r' : List UInt8) (w' : World), exitR (flagsR q r).1 (flagsR q r).2 = some (x, r') → y.fin = ((s.length - r'.length : Nat) : Int) → Suf s r' → Ch [t3, t4] w w' → K (.tuple #[rcV y, .bool true]) w')
    (k2 : ∀ (y : RC) (w' : World), exitR (flagsR q r).1 (flagsR q r).2 = none → Ch [t3, t4] w w' → K (.tuple #[rcV y, .bool false]) w') : rLoop Tryd.prog (strV s) (PT t3) (PT t4) (.bool q) (I64 i) K w := by
  unfold rLoop
  intro I hC
  have key : ∀ (t : List UInt8) (j : Nat) (fl : List UInt8) (x64 : Value) (w' : World) (c' : RC), s.drop j = t → j ≤ s.length → RAt w' t3 c' → c'.text = fl → fl.length ≤ j → Ch [t3] w w' → (flagsR q r).1 = fl ++ (flagsR q t).1 → (flagsR q r).2 = (flagsR q t).2 → I [I64 j, x64] w' := by
    intro t
    induction t with
    | nil =>
      intro j fl x64 w' c' hdt hj hx' htx' hfl hch e1 e2
      refine hC _ _ _ ?_
      have := drop_len hdt
      simp at this
      rw [lenS_v', lt_v, decide_eq_false (by omega), br_false]
      simp only [flagsR, List.append_nil] at e1 e2
      rw [e1, e2] at k1 k2
      refine rExit_ (fl := fl) hdt hj hl hx' (hch.at_ hb (by simpa using hne.symm)) hcs hne (fun y x r' w2 h1 h2 h3 hc => k1 y x r' w2 h1 h2 h3 ((hch.mono (by simp)).trans hc (by simp))) (fun y w2 h1 hc => k2 y w2 h1 ((hch.mono (by simp)).trans hc (by simp)))
    | cons a t ih =>
      intro j fl x64 w' c' hdt hj hx' htx' hfl hch e1 e2
      refine hC _ _ _ ?_
      obtain ⟨g1, g2, g3⟩ := drop_at hdt
      have hb' := hch.at_ hb (by simpa using hne.symm)
      have ex : flagB q a = false → rExit Tryd.prog (strV s) (PT t3) (PT t4) (I64 j) K w' := by
        intro hf
        have e : flagsR q (a :: t) = ([], a :: t) := by simp only [flagsR]; rw [if_neg (by rw [hf]; simp)]
        rw [e] at e1 e2
        simp only [List.append_nil] at e1 e2
        rw [e1, e2] at k1 k2
        exact rExit_ (fl := fl) hdt hj hl hx' hb' hcs hne (fun y x r' w2 h1 h2 h3 hc => k1 y x r' w2 h1 h2 h3 ((hch.mono (by simp)).trans hc (by simp))) (fun y w2 h1 hc => k2 y w2 h1 ((hch.mono (by simp)).trans hc (by simp)))
      have bd : ∀ (v : Value), flagB q a = true → rBody Tryd.prog (strV s) (PT t3) (I64 j) v I w' := by
        intro v hf
        unfold rBody
        refine drawn_ok fun w2 hc2 hs2 => ?_
        have hx2 : RAt w2 t3 c' := hc2.at_ hx' (by simp)
        have hcut : (s.drop j).take (j + 1 - j) = [a] := by rw [hdt, show j + 1 - j = 1 from by omega]; rfl
        rw [fa_p fo99_3, ld_p sc9 (cells7 hx2).2.2.2.1, add_p, wrap_i64 (by omega) (by omega), show (j : Int) + 1 = ((j + 1 : Nat) : Int) from by omega, p_eq (run_sub_str s j (j + 1) (by omega) (by omega) _), hcut, htx', addS_p (by simp; omega), fa_p fo99_3]
        refine stText hx2 fun w3 hx3 hc3 => ?_
        rw [add_v, wrap_i64 (by omega) (by omega), show (j : Int) + 1 = ((j + 1 : Nat) : Int) from by omega]
        have e : flagsR q (a :: t) = (a :: (flagsR q t).1, (flagsR q t).2) := by simp only [flagsR]; rw [if_pos hf]
        rw [e] at e1 e2
        exact ih (j + 1) (fl ++ [a]) v w3 _ g2 (by omega) hx3 rfl (by simp; omega) ((hch.trans hc2 (by simp)).trans hc3 (fun x hx => .inl hx)) (by rw [e1]; simp) e2
      rw [lenS_v', lt_v, decide_eq_true (by omega), br_true, ixS_v rfl g1, eqC_v]
      refine br_dec _ _ _ (fun h1 => bd _ (flagB_spec.2 (.inl (by omega)))) (fun h1 => ?_)
      rw [ixS_v rfl g1, eqC_v]
      refine br_dec _ _ _ (fun h2 => bd _ (flagB_spec.2 (.inr (.inr (.inl (by omega)))))) (fun h2 => ?_)
      rw [ixS_v rfl g1, eqC_v]
      refine br_dec _ _ _ (fun h3 => bd _ (flagB_spec.2 (.inr (.inl (by omega))))) (fun h3 => ?_)
      cases q with
      | false =>
        rw [br_false]
        exact ex (by
          rw [← Bool.not_eq_true, flagB_spec]
          rintro (h | h | h | ⟨h, _⟩)
          · omega
          · omega
          · omega
          · cases h)
      | true =>
        rw [br_true, ixS_v rfl g1, eqC_v]
        refine br_dec _ _ _ (fun h4 => bd _ (flagB_spec.2 (.inr (.inr (.inr ⟨rfl, .inl (by omega)⟩))))) (fun h4 => ?_)
        rw [ixS_v rfl g1, eqC_v]
        refine br_dec _ _ _ (fun h5 => bd _ (flagB_spec.2 (.inr (.inr (.inr ⟨rfl, .inr (by omega)⟩))))) (fun h5 => ?_)
        exact ex (by
          rw [← Bool.not_eq_true, flagB_spec]
          rintro (h | h | h | ⟨_, h | h⟩) <;> omega)
  exact key r i [] _ w c hd hi hx htx (by simp) (Ch.refl _ _) (by simp) rfl
theorem rformat_ {s r : List UInt8} {c : RC} (hd : s.drop (c.at' + 1) = r) (hi : c.at' + 1 ≤ s.length) (hl : s.length ≤ 4096) (htx : c.text = [])
    (k1 : ∀ (y : RC) (x : Code) (r' : List UInt8) (w' : World), formatR r = some (x, r') → y.fin = ((s.length - r'.length : Nat) : Int) → Suf s r' → Ch [] w w' → K (.tuple #[rcV y, .bool true]) w')
    (k2 : ∀ (y : RC) (w' : World), formatR r = none → Ch [] w w' → K (.tuple #[rcV y, .bool false]) w') : S.call Tryd.prog 70 [strV s, rcV c] K w := by
  refine F70_link ?_
  unfold F70
  refine Go.Fw.bx fun w0 hb0 hc0 hs0 => ?_
  refine al z99 fun w1 hb1 hc1 hs1 => ?_
  have hx1 : RAt w1 w.heap.size c := hc1.at_ hb0 (by simp)
  generalize hg3 : w.heap.size = t3 at *
  generalize hg4 : w0.heap.size = t4 at *
  have hc01 : Ch [] w w1 := hc0.trans hc1 (by simp)
  have hne : t3 ≠ t4 := by omega
  rw [fa_v fo99_0, rldAt hx1, add_v, wrap_i64 (by omega) (by omega), lenS_v', lt_v, show (c.at' : Int) + 1 = ((c.at' + 1 : Nat) : Int) from by omega]
  have go : ∀ (i : Nat) (r1 : List UInt8) (q : Bool), formatR r = exitR (flagsR q r1).1 (flagsR q r1).2 → s.drop i = r1 → i ≤ s.length → rLoop Tryd.prog (strV s) (PT t3) (PT t4) (.bool q) (I64 i) K w1 := by
    intro i r1 q hF hdi hii
    rw [hF] at k1 k2
    exact rLoop_ hdi hii hl hx1 htx hb1 rfl hne (fun y x r' w' h1 h2 h3 hc => k1 y x r' w' h1 h2 h3 (Ch.fresh hc01 hc (by simp; omega))) (fun y w' h1 hc => k2 y w' h1 (Ch.fresh hc01 hc (by simp; omega)))
  cases r with
  | nil =>
    have := drop_len hd
    simp at this
    rw [decide_eq_false (by omega), br_false]
    refine seq_ok fun J hJ => ?_
    refine hJ _ _ ?_
    exact go (c.at' + 1) [] false rfl hd hi
  | cons a t =>
    obtain ⟨g1, g2, g3⟩ := drop_at hd
    rw [decide_eq_true (by omega), br_true, ixS_v rfl g1, eqC_v]
    refine seq_ok fun J hJ => ?_
    refine br_dec _ _ _ (fun h58 => ?_) (fun h58 => ?_)
    · have ha : a = 58 := UInt8.toNat_inj.1 (by simp; omega)
      rw [decide_eq_true h58] at hJ ⊢
      rw [add_v, wrap_i64 (by omega) (by omega), show ((c.at' + 1 : Nat) : Int) + 1 = ((c.at' + 2 : Nat) : Int) from by omega]
      refine hJ _ _ ?_
      exact go (c.at' + 2) t true (by
        unfold formatR
        rw [show peekR (a :: t) = a from rfl, decide_eq_true ha, if_pos ha]
        rfl) g2 (by omega)
    · have ha : a ≠ 58 := fun e => h58 (by rw [e]; rfl)
      rw [decide_eq_false h58] at hJ ⊢
      refine hJ _ _ ?_
      exact go (c.at' + 1) (a :: t) false (by
        unfold formatR
        rw [show peekR (a :: t) = a from rfl, decide_eq_false ha, if_neg ha]) hd (by omega)
end
end Go.Proofs.YtjaoeipfiodnfaaDoor
