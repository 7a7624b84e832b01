import Derived.Test.YtjaoeipfiodnfaaDoorB2
set_option linter.unusedVariables false
set_option maxRecDepth 4000
namespace Go.Proofs.YtjaoeipfiodnfaaDoor
open Go Go.Fw Go.Proofs
/-- What follows the flags of a format (printed off F77). -/
def fmtExit (P : Program) (a0 t2 t4 : Value) (K : Value → World → Prop) (w : World) : Prop :=
  S.call P 94 [a0] (fun t61 w => S.v P (Instr.extract t61 0) (fun t62 w => S.v P (Instr.extract t61 1) (fun t63 w => S.v P (Instr.fieldAt 76 t4 5) (fun
    t64 w => S.u P (Instr.storeAt 3 t64 t62) (fun w => S.v P (Op.unary Go.UnOp.not t63) (fun t66 w => br t66 (S.v P (Instr.build 76 #[]) (fun t67 w
    => S.u P (Instr.storeAt 76 t2 t67) (fun w => S.p P (S.ldR 76 t2) (fun r2 w => K (.tuple #[r2, (Go.Value.bool false)]) w) w) w) w) (S.seq (fun
    vs_1 w => S.call P 75 [a0] (fun t89 w => S.v P (Instr.extract t89 0) (fun t90 w => S.v P (Instr.extract t89 1) (fun t91 w => S.v P (Instr.fieldAt
    76 t4 1) (fun t92 w => S.u P (Instr.storeAt 5 t92 (Go.Value.int Go.IntKind.u8 100)) (fun w => S.v P (Instr.fieldAt 76 t4 2) (fun t94 w => S.u P
    (Instr.storeAt 5 t94 t90) (fun w => S.v P (Instr.loadAt 76 t4) (fun t95 w => br t91 (S.v P (S.bin Go.BinOp.eql 5 (Go.Operand.tmp 98)
    (Go.Operand.const (Go.Value.int Go.IntKind.u8 100)) t90 (Go.Value.int Go.IntKind.u8 100)) (fun t99 w => br t99 (S.u P (Instr.storeAt 76 t2 t95)
    (fun w => S.p P (S.ldR 76 t2) (fun r2_1 w => K (.tuple #[r2_1, (Go.Value.bool true)]) w) w) w) (S.v P (S.bin Go.BinOp.eql 5 (Go.Operand.tmp 101)
    (Go.Operand.const (Go.Value.int Go.IntKind.u8 111)) t90 (Go.Value.int Go.IntKind.u8 111)) (fun t102 w => br t102 (S.u P (Instr.storeAt 76 t2 t95)
    (fun w => S.p P (S.ldR 76 t2) (fun r2_2 w => K (.tuple #[r2_2, (Go.Value.bool true)]) w) w) w) (S.v P (S.bin Go.BinOp.eql 5 (Go.Operand.tmp 105)
    (Go.Operand.const (Go.Value.int Go.IntKind.u8 120)) t90 (Go.Value.int Go.IntKind.u8 120)) (fun t106 w => br t106 (S.u P (Instr.storeAt 76 t2 t95)
    (fun w => S.p P (S.ldR 76 t2) (fun r2_3 w => K (.tuple #[r2_3, (Go.Value.bool true)]) w) w) w) (S.v P (S.bin Go.BinOp.eql 5 (Go.Operand.tmp 109)
    (Go.Operand.const (Go.Value.int Go.IntKind.u8 88)) t90 (Go.Value.int Go.IntKind.u8 88)) (fun t110 w => br t110 (S.u P (Instr.storeAt 76 t2 t95)
    (fun w => S.p P (S.ldR 76 t2) (fun r2_4 w => K (.tuple #[r2_4, (Go.Value.bool true)]) w) w) w) (S.v P (S.bin Go.BinOp.eql 5 (Go.Operand.tmp 113)
    (Go.Operand.const (Go.Value.int Go.IntKind.u8 115)) t90 (Go.Value.int Go.IntKind.u8 115)) (fun t114 w => S.u P (Instr.storeAt 76 t2 t95) (fun w
    => S.p P (S.ldR 76 t2) (fun r2_5 w => K (.tuple #[r2_5, t114]) w) w) w) w)) w)) w)) w)) w) (S.u P (Instr.storeAt 76 t2 t95) (fun w => S.p P
    (S.ldR 76 t2) (fun r2_6 w => K (.tuple #[r2_6, (Go.Value.bool false)]) w) w) w)) w) w) w) w) w) w) w) w) (fun J_1 => S.call P 92 [a0] (fun t69 w
    => S.v P (S.bin Go.BinOp.eql 5 (Go.Operand.tmp 69) (Go.Operand.const (Go.Value.int Go.IntKind.u8 46)) t69 (Go.Value.int Go.IntKind.u8 46)) (fun
    t70 w => br t70 (S.v P (S.nilC a0) (fun t72 w => S.v P (Instr.fieldAt 107 t72 1) (fun t73 w => S.v P (Instr.loadAt 3 t73) (fun t74 w => S.v P
    (S.bin Go.BinOp.add 3 (Go.Operand.tmp 74) (Go.Operand.const (Go.Value.int Go.IntKind.i64 1)) t74 (Go.Value.int Go.IntKind.i64 1)) (fun t75 w =>
    S.v P (S.nilC a0) (fun t76 w => S.v P (Instr.fieldAt 107 t76 1) (fun t77 w => S.u P (Instr.storeAt 3 t77 t75) (fun w => S.call P 94 [a0] (fun t80
    w => S.v P (Instr.extract t80 0) (fun t81 w => S.v P (Instr.extract t80 1) (fun t82 w => S.v P (Instr.fieldAt 76 t4 6) (fun t83 w => S.u P
    (Instr.storeAt 3 t83 t81) (fun w => S.v P (Op.unary Go.UnOp.not t82) (fun t85 w => br t85 (S.v P (Instr.build 76 #[]) (fun t86 w => S.u P
    (Instr.storeAt 76 t2 t86) (fun w => S.p P (S.ldR 76 t2) (fun r2_7 w => K (.tuple #[r2_7, (Go.Value.bool false)]) w) w) w) w) (J_1 [(Go.Value.bool
    false), t82, t70, t85] w)) w) w) w) w) w) w) w) w) w) w) w) w) w) (J_1 [(Go.Value.bool false), t63, t70, undef] w)) w) w))) w) w) w) w) w) w
/-- One flag (printed off F77). -/
def fmtBody (P : Program) (a0 t4 t22 t43 : Value) (I : List Value → World → Prop) (w : World) : Prop :=
  S.v P (Instr.fieldAt 76 t4 4) (fun t45 w => S.v P (Instr.loadAt 9 t45) (fun t46 w => S.v P (Go.convert 5 21 t22) (fun t48 w => S.v P (Go.convert 21 9
    t48) (fun t49 w => S.v P (S.bin Go.BinOp.add 9 (Go.Operand.tmp 46) (Go.Operand.tmp 49) t46 t49) (fun t50 w => S.v P (Instr.fieldAt 76 t4 4) (fun
    t51 w => S.u P (Instr.storeAt 9 t51 t50) (fun w => S.v P (S.nilC a0) (fun t53 w => S.v P (Instr.fieldAt 107 t53 1) (fun t54 w => S.v P
    (Instr.loadAt 3 t54) (fun t55 w => S.v P (S.bin Go.BinOp.add 3 (Go.Operand.tmp 55) (Go.Operand.const (Go.Value.int Go.IntKind.i64 1)) t55
    (Go.Value.int Go.IntKind.i64 1)) (fun t56 w => S.v P (S.nilC a0) (fun t57 w => S.v P (Instr.fieldAt 107 t57 1) (fun t58 w => S.u P (Instr.storeAt
    3 t58 t56) (fun w => I [t22, t43] w) w) w) w) w) w) w) w) w) w) w) w) w) w) w
def CAt (w : World) (b : Nat) (x : Code) : Prop := w.heap[b]? = some (.cells #[I64 x.at', byteV x.op, byteV x.c, I32 x.n, strV x.flags, I64 x.width, I64 x.prec] 76 (0, 0))
def flagB (colon : Bool) (c : UInt8) : Bool := decide (c.toNat = 35) || decide (c.toNat = 32) || decide (c.toNat = 48) || (colon && (decide (c.toNat = 45) || decide (c.toNat = 43)))
def flagsR (colon : Bool) : List UInt8 → List UInt8 × List UInt8
  | [] => ([], [])
  | c :: r => if flagB colon c = true then (c :: (flagsR colon r).1, (flagsR colon r).2) else ([], c :: r)
def konv (c : UInt8) : Prop := c.toNat = 100 ∨ c.toNat = 111 ∨ c.toNat = 120 ∨ c.toNat = 88 ∨ c.toNat = 115
instance (c : UInt8) : Decidable (konv c) := by unfold konv; infer_instance
def tailR (fl : List UInt8) (wd : Nat) (pr : Int) : List UInt8 → Option (Code × List UInt8)
  | [] => none
  | c :: r => if konv c then some ({ op := 100, c := c, flags := fl, width := wd, prec := pr }, r) else none
def precR (fl : List UInt8) (wd : Nat) (r : List UInt8) : Option (Code × List UInt8) :=
  if peekR r = 46 then (if (countR r.tail 0).1 ≤ 1000 then tailR fl wd (countR r.tail 0).1 (countR r.tail 0).2 else none) else tailR fl wd (-1) r
def exitR (fl r : List UInt8) : Option (Code × List UInt8) := if (countR r 0).1 ≤ 1000 then precR fl (countR r 0).1 (countR r 0).2 else none
def formatR (r : List UInt8) : Option (Code × List UInt8) :=
  let colon := decide (peekR r = 58)
  let r1 := if peekR r = 58 then r.tail else r
  exitR (flagsR colon r1).1 (flagsR colon r1).2
section
variable {w : World} {K : Value → World → Prop}
theorem peek_eq {r : List UInt8} {n : Nat} {c : UInt8} (hc : c.toNat = n) : ((peekR r).toNat : Int) = n ↔ peekR r = c := by
  constructor
  · intro h
    apply UInt8.toNat_inj.1
    omega
  · intro h
    rw [h]
    omega
theorem cons_of_peek {r : List UInt8} {c : UInt8} (h : peekR r = c) (h0 : c ≠ 0) : ∃ t, r = c :: t := by
  cases r with
  | nil => exact absurd h.symm h0
  | cons a t => exact ⟨t, by rw [show a = c from h]⟩
set_option maxHeartbeats 1000000
theorem exit_ {b b2 b4 : Nat} {s r fl : List UInt8} {cs : Array Value} (hp : PS w b s r) (hl : s.length ≤ 4096) (hx : CAt w b4 { flags := fl, prec := -1 }) (hb2 : w.heap[b2]? = some (.cells cs 76 (0, 0))) (hcs : cs.size = 7)
    (hd1 : b ≠ b2) (hd2 : b ≠ b4) (hd3 : b2 ≠ b4)
    (k1 : ∀ x r' w', exitR fl r = some (x, r') → PS w' b s r' → Ch [b, b2, b4] w w' → K (.tuple #[codeV x, .bool true]) w')
    (k2 : ∀ x w', exitR fl r = none → Ch [b, b2, b4] w w' → K (.tuple #[codeV x, .bool false]) w') : fmtExit Tryd.prog (PT b) (PT b2) (PT b4) K w := by
  unfold fmtExit
  refine count_ hp hl fun w1 hp1 hc1 => ?_
  have hx1 : CAt w1 b4 _ := hc1.at_ hx (by simp; omega)
  have hb21 := hc1.at_ hb2 (by simp; omega)
  rw [x20, x21, fa_v fo76_5]
  refine st sc3 hx1 (by simp) rfl fun w2 hb4 hc2 hs2 => ?_
  have hx2 : CAt w2 b4 { flags := fl, prec := -1, width := (countR r 0).1 } := by unfold CAt; rw [hb4]; rfl
  have hp2 := hp1.ch hc2 (by simp; omega)
  have hb22 := hc2.at_ hb21 (by simp; omega)
  have hc02 : Ch [b, b2, b4] w w2 := (hc1.mono (by simp)).trans hc2 (by simp)
  rw [not_v]
  by_cases hle : (countR r 0).1 ≤ 1000
  · rw [decide_eq_true hle, show (!true) = false from rfl, br_false]
    have hE : exitR fl r = precR fl (countR r 0).1 (countR r 0).2 := by unfold exitR; rw [if_pos hle]
    rw [hE] at k1 k2
    generalize (countR r 0).1 = wd at *
    generalize (countR r 0).2 = r2 at *
    refine seq_ok fun J hJ => ?_
    have main : ∀ (pr : Int) (r3 : List UInt8) (vs : List Value) (w3 : World), precR fl wd r2 = tailR fl wd pr r3 → PS w3 b s r3 → CAt w3 b4 { flags := fl, width := wd, prec := pr } → w3.heap[b2]? = some (.cells cs 76 (0, 0)) → Ch [b, b2, b4] w w3 → J vs w3 := by
      intro pr r3 vs w3 hpr hp3 hx3 hb23 hc03
      rw [hpr] at k1 k2
      refine hJ _ _ ?_
      cases r3 with
      | nil =>
        refine next_nil hp3 hl fun w4 hc4 => ?_
        rw [x20, x21, fa_v fo76_1]
        refine st sc5 (hc4.at_ hx3 (by simp)) (by simp) rfl fun w5 hb5 hc5 hs5 => ?_
        rw [fa_v fo76_2]
        refine st sc5 hb5 (by simp) rfl fun w6 hb6 hc6 hs6 => ?_
        rw [ldw_v ag76 hb6 rfl, br_false]
        have hb26 := hc6.at_ (hc5.at_ (hc4.at_ hb23 (by simp)) (by simp; omega)) (by simp; omega)
        refine ret_ (x := { op := 100, c := 0, flags := fl, width := wd, prec := pr }) hb26 hcs fun w7 hc7 => ?_
        exact k2 _ w7 rfl ((((hc03.trans hc4 (by simp)).trans hc5 (by simp)).trans hc6 (by simp)).trans hc7 (by simp))
      | cons c t =>
        refine next_cons hp3 hl fun w4 hp4 hc4 => ?_
        rw [x20, x21, fa_v fo76_1]
        refine st sc5 (hc4.at_ hx3 (by simp; omega)) (by simp) rfl fun w5 hb5 hc5 hs5 => ?_
        rw [fa_v fo76_2]
        refine st sc5 hb5 (by simp) rfl fun w6 hb6 hc6 hs6 => ?_
        rw [ldw_v ag76 hb6 rfl, br_true]
        have hb26 := hc6.at_ (hc5.at_ (hc4.at_ hb23 (by simp; omega)) (by simp; omega)) (by simp; omega)
        have hp6 := (hp4.ch hc5 (by simp; omega)).ch hc6 (by simp; omega)
        have hc06 : Ch [b, b2, b4] w w6 := ((hc03.trans hc4 (by simp)).trans hc5 (by simp)).trans hc6 (by simp)
        have fin : ∀ (q : Bool), (q = true ↔ konv c) → S.u Tryd.prog (Instr.storeAt 76 (PT b2) (codeV { op := 100, c := c, flags := fl, width := wd, prec := pr })) (fun w => S.p Tryd.prog (S.ldR 76 (PT b2)) (fun r w => K (.tuple #[r, .bool q]) w) w) w6 := by
          intro q hq
          refine ret_ hb26 hcs fun w7 hc7 => ?_
          have hc07 : Ch [b, b2, b4] w w7 := hc06.trans hc7 (by simp)
          cases q with
          | true => exact k1 _ t w7 (by simp [tailR, hq.1 rfl]) (hp6.ch hc7 (by simp; omega)) hc07
          | false => exact k2 _ w7 (by simp [tailR, show ¬ konv c from fun h => by simp at hq; exact hq h]) hc07
        have hbv : byteV c = .int .u8 c.toNat := rfl
        rw [hbv, eq_v]
        refine br_dec _ _ _ (fun e => fin true (by simp [konv]; omega)) (fun e1 => ?_)
        rw [eq_v]
        refine br_dec _ _ _ (fun e => fin true (by simp [konv]; omega)) (fun e2 => ?_)
        rw [eq_v]
        refine br_dec _ _ _ (fun e => fin true (by simp [konv]; omega)) (fun e3 => ?_)
        rw [eq_v]
        refine br_dec _ _ _ (fun e => fin true (by simp [konv]; omega)) (fun e4 => ?_)
        rw [eq_v]
        exact fin _ (by simp [konv]; omega)
    clear hJ
    refine peek_ hp2 hl fun w3 hc3 => ?_
    have hp3 := hp2.ch hc3 (by simp)
    have hx3 : CAt w3 b4 _ := hc3.at_ hx2 (by simp)
    have hb23 := hc3.at_ hb22 (by simp)
    have hc03 : Ch [b, b2, b4] w w3 := hc02.trans hc3 (by simp)
    rw [show byteV (peekR r2) = .int .u8 (peekR r2).toNat from rfl, eq_v]
    refine br_dec _ _ _ (fun h46 => ?_) (fun h46 => ?_)
    · have e46 : peekR r2 = 46 := (peek_eq rfl).1 h46
      obtain ⟨t, rfl⟩ := cons_of_peek e46 (by decide)
      refine step_ hp3 hl fun w4 hp4 hc4 => ?_
      refine count_ hp4 hl fun w5 hp5 hc5 => ?_
      have hx5 : CAt w5 b4 _ := hc5.at_ (hc4.at_ hx3 (by simp; omega)) (by simp; omega)
      have hb25 := hc5.at_ (hc4.at_ hb23 (by simp; omega)) (by simp; omega)
      have hc05 : Ch [b, b2, b4] w w5 := (hc03.trans hc4 (by simp)).trans hc5 (by simp)
      rw [x20, x21, fa_v fo76_6]
      refine st sc3 hx5 (by simp) rfl fun w6 hb6 hc6 hs6 => ?_
      have hc06 : Ch [b, b2, b4] w w6 := hc05.trans hc6 (by simp)
      have hb26 := hc6.at_ hb25 (by simp; omega)
      rw [not_v]
      by_cases hle2 : (countR t 0).1 ≤ 1000
      · rw [decide_eq_true hle2, show (!true) = false from rfl, br_false]
        exact main (countR t 0).1 (countR t 0).2 _ w6 (by unfold precR; rw [if_pos (show peekR (46 :: t) = 46 from rfl), if_pos (show (countR (46 :: t).tail 0).1 ≤ 1000 from hle2)]; rfl) (hp5.ch hc6 (by simp; omega)) (by unfold CAt; rw [hb6]; rfl) hb26 hc06
      · rw [decide_eq_false hle2, show (!false) = true from rfl, br_true, v_eq (bd0 _)]
        exact ret_ hb26 hcs fun w7 hc7 => k2 _ w7 (by unfold precR; rw [if_pos (show peekR (46 :: t) = 46 from rfl), if_neg (show ¬ (countR (46 :: t).tail 0).1 ≤ 1000 from hle2)]) (hc06.trans hc7 (by simp))
    · have e46 : peekR r2 ≠ 46 := fun e => h46 ((peek_eq rfl).2 e)
      exact main (-1) r2 _ w3 (by unfold precR; rw [if_neg e46]) hp3 hx3 hb23 hc03
  · rw [decide_eq_false hle, show (!false) = true from rfl, br_true, v_eq (bd0 _)]
    exact ret_ hb22 hcs fun w3 hc3 => k2 _ w3 (by unfold exitR; rw [if_neg hle]) (hc02.trans hc3 (by simp))
theorem cvB (w : World) (c : UInt8) : (Go.convert 5 21 (byteV c)).run Tryd.prog w = .ok (.int .i32 c.toNat) w := cv521 w c.toNat c.toNat_lt
theorem neC_v {t : TypeId} {x y : Operand} {c : UInt8} {m : Int} : S.v Tryd.prog (S.bin .neq t x y (byteV c) (.int .u8 m)) K w = K (.bool (decide ((c.toNat : Int) ≠ m))) w := ne_v
theorem eqC_v {t : TypeId} {x y : Operand} {c : UInt8} {m : Int} : S.v Tryd.prog (S.bin .eql t x y (byteV c) (.int .u8 m)) K w = K (.bool (decide ((c.toNat : Int) = m))) w := eq_v
theorem addS_v {x y : Operand} {a b : List UInt8} (h : a.length + b.length ≤ 9223372036854775807) : S.v Tryd.prog (S.bin .add 9 x y (strV a) (strV b)) K w = K (strV (a ++ b)) w := v_eq (by
  unfold S.bin strV
  have hs := run_string_add_sum (P := Tryd.prog) (w := w) ⟨a.toArray⟩ ⟨b.toArray⟩ (by rw [size_str, size_str]; exact h)
  simp [eqGuard, binOp, go_sem, hs]
  apply ByteArray.ext
  simp)
theorem enc_ascii {b : UInt8} (h : b.toNat < 128) : Utf8.encode (b.toNat : Int) = ⟨#[b]⟩ := by
  unfold Utf8.encode
  have hv : Utf8.valid (b.toNat : Int) = true := by simp [Utf8.valid]; omega
  simp only [hv, if_true, Int.toNat_natCast, h]
  simp
theorem cvi (b : UInt8) (h : b.toNat < 128) : (Go.convert 21 9 (.int .i32 (b.toNat : Int))).run Tryd.prog w = .ok (strV [b]) w := by
  rw [run_convert_int_string w 21 9 .i32 _ (by kernel_rfl) Tryd.underlying9, enc_ascii h]
  rfl
theorem body_ {b b4 : Nat} {s r fl : List UInt8} {c : UInt8} {x : Value} {I : List Value → World → Prop} (hp : PS w b s (c :: r)) (hl : s.length ≤ 4096) (hx : CAt w b4 { flags := fl, prec := -1 }) (hd : b ≠ b4) (hc : c.toNat < 128) (hfl : fl.length ≤ 4096)
    (k : ∀ w', PS w' b s r → CAt w' b4 { flags := fl ++ [c], prec := -1 } → Ch [b, b4] w w' → I [byteV c, x] w') : fmtBody Tryd.prog (PT b) (PT b4) (byteV c) x I w := by
  unfold fmtBody
  rw [fa_v fo76_4, ldb_v (v := strV fl) sc9 hx rfl, v_eq (cvB _ c), v_eq (cvi c hc), addS_v (by simp; omega), fa_v fo76_4]
  refine st sc9 hx (by simp) rfl fun w1 hb1 hc1 hs1 => ?_
  refine step_ (hp.ch hc1 (by simp; omega)) hl fun w2 hp2 hc2 => ?_
  refine k w2 hp2 (hc2.at_ (by rw [hb1]; rfl) (by simp; omega)) ((hc1.mono (by simp)).trans hc2 (by simp))
theorem flagB_spec {colon : Bool} {c : UInt8} : flagB colon c = true ↔ c.toNat = 35 ∨ c.toNat = 32 ∨ c.toNat = 48 ∨ (colon = true ∧ (c.toNat = 45 ∨ c.toNat = 43)) := by
  unfold flagB
  simp [or_assoc]
theorem format_ {b : Nat} {s r : List UInt8} (h : PS w b s r) (hl : s.length ≤ 4096)
    (k1 : ∀ x r' w', formatR r = some (x, r') → PS w' b s r' → Ch [b] w w' → K (.tuple #[codeV x, .bool true]) w')
    (k2 : ∀ x w', formatR r = none → Ch [b] w w' → K (.tuple #[codeV x, .bool false]) w') : S.call Tryd.prog 77 [PT b] K w := by
  refine F77_link ?_
  unfold F77
  have hblt := h.lt
  refine al z76 fun w1 hb2 hc1 hs1 => ?_
  rw [v_eq (bdp _)]
  refine al z76 fun w2 hb4 hc2 hs2 => ?_
  refine stw (vs := #[I64 0, byteV 0, byteV 0, I32 0, strV [], I64 0, I64 (-1)]) ag76 hb4 rfl rfl (one_code { prec := -1 }) fun w3 hx3 hc3 hs3 => ?_
  have hx3' : CAt w3 w1.heap.size { flags := [], prec := -1 } := hx3
  have hb23 := hc3.at_ (hc2.at_ hb2 (by simp)) (by simp; omega)
  have hc03 : Ch [b] w w3 := ((hc1.trans hc2 (by simp)).nil (L := [b])).trans hc3 (by simp; omega)
  have hp3 := ((h.ch hc1 (by simp)).ch hc2 (by simp)).ch hc3 (by simp; omega)
  have hbb2 : w.heap.size ≠ b ∧ w1.heap.size ≠ b ∧ w.heap.size ≠ w1.heap.size := by omega
  have hfr2 : w.heap.size ≤ w.heap.size ∧ w.heap.size ≤ w1.heap.size := by omega
  generalize hb2n : w.heap.size = b2 at *
  generalize w1.heap.size = b4 at *
  have hs03 := hc03.size
  refine peek_ hp3 hl fun w4 hc4 => ?_
  have hp4 := hp3.ch hc4 (by simp)
  have hx4 : CAt w4 b4 _ := hc4.at_ hx3' (by simp)
  have hb24 := hc4.at_ hb23 (by simp)
  have hc04 : Ch [b] w w4 := hc03.trans hc4 (by simp)
  rw [show byteV (peekR r) = .int .u8 (peekR r).toNat from rfl, eq_v]
  have hcol : decide (((peekR r).toNat : Int) = 58) = decide (peekR r = 58) := decide_eq_decide.2 (peek_eq rfl)
  rw [hcol]
  refine seq_ok fun J hJ => ?_
  have main : ∀ (vs : List Value) (w5 : World), PS w5 b s (if peekR r = 58 then r.tail else r) → CAt w5 b4 { flags := [], prec := -1 } → w5.heap[b2]? = some (.cells (codeV {}).cells 76 (0, 0)) → Ch [b] w w5 → J vs w5 := by
    intro vs w5 hp5 hx5 hb25 hc05
    refine hJ _ _ ?_
    generalize hr1 : (if peekR r = 58 then r.tail else r) = r1 at *
    have hF : formatR r = exitR (flagsR (decide (peekR r = 58)) r1).1 (flagsR (decide (peekR r = 58)) r1).2 := by
      unfold formatR
      simp only
      rw [hr1]
    rw [hF] at k1 k2
    generalize decide (peekR r = 58) = colon at *
    intro I hC
    have key : ∀ (r' fl : List UInt8) (x6 x44 : Value) (w' : World), PS w' b s r' → CAt w' b4 { flags := fl, prec := -1 } → w'.heap[b2]? = some (.cells (codeV {}).cells 76 (0, 0)) → Ch [b] w w' → fl.length + r'.length ≤ 4096 → (flagsR colon r1).1 = fl ++ (flagsR colon r').1 → (flagsR colon r1).2 = (flagsR colon r').2 → I [x6, x44] w' := by
      intro r'
      induction r' with
      | nil =>
        intro fl x6 x44 w' hp hx hb2' hc hlen he1 he2
        refine hC _ _ _ ?_
        refine peek_ hp hl fun w6 hc6 => ?_
        have ex : fmtExit Tryd.prog (PT b) (PT b2) (PT b4) K w6 := by
          refine exit_ (hp.ch hc6 (by simp)) hl (hc6.at_ hx (by simp)) (hc6.at_ hb2' (by simp)) rfl hbb2.1.symm hbb2.2.1.symm hbb2.2.2 (fun x r' w' hE hpp hcc => ?_) (fun x w' hE hcc => ?_)
          · exact k1 x r' w' (by rw [he1, he2]; simpa [flagsR] using hE) hpp ((hc.trans hc6 (by simp)).trans hcc (by simp; omega))
          · exact k2 x w' (by rw [he1, he2]; simpa [flagsR] using hE) ((hc.trans hc6 (by simp)).trans hcc (by simp; omega))
        rw [neC_v, decide_eq_true (by decide), br_true, neC_v, decide_eq_true (by decide), br_true, neC_v, decide_eq_true (by decide), br_true]
        cases colon with
        | true =>
          rw [br_true, eqC_v, decide_eq_false (by decide), br_false, eqC_v, decide_eq_false (by decide), not_v, show (!false) = true from rfl, br_true]
          exact ex
        | false =>
          rw [br_false, not_v, show (!false) = true from rfl, br_true]
          exact ex
      | cons c t ih =>
        intro fl x6 x44 w' hp hx hb2' hc hlen he1 he2
        refine hC _ _ _ ?_
        refine peek_ hp hl fun w6 hc6 => ?_
        have hp6 := hp.ch hc6 (by simp)
        have hx6 : CAt w6 b4 _ := hc6.at_ hx (by simp)
        have hb26 := hc6.at_ hb2' (by simp)
        have hc06 : Ch [b] w w6 := hc.trans hc6 (by simp)
        have ex : flagB colon c = false → fmtExit Tryd.prog (PT b) (PT b2) (PT b4) K w6 := by
          intro hf
          refine exit_ hp6 hl hx6 hb26 rfl hbb2.1.symm hbb2.2.1.symm hbb2.2.2 (fun x r' w' hE hpp hcc => ?_) (fun x w' hE hcc => ?_)
          · exact k1 x r' w' (by rw [he1, he2]; simpa [flagsR, hf] using hE) hpp (hc06.trans hcc (by simp; omega))
          · exact k2 x w' (by rw [he1, he2]; simpa [flagsR, hf] using hE) (hc06.trans hcc (by simp; omega))
        have bd : ∀ (y : Value), flagB colon c = true → fmtBody Tryd.prog (PT b) (PT b4) (byteV c) y I w6 := by
          intro y hf
          have hf' := flagB_spec.1 hf
          simp only [List.length_cons] at hlen
          have hc128 : c.toNat < 128 := by rcases hf' with h | h | h | ⟨_, h | h⟩ <;> omega
          refine body_ hp6 hl hx6 hbb2.2.1.symm hc128 (by omega) fun w7 hp7 hx7 hc7 => ?_
          exact ih (fl ++ [c]) _ _ w7 hp7 hx7 (hc7.at_ hb26 (by simp; omega)) (hc06.trans hc7 (by simp; omega)) (by simp; omega) (by rw [he1]; simp [flagsR, hf]) (by rw [he2]; simp [flagsR, hf])
        rw [show peekR (c :: t) = c from rfl, neC_v]
        refine br_dec _ _ _ (fun h1 => ?_) (fun h1 => bd _ (flagB_spec.2 (.inl (by omega))))
        rw [neC_v]
        refine br_dec _ _ _ (fun h2 => ?_) (fun h2 => bd _ (flagB_spec.2 (.inr (.inl (by omega)))))
        rw [neC_v]
        refine br_dec _ _ _ (fun h3 => ?_) (fun h3 => bd _ (flagB_spec.2 (.inr (.inr (.inl (by omega))))))
        cases colon with
        | true =>
          rw [br_true, eqC_v]
          refine br_dec _ _ _ (fun h4 => ?_) (fun h4 => ?_)
          · rw [not_v, show (!true) = false from rfl, br_false]
            exact bd _ (flagB_spec.2 (.inr (.inr (.inr ⟨rfl, .inl (by omega)⟩))))
          · rw [eqC_v, not_v]
            by_cases h5 : c.toNat = 43
            · rw [decide_eq_true (by omega), show (!true) = false from rfl, br_false]
              exact bd _ (flagB_spec.2 (.inr (.inr (.inr ⟨rfl, .inr (by omega)⟩))))
            · rw [decide_eq_false (by omega), show (!false) = true from rfl, br_true]
              exact ex (by
                rw [← Bool.not_eq_true, flagB_spec]
                rintro (h | h | h | ⟨_, h | h⟩) <;> omega)
        | false =>
          rw [br_false, not_v, show (!false) = true from rfl, br_true]
          exact ex (by
            rw [← Bool.not_eq_true, flagB_spec]
            rintro (h | h | h | ⟨h, _⟩)
            · omega
            · omega
            · omega
            · cases h)
    obtain ⟨n, hn1, hn2, hn3⟩ := id hp5
    exact key r1 [] _ _ w5 hp5 hx5 hb25 hc05 (by simp; omega) (by simp) rfl
  clear hJ
  by_cases h58 : peekR r = 58
  · obtain ⟨t, rfl⟩ := cons_of_peek h58 (by decide)
    rw [decide_eq_true h58, br_true]
    refine step_ hp4 hl fun w5 hp5 hc5 => ?_
    refine main _ w5 (by rw [if_pos h58]; exact hp5) (hc5.at_ hx4 (by simp; omega)) (hc5.at_ hb24 (by simp; omega)) (hc04.trans hc5 (by simp))
  · rw [decide_eq_false h58, br_false]
    exact main _ w4 (by rw [if_neg h58]; exact hp4) hx4 hb24 hc04
end
end Go.Proofs.YtjaoeipfiodnfaaDoor
