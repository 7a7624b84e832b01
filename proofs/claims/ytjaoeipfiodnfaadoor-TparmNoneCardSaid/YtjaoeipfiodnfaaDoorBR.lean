import Derived.Test.YtjaoeipfiodnfaaDoorBQ
set_option linter.unusedVariables false
set_option maxRecDepth 4000
namespace Go.Proofs.YtjaoeipfiodnfaaDoor
open Go Go.Fw Go.Proofs Go.RowKit
/-! ### The reference's read and Check -/
/-- A variable's letter (printed off F47). -/
def rVar (P : Program) (a0 a1 t4 t6 : Value) (K : Value → World → Prop) (w : World) : Prop :=
  S.v P (S.bin Go.BinOp.add 3 (Go.Operand.tmp 72) (Go.Operand.const (Go.Value.int Go.IntKind.i64 2)) a1 (Go.Value.int Go.IntKind.i64 2)) (fun t73 w =>
    S.v P (Builtin.len_ #[9] 3 #[a0]) (fun t75 w => S.v P (S.bin Go.BinOp.geq 3 (Go.Operand.tmp 73) (Go.Operand.tmp 75) t73 t75) (fun t76 w => br t76 (S.v
    P (Instr.loadAt 99 t6) (fun t85 w => S.u P (Instr.storeAt 99 t4 t85) (fun w => S.p P (S.ldR 99 t4) (fun r4_6 w => K (.tuple #[r4_6, (Go.Value.bool
    false)]) w) w) w) w) (S.v P (S.bin Go.BinOp.add 3 (Go.Operand.tmp 79) (Go.Operand.const (Go.Value.int Go.IntKind.i64 2)) a1 (Go.Value.int
    Go.IntKind.i64 2)) (fun t80 w => S.v P (Instr.index 9 a0 t80) (fun t81 w => S.call P 44 [t81] (fun t82 w => S.v P (S.bin Go.BinOp.lss 3
    (Go.Operand.tmp 82) (Go.Operand.const (Go.Value.int Go.IntKind.i64 0)) t82 (Go.Value.int Go.IntKind.i64 0)) (fun t83 w => br t83 (S.v P (Instr.loadAt
    99 t6) (fun t85_1 w => S.u P (Instr.storeAt 99 t4 t85_1) (fun w => S.p P (S.ldR 99 t4) (fun r4_7 w => K (.tuple #[r4_7, (Go.Value.bool false)]) w) w)
    w) w) (S.v P (S.bin Go.BinOp.add 3 (Go.Operand.tmp 87) (Go.Operand.const (Go.Value.int Go.IntKind.i64 2)) a1 (Go.Value.int Go.IntKind.i64 2)) (fun t88
    w => S.v P (Instr.index 9 a0 t88) (fun t89 w => S.v P (Go.convert 5 21 t89) (fun t90 w => S.v P (Instr.fieldAt 99 t6 2) (fun t91 w => S.u P
    (Instr.storeAt 21 t91 t90) (fun w => S.v P (S.bin Go.BinOp.add 3 (Go.Operand.tmp 92) (Go.Operand.const (Go.Value.int Go.IntKind.i64 3)) a1
    (Go.Value.int Go.IntKind.i64 3)) (fun t93 w => S.v P (Instr.fieldAt 99 t6 6) (fun t94 w => S.u P (Instr.storeAt 3 t94 t93) (fun w => S.v P
    (Instr.loadAt 99 t6) (fun t95 w => S.u P (Instr.storeAt 99 t4 t95) (fun w => S.p P (S.ldR 99 t4) (fun r4_8 w => K (.tuple #[r4_8, (Go.Value.bool
    true)]) w) w) w) w) w) w) w) w) w) w) w) w)) w) w) w) w)) w) w) w
theorem memS {d : UInt8} : d ∈ ([37, 99, 105, 108, 43, 45, 42, 47, 109, 38, 124, 94, 61, 62, 60, 65, 79, 33, 126, 63, 116, 101, 59] : List UInt8) ↔ d = 37 ∨ d.toNat ∈ simpleL := by
  simp only [List.mem_cons, List.not_mem_nil, or_false, simpleL, ← UInt8.toNat_inj]
  exact Iff.rfl
theorem u8eq {d e : UInt8} (h : (d.toNat : Int) = e.toNat) : d = e := UInt8.toNat_inj.1 (by omega)
section
variable {w : World} {K : Value → World → Prop}
theorem ltC_v {t : TypeId} {x y : Operand} {c : UInt8} {m : Int} : S.v Tryd.prog (S.bin .lss t x y (byteV c) (.int .u8 m)) K w = K (.bool (decide ((c.toNat : Int) < m))) w := lt_v
theorem gtC_v {t : TypeId} {x y : Operand} {c : UInt8} {m : Int} : S.v Tryd.prog (S.bin .gtr t x y (byteV c) (.int .u8 m)) K w = K (.bool (decide (m < (c.toNat : Int)))) w := gt_v
theorem cvB21 {c : UInt8} : S.v Tryd.prog (Go.convert 5 21 (byteV c)) K w = K (I32 c.toNat) w := v_eq (cv521 _ _ c.toNat_lt)
theorem rVar_ {s r : List UInt8} {n t4 t6 : Nat} {d : UInt8} {c : RC} {cs : Array Value} (hd : s.drop (n + 2) = r) (hi : n + 2 ≤ s.length) (hl : s.length ≤ 4096) (hx : RAt w t6 c) (hb : w.heap[t4]? = some (.cells cs 99 (0, 0))) (hcs : cs.size = 7) (hne : t6 ≠ t4)
    (k1 : ∀ (y : RC) (x : Code) (r' : List UInt8) (w' : World), varR d r = some (x, r') → y.fin = ((s.length - r'.length : Nat) : Int) → Suf s r' → Ch [t6, t4] w w' → K (.tuple #[rcV y, .bool true]) w')
    (k2 : ∀ (y : RC) (w' : World), varR d r = none → Ch [t6, t4] w w' → K (.tuple #[rcV y, .bool false]) w') : rVar Tryd.prog (strV s) (I64 n) (PT t4) (PT t6) K w := by
  unfold rVar
  have no : (varR d r = none) → S.v Tryd.prog (Instr.loadAt 99 (PT t6)) (fun t w => S.u Tryd.prog (Instr.storeAt 99 (PT t4) t) (fun w => S.p Tryd.prog (S.ldR 99 (PT t4)) (fun r w => K (.tuple #[r, .bool false]) w) w) w) w := fun h =>
    retF hx hb hcs fun w' hc => k2 _ w' h (hc.mono (by simp))
  rw [add_v, wrap_i64 (by omega) (by omega), lenS_v', ge_v, show (n : Int) + 2 = ((n + 2 : Nat) : Int) from by omega]
  cases r with
  | nil =>
    have := drop_len hd
    simp at this
    rw [decide_eq_true (by omega), br_true]
    exact no rfl
  | cons x t =>
    obtain ⟨g1, g2, g3⟩ := drop_at hd
    have htl := drop_len g2
    rw [decide_eq_false (by omega), br_false, add_v, wrap_i64 (by omega) (by omega), show (n : Int) + 2 = ((n + 2 : Nat) : Int) from by omega, ixS_v rfl g1]
    refine letterN_ ?_
    rw [lt_v]
    refine br_dec _ _ _ (fun h => ?_) (fun h => ?_)
    · refine no ?_
      simp only [varR]
      rw [if_neg (fun h' => by have := letterB_iff.1 h'; omega)]
    · rw [add_v, wrap_i64 (by omega) (by omega), show (n : Int) + 2 = ((n + 2 : Nat) : Int) from by omega, ixS_v rfl g1, cvB21, fa_v fo99_2]
      refine stN hx fun w1 hx1 hc1 => ?_
      rw [add_v, wrap_i64 (by omega) (by omega), fa_v fo99_6]
      refine stFin hx1 fun w2 hx2 hc2 => ?_
      have hc02 : Ch [t6] w w2 := hc1.trans hc2 (fun x hx => .inl hx)
      refine retF hx2 (hc02.at_ hb (by simpa using hne.symm)) hcs fun w3 hc3 => ?_
      refine k1 _ _ t w3 (by simp only [varR]; rw [if_pos (letterB_iff.2 (by omega))]) (by simp only; omega) (suf_of g2) ((hc02.mono (by simp)).trans hc3 (by simp))
set_option maxHeartbeats 2000000
theorem read_ {s r : List UInt8} {n : Nat} (hd : s.drop n = 37 :: r) (hl : s.length ≤ 4096)
    (k1 : ∀ (y : RC) (x : Code) (r' : List UInt8) (w' : World), percR r = some (x, r') → y.fin = ((s.length - r'.length : Nat) : Int) → Suf s r' → Ch [] w w' → K (.tuple #[rcV y, .bool true]) w')
    (k2 : ∀ (y : RC) (w' : World), percR r = none → Ch [] w w' → K (.tuple #[rcV y, .bool false]) w') : S.call Tryd.prog 47 [strV s, I64 n] K w := by
  refine F47_link ?_
  unfold F47
  refine al z99 fun w0 hb0 hc0 hs0 => ?_
  rw [v_eq (bd99 ..)]
  refine al z99 fun w1 hb1 hc1 hs1 => ?_
  have hb01 := hc1.at_ hb0 (by simp)
  generalize hg4 : w.heap.size = t4 at *
  generalize hg6 : w0.heap.size = t6 at *
  have hne : t6 ≠ t4 := by omega
  refine stw ag99 hb1 rfl rfl (one_rc _) fun w2 hb2 hc2 hs2 => ?_
  have hx2 : RAt w2 t6 { at' := n } := hb2
  have hb4 := hc2.at_ hb01 (by simpa using hne.symm)
  have hc02 : Ch [] w w2 := Ch.fresh (hc0.trans hc1 (by simp)) hc2 (by simp; omega)
  obtain ⟨e1, e2, e3⟩ := drop_at hd
  have hrl := drop_len e2
  have fin : ∀ {w3 w' : World}, Ch [t6] w2 w3 → Ch [t4] w3 w' → Ch [] w w' := fun h2 hc =>
    Ch.fresh hc02 (Ch.trans (Ch.mono (L' := [t6, t4]) h2 (by simp)) hc (by simp)) (by simp; omega)
  have yes : ∀ (w3 : World) (y : RC) (x : Code) (r' : List UInt8), RAt w3 t6 y → Ch [t6] w2 w3 → percR r = some (x, r') → y.fin = ((s.length - r'.length : Nat) : Int) → Suf s r' → S.v Tryd.prog (Instr.loadAt 99 (PT t6)) (fun t w => S.u Tryd.prog (Instr.storeAt 99 (PT t4) t) (fun w => S.p Tryd.prog (S.ldR 99 (PT t4)) (fun r w => K (.tuple #[r, .bool true]) w) w) w) w3 := fun w3 y x r' h1 h2 h3 h4 h5 =>
    retF h1 (h2.at_ hb4 (by simpa using hne.symm)) rfl fun w' hc => k1 _ _ _ w' h3 h4 h5 (fin h2 hc)
  have no : ∀ (w3 : World) (y : RC), RAt w3 t6 y → Ch [t6] w2 w3 → percR r = none → S.v Tryd.prog (Instr.loadAt 99 (PT t6)) (fun t w => S.u Tryd.prog (Instr.storeAt 99 (PT t4) t) (fun w => S.p Tryd.prog (S.ldR 99 (PT t4)) (fun r w => K (.tuple #[r, .bool false]) w) w) w) w3 := fun w3 y h1 h2 h3 =>
    retF h1 (h2.at_ hb4 (by simpa using hne.symm)) rfl fun w' hc => k2 _ w' h3 (fin h2 hc)
  rw [add_v, wrap_i64 (by omega) (by omega), lenS_v', ge_v]
  cases r with
  | nil =>
    simp at hrl
    rw [decide_eq_true (by omega), br_true]
    exact no w2 _ hx2 (Ch.refl _ _) rfl
  | cons d r =>
  obtain ⟨g1, g2, g3⟩ := drop_at e2
  simp only [List.length_cons] at hrl
  rw [decide_eq_false (by omega), br_false, add_v, wrap_i64 (by omega) (by omega), ixS_v (j := n + 1) (by omega) g1, fa_v fo99_1]
  refine stDo hx2 fun w3 hx3 hc3 => ?_
  rw [add_v, wrap_i64 (by omega) (by omega), fa_v fo99_6]
  refine stFin hx3 fun w4 hx4 hc4 => ?_
  have hc24 : Ch [t6] w2 w4 := hc3.trans hc4 (fun x hx => .inl hx)
  have hb44 := hc24.at_ hb4 (by simpa using hne.symm)
  have hc04 : Ch [] w w4 := Ch.fresh hc02 hc24 (by simp; omega)
  rw [fa_v fo99_1, rldDo hx4]
  refine in_ (t := [37, 99, 105, 108, 43, 45, 42, 47, 109, 38, 124, 94, 61, 62, 60, 65, 79, 33, 126, 63, 116, 101, 59]) (by decide) ?_
  have one : ∀ {a b : Nat}, a + 1 = b → a = b - 1 := fun h => by omega
  refine br_dec _ _ _ (fun hm => ?_) (fun hm => ?_)
  · have hm' := memS.1 hm
    by_cases h37 : d = 37
    · refine yes w4 _ { c := 37 } r hx4 hc24 (by simp only [percR]; rw [if_pos h37]) (by simp only; omega) (suf_of g2)
    · refine yes w4 _ { op := d } r hx4 hc24 (by simp only [percR]; rw [if_neg h37, if_pos (hm'.resolve_left h37)]) (by simp only; omega) (suf_of g2)
  have hm' : ¬ (d = 37 ∨ d.toNat ∈ simpleL) := fun h => hm (memS.2 h)
  have hP : percR (d :: r) = if d = 112 then parmR r else if d = 80 ∨ d = 103 then varR d r else if d = 39 then quoteR r else if d = 123 then numberR r else formatR (d :: r) := by
    simp only [percR]
    rw [if_neg (fun h => hm' (.inl h)), if_neg (fun h => hm' (.inr h))]
  rw [hP] at k1 k2 yes no
  clear hP
  rw [fa_v fo99_1, rldDo hx4, eqC_v]
  refine br_dec _ _ _ (fun h112 => ?_) (fun h112 => ?_)
  · rw [if_pos (show d = 112 from u8eq h112)] at k1 k2 yes no
    rw [add_v, wrap_i64 (by omega) (by omega), lenS_v', ge_v]
    cases r with
    | nil =>
      simp at hrl
      rw [decide_eq_true (by omega), br_true]
      exact no w4 _ hx4 hc24 rfl
    | cons x t =>
      obtain ⟨f1, f2, f3⟩ := drop_at g2
      have htl := drop_len f2
      simp only [List.length_cons] at hrl
      rw [decide_eq_false (by omega), br_false, add_v, wrap_i64 (by omega) (by omega), ixS_v (j := n + 1 + 1) (by omega) f1, ltC_v]
      refine br_dec _ _ _ (fun hlo => ?_) (fun hlo => ?_)
      · exact no w4 _ hx4 hc24 (by simp only [parmR]; rw [if_neg (by omega)])
      rw [add_v, wrap_i64 (by omega) (by omega), ixS_v (j := n + 1 + 1) (by omega) f1, gtC_v]
      refine br_dec _ _ _ (fun hhi => ?_) (fun hhi => ?_)
      · exact no w4 _ hx4 hc24 (by simp only [parmR]; rw [if_neg (by omega)])
      rw [add_v, wrap_i64 (by omega) (by omega), ixS_v (j := n + 1 + 1) (by omega) f1, show (Value.int IntKind.u8 48) = .int .u8 ((48 : Nat) : Int) from rfl, subC_v (by omega), v_eq (cv521 _ _ (by have := x.toNat_lt; omega)), fa_v fo99_2]
      refine stN hx4 fun w5 hx5 hc5 => ?_
      rw [add_v, wrap_i64 (by omega) (by omega), fa_v fo99_6]
      refine stFin hx5 fun w6 hx6 hc6 => ?_
      refine yes w6 _ _ t hx6 ((hc24.trans hc5 (fun x hx => .inl hx)).trans hc6 (fun x hx => .inl hx)) (by simp only [parmR]; rw [if_pos (by omega)]) (by simp only; omega) (suf_of f2)
  have n112 : d ≠ 112 := fun e => h112 (by rw [e]; rfl)
  rw [if_neg n112] at k1 k2 yes no
  have vr : (d = 80 ∨ d = 103) → rVar Tryd.prog (strV s) (I64 n) (PT t4) (PT t6) K w4 := by
    intro h
    rw [if_pos h] at k1 k2
    exact rVar_ (d := d) (by rw [← g2]) (by omega) hl hx4 hb44 rfl hne (fun y x r' w' h1 h2 h3 hc => k1 y x r' w' h1 h2 h3 (Ch.fresh hc04 hc (by simp; omega))) (fun y w' h1 hc => k2 y w' h1 (Ch.fresh hc04 hc (by simp; omega)))
  rw [fa_v fo99_1, rldDo hx4, eqC_v]
  refine br_dec _ _ _ (fun h80 => vr (.inl (u8eq (e := 80) h80))) (fun h80 => ?_)
  rw [fa_v fo99_1, rldDo hx4, eqC_v]
  refine br_dec _ _ _ (fun h103 => vr (.inr (u8eq (e := 103) h103))) (fun h103 => ?_)
  clear vr
  rw [if_neg (fun e => e.elim (fun e => h80 (by rw [e]; rfl)) (fun e => h103 (by rw [e]; rfl)))] at k1 k2 yes no
  rw [fa_v fo99_1, rldDo hx4, eqC_v]
  refine br_dec _ _ _ (fun h39 => ?_) (fun h39 => ?_)
  · rw [if_pos (show d = 39 from u8eq h39)] at k1 k2 yes no
    rw [add_v, wrap_i64 (by omega) (by omega), lenS_v', ge_v]
    match r, g2, hrl, k1, k2, yes, no with
    | [], g2, hrl, k1, k2, yes, no =>
      simp at hrl
      rw [decide_eq_true (by omega), br_true]
      exact no w4 _ hx4 hc24 rfl
    | [x], g2, hrl, k1, k2, yes, no =>
      simp at hrl
      rw [decide_eq_true (by omega), br_true]
      exact no w4 _ hx4 hc24 rfl
    | x :: y :: t, g2, hrl, k1, k2, yes, no =>
      obtain ⟨f1, f2, f3⟩ := drop_at g2
      obtain ⟨q1, q2, q3⟩ := drop_at f2
      have htl := drop_len q2
      simp only [List.length_cons] at hrl
      rw [decide_eq_false (by omega), br_false, add_v, wrap_i64 (by omega) (by omega), ixS_v (j := n + 1 + 1 + 1) (by omega) q1, neC_v]
      refine br_dec _ _ _ (fun hy => ?_) (fun hy => ?_)
      · exact no w4 _ hx4 hc24 (by simp only [quoteR]; rw [if_neg (fun e => hy (by rw [e]; rfl))])
      rw [fa_v fo99_1]
      refine stDo (c := 123) hx4 fun w5 hx5 hc5 => ?_
      rw [add_v, wrap_i64 (by omega) (by omega), ixS_v (j := n + 1 + 1) (by omega) f1, cvB21, fa_v fo99_2]
      refine stN hx5 fun w6 hx6 hc6 => ?_
      rw [add_v, wrap_i64 (by omega) (by omega), fa_v fo99_6]
      refine stFin hx6 fun w7 hx7 hc7 => ?_
      refine yes w7 _ _ t hx7 (((hc24.trans hc5 (fun x hx => .inl hx)).trans hc6 (fun x hx => .inl hx)).trans hc7 (fun x hx => .inl hx)) (by simp only [quoteR]; rw [if_pos (UInt8.toNat_inj.1 (by simp; omega))]) (by simp only; omega) (suf_of q2)
  rw [if_neg (fun e => h39 (by rw [e]; rfl))] at k1 k2 yes no
  rw [fa_v fo99_1, rldDo hx4, eqC_v]
  refine br_dec _ _ _ (fun h123 => ?_) (fun h123 => ?_)
  · rw [if_pos (show d = 123 from u8eq h123)] at k1 k2
    rw [rldX hx4]
    refine braces_ (r := r) g2 (by simp only; omega) hl (fun y x r' w' h1 h2 h3 hc => ?_) (fun y w' h1 hc => ?_)
    · rw [x20, x21]
      exact rret_ (hc.at_ hb44 (by simp)) rfl fun w'' hc'' => k1 _ _ _ w'' h1 h2 h3 (Ch.fresh (hc04.trans hc (by simp)) hc'' (by simp; omega))
    · rw [x20, x21]
      exact rret_ (hc.at_ hb44 (by simp)) rfl fun w'' hc'' => k2 _ w'' h1 (Ch.fresh (hc04.trans hc (by simp)) hc'' (by simp; omega))
  rw [if_neg (fun e => h123 (by rw [e]; rfl))] at k1 k2
  rw [rldX hx4]
  refine rformat_ (r := d :: r) e2 (by simp only; omega) hl rfl (fun y x r' w' h1 h2 h3 hc => ?_) (fun y w' h1 hc => ?_)
  · rw [x20, x21]
    exact rret_ (hc.at_ hb44 (by simp)) rfl fun w'' hc'' => k1 _ _ _ w'' h1 h2 h3 (Ch.fresh (hc04.trans hc (by simp)) hc'' (by simp; omega))
  · rw [x20, x21]
    exact rret_ (hc.at_ hb44 (by simp)) rfl fun w'' hc'' => k2 _ w'' h1 (Ch.fresh (hc04.trans hc (by simp)) hc'' (by simp; omega))
theorem rcheck_ {s : List UInt8} (k : ∀ w', Ch [] w w' → K (.tuple #[I64 (capE s).2.1, I64 (capE s).2.2]) w') : S.call Tryd.prog 24 [strV s] K w := by
  refine F24_link ?_
  unfold F24
  rw [lenS_v', gt_v]
  refine br_dec _ _ _ (fun hl => ?_) (fun hl => ?_)
  · have hE : capE s = ([], 0, 3) := by unfold capE; rw [if_pos (by omega)]
    rw [hE] at k
    exact k w (Ch.refl _ _)
  have hE : capE s = match (parseR s).2 with
    | none => ((parseR s).1, 0, 0)
    | some n => ([], n, 40) := by unfold capE; rw [if_neg (by omega)]; cases (parseR s).2 <;> rfl
  have hpA : (parseA 0 s).2 = (parseR s).2 := rfl
  intro I hC
  have key : ∀ (m : Nat) (r : List UInt8) (i : Nat) (x2 x3 x5 x6 x13 x17 x27 : Value) (w' : World), r.length ≤ m → s.drop i = r → i ≤ s.length → (parseA i r).2 = (parseR s).2 → Ch [] w w' → I [x2, x3, I64 i, x5, x6, x13, x17, x27] w' := by
    intro m
    induction m with
    | zero =>
      intro r i x2 x3 x5 x6 x13 x17 x27 w' hm hr hi he hch
      have : r = [] := List.eq_nil_of_length_eq_zero (by omega)
      subst this
      refine hC _ _ _ _ _ _ _ _ _ ?_
      have hlen := drop_len hr
      simp at hlen
      rw [lenS_v', lt_v, decide_eq_false (by omega), br_false]
      have he2 : (parseR s).2 = none := he.symm
      rw [hE, he2] at k
      exact k w' hch
    | succ m ih =>
      intro r i x2 x3 x5 x6 x13 x17 x27 w' hm hr hi he hch
      refine hC _ _ _ _ _ _ _ _ _ ?_
      have hlen := drop_len hr
      cases r with
      | nil =>
        simp at hlen
        rw [lenS_v', lt_v, decide_eq_false (by omega), br_false]
        have he2 : (parseR s).2 = none := he.symm
        rw [hE, he2] at k
        exact k w' hch
      | cons c t =>
        obtain ⟨g1, g2, g3⟩ := drop_at hr
        simp only [List.length_cons] at hlen hm
        rw [lenS_v', lt_v, decide_eq_true (by omega), br_true, ixS_v rfl g1, neC_v]
        refine br_dec _ _ _ (fun hc37 => ?_) (fun hc37 => ?_)
        · have ho : oneR (c :: t) = some ({ c := c }, t) := by simp only [oneR]; rw [if_neg (fun e => hc37 (by rw [e]; rfl))]
          rw [parseA_some ho] at he
          simp only [List.length_cons] at he
          rw [show t.length + 1 - t.length = 1 from by omega] at he
          rw [add_v, wrap_i64 (by omega) (by omega), show (i : Int) + 1 = ((i + 1 : Nat) : Int) from by omega]
          exact ih t (i + 1) _ _ _ _ _ _ _ w' (by omega) g2 (by omega) he hch
        · have hc : c = 37 := UInt8.toNat_inj.1 (by simp; omega)
          subst hc
          refine read_ hr (by omega) (fun y x r' w2 h1 h2 h3 hc2 => ?_) (fun y w2 h1 hc2 => ?_)
          · have ho : oneR (37 :: t) = some (x, r') := by simp only [oneR]; rw [if_pos trivial]; exact h1
            have hlt := oneR_len ho
            rw [parseA_some ho] at he
            simp only [List.length_cons] at he hlt
            rw [x20, x21]
            refine al z99 fun w3 hb3 hc3 hs3 => ?_
            refine stw ag99 hb3 rfl rfl (one_rc _) fun w4 hb4 hc4 hs4 => ?_
            have hx4 : RAt w4 w2.heap.size y := hb4
            rw [not_v, Bool.not_true, br_false, fa_v fo99_6, rldFin hx4, h2]
            refine ih r' (s.length - r'.length) _ _ _ _ _ _ _ w4 (by omega) h3 (by omega) ?_ ?_
            · rw [← he]
              congr 2
              omega
            · have := hch.size
              have := hc2.size
              exact Ch.fresh ((hch.trans hc2 (by simp)).trans hc3 (by simp)) hc4 (by simp; omega)
          · have ho : oneR (37 :: t) = none := by simp only [oneR]; rw [if_pos trivial]; exact h1
            rw [parseA_none (by simp) ho] at he
            have he2 : (parseR s).2 = some i := he.symm
            rw [hE, he2] at k
            rw [x20, x21]
            refine al z99 fun w3 hb3 hc3 hs3 => ?_
            refine stw ag99 hb3 rfl rfl (one_rc _) fun w4 hb4 hc4 hs4 => ?_
            rw [not_v, Bool.not_false, br_true]
            refine k w4 ?_
            have := hch.size
            have := hc2.size
            exact Ch.fresh ((hch.trans hc2 (by simp)).trans hc3 (by simp)) hc4 (by simp; omega)
  exact key s.length s 0 _ _ _ _ _ _ _ w (Nat.le_refl _) (by simp) (by omega) rfl (Ch.refl _ _)
end
end Go.Proofs.YtjaoeipfiodnfaaDoor
