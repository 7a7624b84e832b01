import Derived.Test.YtjaoeipfiodnfaaDoorB1
set_option linter.unusedVariables false
set_option maxRecDepth 4000
namespace Go.Proofs.YtjaoeipfiodnfaaDoor
open Go Go.Fw Go.Proofs
theorem run_min (w : World) (ats : Array TypeId) (ty : TypeId) (k : IntKind) (a b : Int) : (Builtin.min_ ats ty #[.int k a, .int k b]).run Tryd.prog w = .ok (.int k (min a b)) w := by
  have : (if b < a then b else a) = min a b := by omega
  show (Builtin.min2 _ _ >>= fun x => pure x : Sem Value).run Tryd.prog w = _
  simp [Builtin.min2, this]
theorem run_max (w : World) (ats : Array TypeId) (ty : TypeId) (k : IntKind) (a b : Int) : (Builtin.max_ ats ty #[.int k a, .int k b]).run Tryd.prog w = .ok (.int k (max a b)) w := by
  have : (if b > a then b else a) = max a b := by omega
  show (Builtin.max2 _ _ >>= fun x => pure x : Sem Value).run Tryd.prog w = _
  simp [Builtin.max2, this]
theorem cv53 (w : World) (n : Nat) (h : n < 256) : (Go.convert 5 3 (.int .u8 n)).run Tryd.prog w = .ok (.int .i64 n) w := by
  rw [run_convert_int w 5 3 .u8 n (by kernel_rfl) (by kernel_rfl), show Tryd.prog.intKind 3 = .i64 from by kernel_rfl]
  congr 2
  simp [IntKind.wrap, IntKind.signed, IntKind.bits]
  omega
theorem cv52 (w : World) (n : Nat) (h : n < 256) : (Go.convert 5 2 (.int .u8 n)).run Tryd.prog w = .ok (.int .i64 n) w := by
  rw [run_convert_int w 5 2 .u8 n (by kernel_rfl) (by kernel_rfl), show Tryd.prog.intKind 2 = .i64 from by kernel_rfl]
  congr 2
  simp [IntKind.wrap, IntKind.signed, IntKind.bits]
  omega
theorem cv521 (w : World) (n : Nat) (h : n < 256) : (Go.convert 5 21 (.int .u8 n)).run Tryd.prog w = .ok (.int .i32 n) w := by
  rw [run_convert_int w 5 21 .u8 n (by kernel_rfl) (by kernel_rfl), show Tryd.prog.intKind 21 = .i32 from by kernel_rfl]
  congr 2
  simp [IntKind.wrap, IntKind.signed, IntKind.bits]
  omega
theorem cv221 (w : World) (n : Int) (h1 : -2147483648 ≤ n) (h2 : n ≤ 2147483647) : (Go.convert 2 21 (.int .i64 n)).run Tryd.prog w = .ok (.int .i32 n) w := by
  rw [run_convert_int w 2 21 .i64 n (by kernel_rfl) (by kernel_rfl), show Tryd.prog.intKind 21 = .i32 from by kernel_rfl]
  congr 2
  simp [IntKind.wrap, IntKind.signed, IntKind.bits]
  omega
theorem subD {c : UInt8} {x y : Operand} {K : Value → World → Prop} {w : World} (h : digitB c = true) : S.v Tryd.prog (S.bin .sub 5 x y (byteV c) (.int .u8 48)) K w = K (.int .u8 ((c.toNat - 48 : Nat) : Int)) w := by
  unfold byteV
  rw [sub_v]
  unfold digitB at h
  simp at h
  have hw : IntKind.u8.wrap ((c.toNat : Int) - 48) = ((c.toNat - 48 : Nat) : Int) := by
    simp [IntKind.wrap, IntKind.signed, IntKind.bits]
    omega
  rw [hw]
theorem digitB_spec {c : UInt8} : digitB c = true ↔ 48 ≤ c.toNat ∧ c.toNat ≤ 57 := by unfold digitB; simp
/-- What stands behind a percent sign, or a byte. -/
structure Code where
  at' : Nat := 0
  op : UInt8 := 0
  c : UInt8 := 0
  n : Int := 0
  flags : List UInt8 := []
  width : Nat := 0
  prec : Int := 0
def codeC (x : Code) : List Value := [I64 x.at', byteV x.op, byteV x.c, I32 x.n, strV x.flags, I64 x.width, I64 x.prec]
def codeV (x : Code) : Value := .agg #[I64 x.at', byteV x.op, byteV x.c, I32 x.n, strV x.flags, I64 x.width, I64 x.prec]
theorem ag76 : aggSz Tryd.prog 76 = some 7 := by kernel_rfl
theorem z76 : zeroT Tryd.prog 76 = some (codeV {}) := by kernel_rfl
theorem one_code (x : Code) : ∀ u ∈ (#[I64 x.at', byteV x.op, byteV x.c, I32 x.n, strV x.flags, I64 x.width, I64 x.prec] : Array Value).toList, u.oneCell' = true := by
  intro u hu
  simp at hu
  rcases hu with rfl | rfl | rfl | rfl | rfl | rfl | rfl <;> rfl
theorem bd0 (w : World) : (Instr.build 76 #[]).run Tryd.prog w = .ok (codeV {}) w := by kernel_rfl
theorem bdc (w : World) (c : UInt8) : (Instr.build 76 #[(2, byteV c)]).run Tryd.prog w = .ok (codeV { c := c }) w := by kernel_rfl
theorem bdo (w : World) (c : UInt8) : (Instr.build 76 #[(1, byteV c)]).run Tryd.prog w = .ok (codeV { op := c }) w := by kernel_rfl
theorem bdoc (w : World) (d c : UInt8) : (Instr.build 76 #[(1, byteV d), (2, byteV c)]).run Tryd.prog w = .ok (codeV { op := d, c := c }) w := by kernel_rfl
theorem bdon (w : World) (n : Int) : (Instr.build 76 #[(1, .int .u8 123), (3, I32 n)]).run Tryd.prog w = .ok (codeV { op := 123, n := n }) w := by kernel_rfl
theorem bdp (w : World) : (Instr.build 76 #[(6, .int .i64 (-1))]).run Tryd.prog w = .ok (codeV { prec := -1 }) w := by kernel_rfl
section
variable {w : World} {K : Value → World → Prop}
/-- The result that is stored, and read. -/
theorem ret_ {b : Nat} {cs : Array Value} {x : Code} (hb : w.heap[b]? = some (.cells cs 76 (0, 0))) (hc : cs.size = 7) (k : ∀ w', Ch [b] w w' → K (codeV x) w') : S.u Tryd.prog (Instr.storeAt 76 (PT b) (codeV x)) (fun w => S.p Tryd.prog (S.ldR 76 (PT b)) (fun r w => K r w) w) w := by
  refine stw ag76 hb hc rfl (one_code x) fun w1 hb1 hc1 hs1 => ?_
  rw [ldR_p ag76 hb1 rfl]
  exact k w1 hc1
theorem count_ {b : Nat} {s r : List UInt8} (h : PS w b s r) (hl : s.length ≤ 4096) (k : ∀ w', PS w' b s (countR r 0).2 → Ch [b] w w' → K (.tuple #[I64 (countR r 0).1, .bool (decide ((countR r 0).1 ≤ 1000))]) w') : S.call Tryd.prog 94 [PT b] K w := by
  refine F94_link ?_
  unfold F94
  intro I hC
  have key : ∀ (r' : List UInt8) (n : Nat) (m : Int) (x8 : Value) (w' : World), n ≤ 1001 → PS w' b s r' → Ch [b] w w' → countR r' n = countR r 0 → I [I64 n, I64 m, x8] w' := by
    intro r'
    induction r' with
    | nil =>
      intro n m x8 w' hn hp hc he
      refine hC _ _ _ _ ?_
      refine peek_ hp hl fun w1 hc1 => ?_
      refine digit_ ?_
      have hd : digitB (peekR []) = false := rfl
      rw [hd, br_false, le_v]
      have := k w1 (by rw [← he]; exact hp.ch hc1 (by simp)) (hc.trans hc1 (by simp))
      rw [← he] at this
      rw [show decide ((n : Int) ≤ 1000) = decide (n ≤ 1000) from decide_eq_decide.2 (by omega)]
      exact this
    | cons c r' ih =>
      intro n m x8 w' hn hp hc he
      refine hC _ _ _ _ ?_
      refine peek_ hp hl fun w1 hc1 => ?_
      refine digit_ ?_
      show br (.bool (digitB c)) _ _
      refine br_bool _ _ _ (fun hd => ?_) (fun hd => ?_)
      · have hd' := digitB_spec.1 hd
        have hp1 := hp.ch hc1 (by simp)
        rw [mul_v, wrap_i64 (by omega) (by omega)]
        refine peek_ hp1 hl fun w2 hc2 => ?_
        have hp2 := hp1.ch hc2 (by simp)
        rw [show peekR (c :: r') = c from rfl, subD hd, v_eq (cv53 _ _ (by omega)), add_v, wrap_i64 (by omega) (by omega), v_eq (run_min ..)]
        refine step_ hp2 hl fun w3 hp3 hc3 => ?_
        rw [add_v]
        have := ih (min (10 * n + (c.toNat - 48)) 1001) (IntKind.i64.wrap (m + 1)) (.bool true) w3 (Nat.min_le_right _ _) hp3 (((hc.trans hc1 (by simp)).trans hc2 (by simp)).trans hc3 (by simp)) (by rw [← he]; simp [countR, hd])
        have e : ((min (10 * n + (c.toNat - 48)) 1001 : Nat) : Int) = min (10 * (n : Int) + ((c.toNat - 48 : Nat) : Int)) 1001 := by omega
        rw [e] at this
        rw [hd]
        exact this
      · rw [le_v]
        have he' : countR r 0 = (n, c :: r') := by rw [← he]; simp [countR, hd]
        have := k w1 (by rw [he']; exact hp.ch hc1 (by simp)) (hc.trans hc1 (by simp))
        rw [he'] at this
        rw [show decide ((n : Int) ≤ 1000) = decide (n ≤ 1000) from decide_eq_decide.2 (by omega)]
        exact this
  exact key r 0 0 undef w (by omega) h (Ch.refl _ _) rfl
/-- The digits of an int in braces. -/
def numR : List UInt8 → Nat → Nat → Option (Nat × Nat × List UInt8)
  | [], n, m => some (n, m, [])
  | c :: r, n, m => if digitB c = true then (if 9 < m + 1 then none else numR r (10 * n + (c.toNat - 48)) (m + 1)) else some (n, m, c :: r)
def signR (r : List UInt8) : Int × List UInt8 := if peekR r = 45 then (-1, r.tail) else (1, r)
def closeR (sg : Int) : Option (Nat × Nat × List UInt8) → Option (Code × List UInt8)
  | some (n, m, c :: r) => if c = 125 ∧ 0 < m then some ({ op := 123, n := sg * n }, r) else none
  | _ => none
def numberR (r : List UInt8) : Option (Code × List UInt8) := closeR (signR r).1 (numR (signR r).2 0 0)
theorem eqb_c {c : UInt8} {n : Nat} (hn : n < 256) : decide ((c.toNat : Int) = n) = decide (c = UInt8.ofNat n) := by
  apply decide_eq_decide.2
  constructor
  · intro h
    apply UInt8.toNat_inj.1
    simp
    omega
  · intro h
    subst h
    simp
    omega
theorem number_ {b : Nat} {s r : List UInt8} (h : PS w b s r) (hl : s.length ≤ 4096)
    (k1 : ∀ x r' w', numberR r = some (x, r') → PS w' b s r' → Ch [b] w w' → K (.tuple #[codeV x, .bool true]) w')
    (k2 : ∀ x w', numberR r = none → Ch [b] w w' → K (.tuple #[codeV x, .bool false]) w') : S.call Tryd.prog 76 [PT b] K w := by
  refine F76_link ?_
  unfold F76
  have hblt := h.lt
  refine al z76 fun w1 hb1 hc1 hs1 => ?_
  have hp1 := h.ch hc1 (by simp)
  generalize hb2 : w.heap.size = b2 at *
  refine seq_ok fun J hJ => ?_
  have main : ∀ (sg : Int) (r1 : List UInt8) (y : Value) (w2 : World), (sg = 1 ∨ sg = -1) → signR r = (sg, r1) → PS w2 b s r1 → Ch [b] w1 w2 → J [.int .i64 sg, y] w2 := by
    intro sg r1 y w2 hsg hsr hp2 hc2
    refine hJ _ _ ?_
    rw [nth_zero]
    intro I hC
    have hb2' := hc2.at_ hb1 (by simp; omega)
    have hc02 : Ch [b] w w2 := hc1.nil.trans hc2 (by simp)
    have key : ∀ (r' : List UInt8) (n m : Nat) (x3 x21 x39 : Value) (w' : World), m ≤ 9 → n < 10 ^ m → PS w' b s r' → Ch [b] w2 w' → numR r' n m = numR r1 0 0 → I [x3, I64 n, I64 m, x21, x39] w' := by
      intro r'
      have fin : ∀ (r' : List UInt8) (n m : Nat) (w' w0 : World), (∀ c t, r' = c :: t → digitB c = false) → m ≤ 9 → n < 10 ^ m → PS w' b s r' → Ch [b] w2 w' → numR r' n m = numR r1 0 0 →
          S.call Tryd.prog 75 [PT b] (fun t43 w => S.v Tryd.prog (Instr.extract t43 0) (fun t44 w => S.v Tryd.prog (Instr.extract t43 1) (fun t45 w => S.v Tryd.prog (S.bin .mul 2 (.tmp 46) (.tmp 47) (.int .i64 sg) (I64 n)) (fun t48 w => S.v Tryd.prog (Go.convert 2 21 t48) (fun t49 w => S.v Tryd.prog (Instr.build 76 #[(1, .int .u8 123), (3, t49)]) (fun t50 w => br t45 (S.v Tryd.prog (S.bin .eql 5 (.tmp 53) (.const (.int .u8 125)) t44 (.int .u8 125)) (fun t54 w => br t54 (S.v Tryd.prog (S.bin .gtr 3 (.tmp 57) (.const (.int .i64 0)) (I64 m) (.int .i64 0)) (fun t58 w => S.u Tryd.prog (Instr.storeAt 76 (PT b2) t50) (fun w => S.p Tryd.prog (S.ldR 76 (PT b2)) (fun r2_1 w => K (.tuple #[r2_1, t58]) w) w) w) w) (S.u Tryd.prog (Instr.storeAt 76 (PT b2) t50) (fun w => S.p Tryd.prog (S.ldR 76 (PT b2)) (fun r2_2 w => K (.tuple #[r2_2, .bool false]) w) w) w)) w) (S.u Tryd.prog (Instr.storeAt 76 (PT b2) t50) (fun w => S.p Tryd.prog (S.ldR 76 (PT b2)) (fun r2_3 w => K (.tuple #[r2_3, .bool false]) w) w) w)) w) w) w) w) w) w' := by
        intro r' n m w' w0 hnd hm hn hp hc he
        have hlt : n < 1000000000 := Nat.lt_of_lt_of_le hn (Nat.le_trans (Nat.pow_le_pow_right (by omega) hm) (by decide))
        have hsgn : -1000000000 < sg * n ∧ sg * n < 1000000000 := by rcases hsg with rfl | rfl <;> omega
        have hR : numberR r = closeR sg (some (n, m, r')) := by
          unfold numberR
          rw [hsr, ← he]
          cases r' with
          | nil => rfl
          | cons c t =>
            have := hnd c t rfl
            simp [numR, this]
        have hcc : Ch [b] w w' := hc02.trans hc (by simp)
        have hbx := hc.at_ hb2' (by simp; omega)
        cases r' with
        | nil =>
          refine next_nil hp hl fun w3 hc3 => ?_
          rw [x20, x21, mul_v, wrap_i64 (by omega) (by omega), v_eq (cv221 _ _ (by omega) (by omega)), v_eq (bdon ..), br_false]
          exact ret_ (hc3.at_ hbx (by simp)) rfl fun w4 hc4 => k2 _ w4 (by rw [hR]; rfl) ((hcc.trans hc3 (by simp)).trans hc4 (by simp; omega))
        | cons c t =>
          refine next_cons hp hl fun w3 hp3 hc3 => ?_
          have hcc3 : Ch [b] w w3 := hcc.trans hc3 (by simp)
          rw [x20, x21, mul_v, wrap_i64 (by omega) (by omega), v_eq (cv221 _ _ (by omega) (by omega)), v_eq (bdon ..), br_true]
          unfold byteV
          rw [eq_v]
          have hbx3 := hc3.at_ hbx (by simp; omega)
          refine br_dec _ _ _ (fun h125 => ?_) (fun h125 => ?_)
          · have hc125 : c = 125 := UInt8.toNat_inj.1 (by simp; omega)
            rw [gt_v]
            refine ret_ hbx3 rfl fun w4 hc4 => ?_
            have hcc4 : Ch [b] w w4 := hcc3.trans hc4 (by simp; omega)
            by_cases h0 : 0 < m
            · rw [decide_eq_true (by omega)]
              exact k1 _ t w4 (by rw [hR]; simp [closeR, hc125, h0]) (hp3.ch hc4 (by simp; omega)) hcc4
            · rw [decide_eq_false (by omega)]
              exact k2 _ w4 (by rw [hR]; simp [closeR, h0]) hcc4
          · have hc125 : c ≠ 125 := fun e => h125 (by subst e; rfl)
            exact ret_ hbx3 rfl fun w4 hc4 => k2 _ w4 (by rw [hR]; simp [closeR, hc125]) (hcc3.trans hc4 (by simp; omega))
      induction r' with
      | nil =>
        intro n m x3 x21 x39 w' hm hn hp hc he
        refine hC _ _ _ _ _ _ ?_
        refine peek_ hp hl fun w3 hc3 => ?_
        refine digit_ ?_
        have hd : digitB (peekR []) = false := rfl
        rw [hd, br_false]
        exact fin [] n m w3 w3 (fun _ _ e => by cases e) hm hn (hp.ch hc3 (by simp)) (hc.trans hc3 (by simp)) he
      | cons c t ih =>
        intro n m x3 x21 x39 w' hm hn hp hc he
        refine hC _ _ _ _ _ _ ?_
        refine peek_ hp hl fun w3 hc3 => ?_
        refine digit_ ?_
        show br (.bool (digitB c)) _ _
        have hp3 := hp.ch hc3 (by simp)
        have hc23 : Ch [b] w2 w3 := hc.trans hc3 (by simp)
        have hlt : n < 1000000000 := Nat.lt_of_lt_of_le hn (Nat.le_trans (Nat.pow_le_pow_right (by omega) hm) (by decide))
        refine br_bool _ _ _ (fun hd => ?_) (fun hd => ?_)
        · have hd' := digitB_spec.1 hd
          rw [mul_v, wrap_i64 (by omega) (by omega)]
          refine peek_ hp3 hl fun w4 hc4 => ?_
          have hp4 := hp3.ch hc4 (by simp)
          rw [show peekR (c :: t) = c from rfl, subD hd, v_eq (cv52 _ _ (by omega)), add_v, wrap_i64 (by omega) (by omega)]
          refine step_ hp4 hl fun w5 hp5 hc5 => ?_
          have hc25 : Ch [b] w2 w5 := (hc23.trans hc4 (by simp)).trans hc5 (by simp)
          rw [add_v, wrap_i64 (by omega) (by omega), gt_v]
          refine br_dec _ _ _ (fun h9 => ?_) (fun h9 => ?_)
          · rw [v_eq (bd0 _)]
            have hbx5 := hc25.at_ hb2' (by simp; omega)
            refine ret_ hbx5 rfl fun w6 hc6 => k2 _ w6 ?_ ((hc02.trans hc25 (by simp)).trans hc6 (by simp; omega))
            unfold numberR
            rw [hsr, ← he]
            unfold numR
            rw [if_pos hd, if_pos (by omega)]
            rfl
          · have hpow : 10 * n + (c.toNat - 48) < 10 ^ (m + 1) := by rw [Nat.pow_succ]; omega
            have := ih (10 * n + (c.toNat - 48)) (m + 1) x3 (.bool true) (.bool (decide ((9 : Int) < (m : Int) + 1))) w5 (by omega) hpow hp5 hc25 (by rw [← he, numR.eq_def (c :: t)]; dsimp only; rw [if_pos hd, if_neg (by omega)])
            have e1 : ((10 * n + (c.toNat - 48) : Nat) : Int) = 10 * (n : Int) + ((c.toNat - 48 : Nat) : Int) := by omega
            have e2 : ((m + 1 : Nat) : Int) = (m : Int) + 1 := by omega
            rw [e1, e2] at this
            rw [hd]
            exact this
        · exact fin (c :: t) n m w3 w3 (fun c' t' e => by injection e with e _; exact e ▸ hd) hm hn hp3 hc23 he
    exact key r1 0 0 _ _ _ w2 (by omega) (by simp) hp2 (Ch.refl _ _) rfl
  clear hJ
  refine peek_ hp1 hl fun w2 hc2 => ?_
  have hp2 := hp1.ch hc2 (by simp)
  have hpk : (byteV (peekR r)) = .int .u8 (peekR r).toNat := rfl
  rw [hpk, eq_v]
  refine br_dec _ _ _ (fun h45 => ?_) (fun h45 => ?_)
  · have e45 : peekR r = 45 := UInt8.toNat_inj.1 (by simp; omega)
    cases r with
    | nil => exact absurd e45 (by decide)
    | cons c t =>
      refine step_ hp2 hl fun w3 hp3 hc3 => ?_
      exact main (-1) t _ w3 (.inr rfl) (by simp [signR, e45]) hp3 (hc2.nil.trans hc3 (by simp))
  · have e45 : peekR r ≠ 45 := fun e => h45 (by rw [e]; rfl)
    exact main 1 r _ w2 (.inl rfl) (by simp [signR, e45]) hp2 hc2.nil
end
end Go.Proofs.YtjaoeipfiodnfaaDoor
