import Derived.Test.YthpbiliajcameaaDoorP2
import Derived.Test.YthpbiliajcameaaDoorPL
set_option linter.unusedVariables false
set_option maxRecDepth 4000
namespace Go.Proofs.YthpbiliajcameaaDoor
open Go Go.Fw Go.Proofs Go.RowKit
theorem h_p {P : Program} {s : Sem Value} {K : Value → World → Prop} {w : World} : S.h P (fun w' => w' = w) s K w = S.p P s K w := by
  apply propext
  constructor
  · rintro ⟨x, h, k⟩
    exact ⟨x, h w rfl, k⟩
  · rintro ⟨x, h, k⟩
    exact ⟨x, fun w' hw => by subst hw; exact h, k⟩
section
variable {w : World} {K : Value → World → Prop}
theorem need_is {K : Value → World → Prop} {w : World} {c : Nat} {m : Int} (h : ((needN c : Nat) : Int) = m) (k : K (I64 (needN c)) w) : K (.int .i64 m) w := h ▸ k
theorem need_ {c : UInt8} (k : K (I64 (needN c.toNat)) w) : S.call Tryd.prog 47 [byteV c] K w := by
  refine F47_link ?_
  unfold F47 byteV
  simp only [lt_v, ge_v, le_v]
  repeat' (refine br_dec _ _ _ (fun _ => ?_) (fun _ => ?_))
  all_goals exact need_is (by unfold needN; (repeat' split) <;> omega) k
theorem sec_is {K : Value → World → Prop} {w : World} {a b : Bool} (h : a = b) (k : K (.bool a) w) : K (.bool b) w := h ▸ k
theorem second_ {c y : UInt8} (k : K (.bool (secB c.toNat y.toNat)) w) : S.call Tryd.prog 48 [byteV c, byteV y] K w := by
  refine F48_link ?_
  unfold F48 byteV
  refine seq_ok fun J hJ => ?_
  simp only [eq_v]
  have fin : ∀ (lo hi : Int) (r : List Value) , (loN c.toNat : Int) = lo → (hiN c.toNat : Int) = hi → J (.int .u8 lo :: .int .u8 hi :: r) w := by
    intro lo hi r h1 h2
    refine hJ _ _ ?_
    rw [nth_succ, nth_zero, nth_zero, ge_v]
    unfold secB at k
    refine br_dec _ _ _ (fun h => ?_) (fun h => ?_)
    · rw [le_v]
      exact sec_is (by rw [decide_eq_true (show loN c.toNat ≤ y.toNat by omega), Bool.true_and]; exact decide_eq_decide.2 (by omega)) k
    · exact sec_is (by rw [decide_eq_false (show ¬ loN c.toNat ≤ y.toNat by omega), Bool.false_and]) k
  have hlo := lo_of c.toNat
  have hhi := hi_of c.toNat
  repeat' (refine br_dec _ _ _ (fun _ => ?_) (fun _ => ?_))
  all_goals exact fin _ _ _ (by omega) (by omega)
def bt (x : List UInt8) (j : Nat) : UInt8 := x.getD j 0
theorem bt_nat (x : List UInt8) (j : Nat) : (bt x j).toNat = atN x j := rfl
theorem bt_get {x : List UInt8} {j : Nat} (h : j < x.length) : (bytesV x)[j]? = some (byteV (bt x j)) := by
  unfold bt
  simp [bytesV, h]
/-- The place of a byte, and what stands there. -/
theorem at_byte {B n c j : Nat} {A : Option Addr} {x : List UInt8} (h : RB w B (.slice A n c) x) (hj : j < x.length) :
    ∃ p, (∀ (i : Int), i = j → (Instr.indexAt 22 (.slice A n c) (.int .i64 i)).run Tryd.prog w = .ok p w) ∧ (Instr.loadAt 5 p).run Tryd.prog w = .ok (byteV (bt x j)) w := by
  have hn : n = x.length := h.bin.1
  subst hn
  have h' : Rd w B 1 (.slice A x.length c) x.length (bytesV x) := h
  obtain ⟨g, off, hA, hcell⟩ := Rd.at_ h' (bt_get hj)
  subst hA
  refine ⟨.pointer (some ⟨g, off + j, none⟩), fun i hi => ?_, run_ld sc5 hcell⟩
  subst hi
  have := run_ia (P := Tryd.prog) (w := w) el22 (g := g) (off := off) (n := x.length) (c := c) .i64 (j : Int) (by omega) (by omega)
  rw [Int.toNat_natCast, Nat.mul_one] at this
  exact this
theorem head_ {B n c : Nat} {A : Option Addr} {x : List UInt8} (hx : RB w B (.slice A n c) x) (hne : x ≠ [])
    (k : ∀ w' (h n : Nat), Ch [] w w' → (good x → n = needN (atN x 0) ∧ h = n) → (¬ good x → ¬ (h = n ∧ 0 < n)) → K (.tuple #[I64 h, I64 n]) w') : S.call Tryd.prog 41 [.slice A n c] K w := by
  refine F41_link ?_
  unfold F41
  have hn : n = x.length := hx.bin.1
  subst hn
  have hl : 0 < x.length := List.length_pos_iff.2 hne
  have hlen : x.length ≤ maxLen := by have := hx.bin; omega
  simp only [maxLen] at hlen
  obtain ⟨p0, hp0, hq0⟩ := at_byte hx hl
  rw [len_v el22, eq_v, decide_eq_false (by omega), br_false, v_eq (hp0 0 rfl), v_eq hq0]
  refine need_ ?_
  rw [bt_nat, eq_v]
  refine br_dec _ _ _ (fun h0 => ?_) (fun h0 => ?_)
  · refine k w 0 0 (Ch.refl _ _) (fun g => ?_) (fun _ => by omega)
    have := g.1
    omega
  · have hnp : 0 < needN (atN x 0) := by omega
    have hn4 : needN (atN x 0) ≤ 4 := by rcases need_cases (atN x 0) with h | h | h | h | h <;> omega
    intro I hC
    have key : ∀ (d j : Nat) (x2 x3 x23 x49 : Value) (w' : World), j + d = needN (atN x 0) → 1 ≤ j → j ≤ x.length → Ch [] w w' → (∀ i, 1 ≤ i → i < j → goodAt x i) → I [x2, x3, I64 j, x23, x49] w' := by
      intro d
      induction d with
      | zero =>
        intro j x2 x3 x23 x49 w' hj h1 hjl hc hg
        refine hC _ _ _ _ _ _ ?_
        rw [lt_v, decide_eq_false (by omega), br_false]
        refine k w' j _ hc (fun _ => ⟨rfl, by omega⟩) (fun hb => absurd ⟨hnp, by omega, fun i hi1 hi2 => hg i hi1 (by omega)⟩ hb)
      | succ d ih =>
        intro j x2 x3 x23 x49 w' hj h1 hjl hc hg
        refine hC _ _ _ _ _ _ ?_
        rw [lt_v, decide_eq_true (by omega), br_true, len_v el22, lt_v]
        refine br_dec _ _ _ (fun hjx => ?_) (fun hjx => ?_)
        · refine seq_ok fun J hJ => ?_
          have hbad : ∀ w', Ch [] w w' → ¬ goodAt x j → J [.bool true] w' := fun w' hc hng => by
            refine hJ _ _ ?_
            rw [nth_zero, br_true]
            refine k w' 0 _ hc (fun g => absurd (g.2.2 j h1 (by omega)) hng) (fun _ => by omega)
          have hgood : ∀ w', Ch [] w w' → goodAt x j → J [.bool false] w' := fun w' hc hgj => by
            refine hJ _ _ ?_
            rw [nth_zero, br_false, add_v, wrap_i64 (by omega) (by omega)]
            have := ih (j + 1) x2 x3 (.bool (decide ((j : Int) < x.length))) (.bool false) w' (by omega) (by omega) (by omega) hc (fun i hi1 hi2 => by
              by_cases e : i = j
              · exact e ▸ hgj
              · exact hg i hi1 (by omega))
            rw [show ((j + 1 : Nat) : Int) = (j : Int) + 1 from by omega] at this
            exact this
          clear hJ
          refine drawn_ok fun w1 hc1 hs1 => ?_
          have hc01 : Ch [] w w1 := hc.trans hc1 (by simp)
          have hx1 : RB w1 B (.slice A x.length c) x := RB.ch hx hc01
          obtain ⟨p0, hp0, hq0⟩ := at_byte hx1 hl
          obtain ⟨pj, hpj, hqj⟩ := at_byte hx1 (show j < x.length by omega)
          have tail : ∀ (h : j = 1 → secB (atN x 0) (atN x 1) = true), S.v Tryd.prog (S.bin .lss 5 (.tmp 40) (.const (.int .u8 128)) (byteV (bt x j)) (.int .u8 128)) (fun t41 w => br t41 (J [.bool true] w)
              (S.v Tryd.prog (Instr.indexAt 22 (.slice A x.length c) (I64 j)) (fun t46 w => S.v Tryd.prog (Instr.loadAt 5 t46) (fun t47 w => S.v Tryd.prog (S.bin .gtr 5 (.tmp 47) (.const (.int .u8 191)) t47 (.int .u8 191)) (fun t48 w => J [t48] w) w) w) w)) w1 := by
            intro h
            unfold byteV
            rw [lt_v]
            refine br_dec _ _ _ (fun h2 => hbad w1 hc01 (fun g => ?_)) (fun h2 => ?_)
            · have := g.1
              rw [← bt_nat] at this
              omega
            · rw [v_eq (hpj _ rfl), v_eq hqj]
              unfold byteV
              rw [gt_v]
              by_cases h3 : 191 < (bt x j).toNat
              · rw [decide_eq_true (by omega)]
                refine hbad w1 hc01 (fun g => ?_)
                have := g.2.1
                rw [← bt_nat] at this
                omega
              · rw [decide_eq_false (by omega)]
                exact hgood w1 hc01 ⟨by rw [← bt_nat]; omega, by rw [← bt_nat]; omega, h⟩
          rw [eq_v]
          refine br_dec _ _ _ (fun hj1 => ?_) (fun hj1 => ?_)
          · obtain rfl : j = 1 := by omega
            have mid : ∀ (s : Bool), s = secB (atN x 0) (atN x 1) → S.v Tryd.prog (Op.unary .not (.bool s)) (fun t34 w => br t34 (J [.bool true] w) (S.v Tryd.prog (Instr.indexAt 22 (.slice A x.length c) (I64 1)) (fun t39 w => S.v Tryd.prog (Instr.loadAt 5 t39) (fun t40 w => S.v Tryd.prog (S.bin .lss 5 (.tmp 40) (.const (.int .u8 128)) t40 (.int .u8 128)) (fun t41 w => br t41 (J [.bool true] w)
              (S.v Tryd.prog (Instr.indexAt 22 (.slice A x.length c) (I64 1)) (fun t46 w => S.v Tryd.prog (Instr.loadAt 5 t46) (fun t47 w => S.v Tryd.prog (S.bin .gtr 5 (.tmp 47) (.const (.int .u8 191)) t47 (.int .u8 191)) (fun t48 w => J [t48] w) w) w) w)) w) w) w)) w1 := by
              intro s hs
              rw [not_v]
              cases s with
              | false =>
                rw [show (!false) = true from rfl, br_true]
                refine hbad w1 hc01 (fun g => ?_)
                have := g.2.2 rfl
                rw [← hs] at this
                cases this
              | true =>
                rw [show (!true) = false from rfl, br_false, v_eq (hpj 1 rfl), v_eq hqj]
                exact tail (fun _ => hs.symm)
            have e0 : ∀ {K : Value → World → Prop}, S.v Tryd.prog (Instr.indexAt 22 (.slice A x.length c) (.int .i64 0)) K w1 = K p0 w1 := v_eq (hp0 0 rfl)
            have e1 : ∀ {K : Value → World → Prop}, S.v Tryd.prog (Instr.indexAt 22 (.slice A x.length c) (.int .i64 1)) K w1 = K pj w1 := v_eq (hpj 1 rfl)
            have e2 : ∀ {K : Value → World → Prop}, S.v Tryd.prog (Instr.loadAt 5 p0) K w1 = K (byteV (bt x 0)) w1 := v_eq hq0
            have e3 : ∀ {K : Value → World → Prop}, S.v Tryd.prog (Instr.loadAt 5 pj) K w1 = K (byteV (bt x 1)) w1 := v_eq hqj
            repeat' (first | refine And.intro ?_ ?_ | refine second_ ?_ | exact mid _ rfl | rw [e0] | rw [e1] | rw [e2] | rw [e3])
          · rw [v_eq (hpj _ rfl), v_eq hqj]
            have t := tail (fun e => by omega)
            repeat' (first | exact t | refine And.intro ?_ ?_)
        · refine k w' j _ hc (fun g => ?_) (fun _ => by omega)
          have := g.2.1
          omega
    exact key (needN (atN x 0) - 1) 1 (I64 0) (I64 0) undef undef w (by omega) (by omega) (by omega) (Ch.refl _ _) (fun i h1 h2 => by omega)
theorem and_run (t : TypeId) (x y : Operand) (a m : Nat) (ha : a < 256) (hm : m < 256) : (S.bin .and t x y (.int .u8 a) (.int .u8 m)).run Tryd.prog w = .ok (.int .u8 ((a &&& m : Nat) : Int)) w := by
  rw [← u8_and_nat a m ha hm]
  simp [S.bin, eqGuard, go_sem]
theorem shl_run (x y : Operand) (a k m : Nat) (hm : m = a * 2 ^ k) (h : m < 2147483648) (hk : k ≤ 32) : (S.bin .shl 21 x y (.int .i32 a) (.int .u64 k)).run Tryd.prog w = .ok (.int .i32 m) w := by
  subst hm
  have : IntKind.i32.wrap ((a : Int) * 2 ^ (k : Int).toNat) = ((a * 2 ^ k : Nat) : Int) := by
    rw [Int.toNat_natCast]
    have e : (a : Int) * 2 ^ k = ((a * 2 ^ k : Nat) : Int) := by simp
    rw [e]
    simp only [IntKind.wrap, IntKind.signed, IntKind.bits]
    simp
    omega
  rw [← this]
  simp [S.bin, eqGuard, go_sem]
theorem or_run (x y : Operand) (a b i : Nat) (ha : a % 2 ^ i = 0) (hb : b < 2 ^ i) (h : a + b < 2147483648) : (S.bin .or 21 x y (.int .i32 a) (.int .i32 b)).run Tryd.prog w = .ok (.int .i32 ((a + b : Nat) : Int)) w := by
  have e : bits .or .i32 (a : Int) (b : Int) = ((a + b : Nat) : Int) := by
    show IntKind.i32.wrap ((BitVec.ofInt 32 (a : Int) ||| BitVec.ofInt 32 (b : Int) : BitVec 32).toNat : Int) = _
    rw [BitVec.toNat_or, ofInt_u32 a (by omega), ofInt_u32 b (by omega), nat_join i a b ha hb]
    simp only [IntKind.wrap, IntKind.signed, IntKind.bits]
    simp
    omega
  rw [← e]
  simp [S.bin, eqGuard, go_sem]
theorem cv5m (a m : Nat) (h : 0 < m) (hm : m ≤ 256) : (Go.convert 5 21 (.int .u8 ((a % m : Nat) : Int))).run Tryd.prog w = .ok (.int .i32 ((a % m : Nat) : Int)) w := cv5 (a % m) (by have := Nat.mod_lt a h; omega)
theorem and_p (t : TypeId) (x y : Operand) (a : UInt8) (m k : Nat) (hk : a.toNat &&& m = a.toNat % k) (hm : m < 256) : S.p Tryd.prog (S.bin .and t x y (byteV a) (.int .u8 m)) K w = K (.int .u8 ((a.toNat % k : Nat) : Int)) w := by
  have := and_run (w := w) t x y a.toNat m a.toNat_lt hm
  rw [hk] at this
  exact p_eq this
theorem and31 {t : TypeId} {x y : Operand} (a : UInt8) : S.p Tryd.prog (S.bin .and t x y (byteV a) (.int .u8 31)) K w = K (.int .u8 ((a.toNat % 32 : Nat) : Int)) w := and_p t x y a 31 32 (nat_mask5 _) (by decide)
theorem and15 {t : TypeId} {x y : Operand} (a : UInt8) : S.p Tryd.prog (S.bin .and t x y (byteV a) (.int .u8 15)) K w = K (.int .u8 ((a.toNat % 16 : Nat) : Int)) w := and_p t x y a 15 16 (nat_mask4 _) (by decide)
theorem and7 {t : TypeId} {x y : Operand} (a : UInt8) : S.p Tryd.prog (S.bin .and t x y (byteV a) (.int .u8 7)) K w = K (.int .u8 ((a.toNat % 8 : Nat) : Int)) w := and_p t x y a 7 8 (nat_mask3 _) (by decide)
theorem and63 {t : TypeId} {x y : Operand} (a : UInt8) : S.p Tryd.prog (S.bin .and t x y (byteV a) (.int .u8 63)) K w = K (.int .u8 ((a.toNat % 64 : Nat) : Int)) w := and_p t x y a 63 64 (nat_mask6 _) (by decide)
theorem cvm32 (a : Nat) : S.v Tryd.prog (Go.convert 5 21 (.int .u8 ((a % 32 : Nat) : Int))) K w = K (.int .i32 ((a % 32 : Nat) : Int)) w := v_eq (cv5m a 32 (by decide) (by decide))
theorem cvm16 (a : Nat) : S.v Tryd.prog (Go.convert 5 21 (.int .u8 ((a % 16 : Nat) : Int))) K w = K (.int .i32 ((a % 16 : Nat) : Int)) w := v_eq (cv5m a 16 (by decide) (by decide))
theorem cvm8 (a : Nat) : S.v Tryd.prog (Go.convert 5 21 (.int .u8 ((a % 8 : Nat) : Int))) K w = K (.int .i32 ((a % 8 : Nat) : Int)) w := v_eq (cv5m a 8 (by decide) (by decide))
theorem cvm64 (a : Nat) : S.v Tryd.prog (Go.convert 5 21 (.int .u8 ((a % 64 : Nat) : Int))) K w = K (.int .i32 ((a % 64 : Nat) : Int)) w := v_eq (cv5m a 64 (by decide) (by decide))
theorem sh32_6 {x y : Operand} (a : Nat) : S.p Tryd.prog (S.bin .shl 21 x y (.int .i32 ((a % 32 : Nat) : Int)) (.int .u64 6)) K w = K (.int .i32 ((a % 32 * 64 : Nat) : Int)) w := p_eq (shl_run x y _ 6 _ rfl (by omega) (by omega))
theorem sh16_12 {x y : Operand} (a : Nat) : S.p Tryd.prog (S.bin .shl 21 x y (.int .i32 ((a % 16 : Nat) : Int)) (.int .u64 12)) K w = K (.int .i32 ((a % 16 * 4096 : Nat) : Int)) w := p_eq (shl_run x y _ 12 _ rfl (by omega) (by omega))
theorem sh64_6 {x y : Operand} (a : Nat) : S.p Tryd.prog (S.bin .shl 21 x y (.int .i32 ((a % 64 : Nat) : Int)) (.int .u64 6)) K w = K (.int .i32 ((a % 64 * 64 : Nat) : Int)) w := p_eq (shl_run x y _ 6 _ rfl (by omega) (by omega))
theorem sh8_18 {x y : Operand} (a : Nat) : S.p Tryd.prog (S.bin .shl 21 x y (.int .i32 ((a % 8 : Nat) : Int)) (.int .u64 18)) K w = K (.int .i32 ((a % 8 * 262144 : Nat) : Int)) w := p_eq (shl_run x y _ 18 _ rfl (by omega) (by omega))
theorem sh64_12 {x y : Operand} (a : Nat) : S.p Tryd.prog (S.bin .shl 21 x y (.int .i32 ((a % 64 : Nat) : Int)) (.int .u64 12)) K w = K (.int .i32 ((a % 64 * 4096 : Nat) : Int)) w := p_eq (shl_run x y _ 12 _ rfl (by omega) (by omega))
theorem or2 {x y : Operand} (a b : Nat) : S.p Tryd.prog (S.bin .or 21 x y (.int .i32 ((a % 32 * 64 : Nat) : Int)) (.int .i32 ((b % 64 : Nat) : Int))) K w = K (.int .i32 ((a % 32 * 64 + b % 64 : Nat) : Int)) w := p_eq (or_run x y _ _ 6 (by omega) (by omega) (by omega))
theorem or3a {x y : Operand} (a b : Nat) : S.p Tryd.prog (S.bin .or 21 x y (.int .i32 ((a % 16 * 4096 : Nat) : Int)) (.int .i32 ((b % 64 * 64 : Nat) : Int))) K w = K (.int .i32 ((a % 16 * 4096 + b % 64 * 64 : Nat) : Int)) w := p_eq (or_run x y _ _ 12 (by omega) (by omega) (by omega))
theorem or3b {x y : Operand} (a b c : Nat) : S.p Tryd.prog (S.bin .or 21 x y (.int .i32 ((a % 16 * 4096 + b % 64 * 64 : Nat) : Int)) (.int .i32 ((c % 64 : Nat) : Int))) K w = K (.int .i32 ((a % 16 * 4096 + b % 64 * 64 + c % 64 : Nat) : Int)) w := p_eq (or_run x y _ _ 6 (by omega) (by omega) (by omega))
theorem or4a {x y : Operand} (a b : Nat) : S.p Tryd.prog (S.bin .or 21 x y (.int .i32 ((a % 8 * 262144 : Nat) : Int)) (.int .i32 ((b % 64 * 4096 : Nat) : Int))) K w = K (.int .i32 ((a % 8 * 262144 + b % 64 * 4096 : Nat) : Int)) w := p_eq (or_run x y _ _ 18 (by omega) (by omega) (by omega))
theorem or4b {x y : Operand} (a b c : Nat) : S.p Tryd.prog (S.bin .or 21 x y (.int .i32 ((a % 8 * 262144 + b % 64 * 4096 : Nat) : Int)) (.int .i32 ((c % 64 * 64 : Nat) : Int))) K w = K (.int .i32 ((a % 8 * 262144 + b % 64 * 4096 + c % 64 * 64 : Nat) : Int)) w := p_eq (or_run x y _ _ 12 (by omega) (by omega) (by omega))
theorem or4c {x y : Operand} (a b c d : Nat) : S.p Tryd.prog (S.bin .or 21 x y (.int .i32 ((a % 8 * 262144 + b % 64 * 4096 + c % 64 * 64 : Nat) : Int)) (.int .i32 ((d % 64 : Nat) : Int))) K w = K (.int .i32 ((a % 8 * 262144 + b % 64 * 4096 + c % 64 * 64 + d % 64 : Nat) : Int)) w := p_eq (or_run x y _ _ 6 (by omega) (by omega) (by omega))
theorem value_ {B n c m : Nat} {A : Option Addr} {x : List UInt8} (hx : RB w B (.slice A n c) x) (hm : m = x.length) (h1 : 1 ≤ m) (h4 : m ≤ 4) (k : ∀ w', Ch [] w w' → K (.int .i32 (valN m x)) w') : S.call Tryd.prog 42 [.slice A n c] K w := by
  refine F42_link ?_
  unfold F42
  have hn : n = x.length := hx.bin.1
  subst hn
  have hl0 : 0 < x.length := by omega
  obtain ⟨p0, hp0, hq0⟩ := at_byte hx hl0
  rw [len_v el22, eq_v]
  refine br_dec _ _ _ (fun e1 => ?_) (fun e1 => ?_)
  · have : m = 1 := by omega
    subst this
    rw [v_eq (hp0 0 rfl), v_eq hq0]
    unfold byteV
    rw [v_eq (cv5 _ (bt x 0).toNat_lt)]
    exact k w (Ch.refl _ _)
  · rw [eq_v]
    refine br_dec _ _ _ (fun e2 => ?_) (fun e2 => ?_)
    · have : m = 2 := by omega
      subst this
      refine seq_ok fun J hJ => ?_
      refine drawn_ok fun w1 hc1 hs1 => ?_
      refine ⟨fun w' => w' = w1, rfl, ?_⟩
      have hx1 : RB w1 B (.slice A x.length c) x := RB.ch hx hc1
      obtain ⟨p0, hp0, hq0⟩ := at_byte hx1 (show 0 < x.length by omega)
      have i0 : ∀ {K : Value → World → Prop}, S.p Tryd.prog (Instr.indexAt 22 (.slice A x.length c) (.int .i64 0)) K w1 = K p0 w1 := p_eq (hp0 0 rfl)
      have l0 : ∀ {K : Value → World → Prop}, S.p Tryd.prog (Instr.loadAt 5 p0) K w1 = K (byteV (bt x 0)) w1 := p_eq hq0
      obtain ⟨p1, hp1, hq1⟩ := at_byte hx1 (show 1 < x.length by omega)
      have i1 : ∀ {K : Value → World → Prop}, S.p Tryd.prog (Instr.indexAt 22 (.slice A x.length c) (.int .i64 1)) K w1 = K p1 w1 := p_eq (hp1 1 rfl)
      have l1 : ∀ {K : Value → World → Prop}, S.p Tryd.prog (Instr.loadAt 5 p1) K w1 = K (byteV (bt x 1)) w1 := p_eq hq1
      have fin : J [.int .i32 (valN 2 x)] w1 := hJ _ _ (k w1 hc1)
      simp only [h_p, i0, l0, i1, l1, and31, and63, cvm32, cvm64, sh32_6, or2, true_and, and_self]
      exact fin
    · rw [eq_v]
      refine br_dec _ _ _ (fun e3 => ?_) (fun e3 => ?_)
      · have : m = 3 := by omega
        subst this
        refine seq_ok fun J hJ => ?_
        refine drawn_ok fun w1 hc1 hs1 => ?_
        refine ⟨fun w' => w' = w1, rfl, ?_⟩
        have hx1 : RB w1 B (.slice A x.length c) x := RB.ch hx hc1
        obtain ⟨p0, hp0, hq0⟩ := at_byte hx1 (show 0 < x.length by omega)
        have i0 : ∀ {K : Value → World → Prop}, S.p Tryd.prog (Instr.indexAt 22 (.slice A x.length c) (.int .i64 0)) K w1 = K p0 w1 := p_eq (hp0 0 rfl)
        have l0 : ∀ {K : Value → World → Prop}, S.p Tryd.prog (Instr.loadAt 5 p0) K w1 = K (byteV (bt x 0)) w1 := p_eq hq0
        obtain ⟨p1, hp1, hq1⟩ := at_byte hx1 (show 1 < x.length by omega)
        have i1 : ∀ {K : Value → World → Prop}, S.p Tryd.prog (Instr.indexAt 22 (.slice A x.length c) (.int .i64 1)) K w1 = K p1 w1 := p_eq (hp1 1 rfl)
        have l1 : ∀ {K : Value → World → Prop}, S.p Tryd.prog (Instr.loadAt 5 p1) K w1 = K (byteV (bt x 1)) w1 := p_eq hq1
        obtain ⟨p2, hp2, hq2⟩ := at_byte hx1 (show 2 < x.length by omega)
        have i2 : ∀ {K : Value → World → Prop}, S.p Tryd.prog (Instr.indexAt 22 (.slice A x.length c) (.int .i64 2)) K w1 = K p2 w1 := p_eq (hp2 2 rfl)
        have l2 : ∀ {K : Value → World → Prop}, S.p Tryd.prog (Instr.loadAt 5 p2) K w1 = K (byteV (bt x 2)) w1 := p_eq hq2
        have fin : J [.int .i32 (valN 3 x)] w1 := hJ _ _ (k w1 hc1)
        simp only [h_p, i0, l0, i1, l1, i2, l2, and15, and63, cvm16, cvm64, sh16_12, sh64_6, or3a, or3b, true_and, and_self]
        exact fin
      · have : m = 4 := by omega
        subst this
        refine seq_ok fun J hJ => ?_
        refine drawn_ok fun w1 hc1 hs1 => ?_
        refine ⟨fun w' => w' = w1, rfl, ?_⟩
        have hx1 : RB w1 B (.slice A x.length c) x := RB.ch hx hc1
        obtain ⟨p0, hp0, hq0⟩ := at_byte hx1 (show 0 < x.length by omega)
        have i0 : ∀ {K : Value → World → Prop}, S.p Tryd.prog (Instr.indexAt 22 (.slice A x.length c) (.int .i64 0)) K w1 = K p0 w1 := p_eq (hp0 0 rfl)
        have l0 : ∀ {K : Value → World → Prop}, S.p Tryd.prog (Instr.loadAt 5 p0) K w1 = K (byteV (bt x 0)) w1 := p_eq hq0
        obtain ⟨p1, hp1, hq1⟩ := at_byte hx1 (show 1 < x.length by omega)
        have i1 : ∀ {K : Value → World → Prop}, S.p Tryd.prog (Instr.indexAt 22 (.slice A x.length c) (.int .i64 1)) K w1 = K p1 w1 := p_eq (hp1 1 rfl)
        have l1 : ∀ {K : Value → World → Prop}, S.p Tryd.prog (Instr.loadAt 5 p1) K w1 = K (byteV (bt x 1)) w1 := p_eq hq1
        obtain ⟨p2, hp2, hq2⟩ := at_byte hx1 (show 2 < x.length by omega)
        have i2 : ∀ {K : Value → World → Prop}, S.p Tryd.prog (Instr.indexAt 22 (.slice A x.length c) (.int .i64 2)) K w1 = K p2 w1 := p_eq (hp2 2 rfl)
        have l2 : ∀ {K : Value → World → Prop}, S.p Tryd.prog (Instr.loadAt 5 p2) K w1 = K (byteV (bt x 2)) w1 := p_eq hq2
        obtain ⟨p3, hp3, hq3⟩ := at_byte hx1 (show 3 < x.length by omega)
        have i3 : ∀ {K : Value → World → Prop}, S.p Tryd.prog (Instr.indexAt 22 (.slice A x.length c) (.int .i64 3)) K w1 = K p3 w1 := p_eq (hp3 3 rfl)
        have l3 : ∀ {K : Value → World → Prop}, S.p Tryd.prog (Instr.loadAt 5 p3) K w1 = K (byteV (bt x 3)) w1 := p_eq hq3
        have fin : J [.int .i32 (valN 4 x)] w1 := hJ _ _ (k w1 hc1)
        simp only [h_p, i0, l0, i1, l1, i2, l2, i3, l3, and7, and63, cvm8, cvm64, sh8_18, sh64_12, sh64_6, or4a, or4b, or4c, true_and, and_self]
        exact fin
end
end Go.Proofs.YthpbiliajcameaaDoor
