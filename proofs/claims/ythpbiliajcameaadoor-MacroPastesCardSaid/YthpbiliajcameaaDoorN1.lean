import Derived.Test.YthpbiliajcameaaDoorQ3
import Derived.Test.YthpbiliajcameaaDoorFwAgg
import Derived.Test.YthpbiliajcameaaDoorFwOps3
set_option linter.unusedVariables false
set_option maxRecDepth 4000
namespace Go.Proofs.YthpbiliajcameaaDoor
open Go Go.Fw Go.Proofs Go.RowKit
/-! ### A queue, a recorder and a paste that no call made -/
def NQ (w : World) (v : Value) : Prop := v = .pointer none ∨ ∃ b, v = PT b ∧ w.heap[b]? = some (.cells #[.slice none 0 0, .slice none 0 0, I64 0, .bool false] 38 (0, 0))
def NR (w : World) (v : Value) : Prop := v = .pointer none ∨ ∃ b, v = PT b ∧ w.heap[b]? = some (.cells #[.slice none 0 0, .bool false, strV [], .bool false, .bool false] 47 (0, 0))
def NP (w : World) (v : Value) : Prop := v = .pointer none ∨ ∃ b, v = PT b ∧ w.heap[b]? = some (.cells #[.slice none 0 0, .bool false, .bool false] 54 (0, 0))
section
variable {w : World} {K : Value → World → Prop}
theorem q_none {v : Value} (h : NQ w v) (k : K (.bool true) w) : S.call Tryd.prog 32 [v] K w := by
  refine F32_link ?_
  unfold F32
  rcases h with rfl | ⟨b, rfl, h1⟩
  · rw [eqn_v pt35, Option.isNone_none, br_true]; exact k
  · rw [eqn_v pt35, Option.isNone_some, br_false, nilC_v, fa_v fo38_3, ld_v sc4 (cells4 h1).2.2.2, not_v]; exact k
theorem q_next {v : Value} (h : NQ w v) (k : K (.tuple #[.int .u8 0, .bool false, .bool false]) w) : S.call Tryd.prog 12 [v] K w := by
  refine F12_link ?_
  unfold F12
  refine q_none h ?_
  rw [br_true]; exact k
theorem q_room {v n : Value} (h : NQ w v) (k : K (I64 2) w) : S.call Tryd.prog 33 [v, n] K w := by
  refine F33_link ?_
  unfold F33
  refine q_none h ?_
  rw [br_true]; exact k
theorem q_put {v : Value} {A : Option Addr} {n c : Nat} (h : NQ w v) (k : K (I64 2) w) : S.call Tryd.prog 13 [v, .slice A n c] K w := by
  refine F13_link ?_
  unfold F13
  rw [len_v el22]
  refine q_room h ?_
  rw [ne_v, decide_eq_true (by simp), br_true]; exact k
theorem q_push {v l : Value} (h : NQ w v) (k : K (I64 2) w) : S.call Tryd.prog 14 [v, l] K w := by
  refine F14_link ?_
  unfold F14
  refine q_none h ?_
  rw [br_true]; exact k
theorem q_back {v l : Value} (h : NQ w v) (k : K (I64 2) w) : S.call Tryd.prog 15 [v, l] K w := by
  refine F15_link ?_
  unfold F15
  refine q_none h ?_
  rw [br_true]; exact k
theorem q_len {v : Value} (h : NQ w v) (k : K (I64 0) w) : S.call Tryd.prog 16 [v] K w := by
  refine F16_link ?_
  unfold F16
  refine q_none h ?_
  rw [br_true]; exact k
theorem q_depth {v : Value} (h : NQ w v) (k : K (I64 0) w) : S.call Tryd.prog 17 [v] K w := by
  refine F17_link ?_
  unfold F17
  refine q_none h ?_
  rw [br_true]; exact k
theorem q_drop {v : Value} (h : NQ w v) (k : K (I64 0) w) : S.call Tryd.prog 18 [v] K w := by
  refine F18_link ?_
  unfold F18
  refine q_none h ?_
  rw [br_true]; exact k
theorem q_clone {v : Value} (h : NQ w v) (k : K (.pointer none) w) : S.call Tryd.prog 19 [v] K w := by
  refine F19_link ?_
  unfold F19
  refine q_none h ?_
  rw [br_true]; exact k
theorem r_none {v : Value} (h : NR w v) (k : K (.bool true) w) : S.call Tryd.prog 36 [v] K w := by
  refine F36_link ?_
  unfold F36
  rcases h with rfl | ⟨b, rfl, h1⟩
  · rw [eqn_v pt45, Option.isNone_none, br_true]; exact k
  · rw [eqn_v pt45, Option.isNone_some, br_false, nilC_v, fa_v fo47_4, ld_v sc4 (cells5 h1).2.2.2.2, not_v]; exact k
theorem r_wants {v : Value} (h : NR w v) (k : K (I64 2) w) : S.call Tryd.prog 37 [v] K w := by
  refine F37_link ?_
  unfold F37
  refine r_none h ?_
  rw [br_true]; exact k
theorem r_last {v : Value} (h : NR w v) (k : K (.tuple #[strV [], .bool false]) w) : S.call Tryd.prog 20 [v] K w := by
  refine F20_link ?_
  unfold F20
  refine r_none h ?_
  rw [br_true]; exact k
theorem r_start {v : Value} (h : NR w v) (k : K (I64 2) w) : S.call Tryd.prog 21 [v] K w := by
  refine F21_link ?_
  unfold F21
  refine r_none h ?_
  rw [br_true]; exact k
theorem r_end {v : Value} (h : NR w v) (k : K (I64 2) w) : S.call Tryd.prog 22 [v] K w := by
  refine F22_link ?_
  unfold F22
  refine r_wants h ?_
  rw [ne_v, decide_eq_true (by simp), br_true]; exact k
theorem r_put {v l : Value} (h : NR w v) (k : K (I64 2) w) : S.call Tryd.prog 23 [v, l] K w := by
  refine F23_link ?_
  unfold F23
  refine r_wants h ?_
  rw [ne_v, decide_eq_true (by simp), br_true]; exact k
theorem r_cancel {v : Value} (h : NR w v) (k : K (I64 2) w) : S.call Tryd.prog 24 [v] K w := by
  refine F24_link ?_
  unfold F24
  refine r_wants h ?_
  rw [ne_v, decide_eq_true (by simp), br_true]; exact k
theorem r_on {v : Value} (h : NR w v) (k : K (.bool false) w) : S.call Tryd.prog 25 [v] K w := by
  refine F25_link ?_
  unfold F25
  refine r_none h ?_
  rw [not_v, show (!true) = false from rfl, br_false]; exact k
theorem r_clone {v : Value} (h : NR w v) (k : K (.pointer none) w) : S.call Tryd.prog 26 [v] K w := by
  refine F26_link ?_
  unfold F26
  refine r_none h ?_
  rw [br_true]; exact k
theorem p_put {v c : Value} (h : NP w v) (k : K (.tuple #[.bool false, I64 2]) w) : S.call Tryd.prog 8 [v, c] K w := by
  refine F8_link ?_
  unfold F8
  rcases h with rfl | ⟨b, rfl, h1⟩
  · rw [eqn_v pt23, Option.isNone_none, br_true]; exact k
  · rw [eqn_v pt23, Option.isNone_some, br_false, nilC_v, fa_v fo54_2, ld_v sc4 (cells3 h1).2.2, not_v, show (!false) = true from rfl, br_true]; exact k
theorem p_text {v : Value} (h : NP w v) (k : K (.slice none 0 0) w) : S.call Tryd.prog 10 [v] K w := by
  refine F10_link ?_
  unfold F10
  rcases h with rfl | ⟨b, rfl, h1⟩
  · rw [eqn_v pt23, Option.isNone_none, br_true]; exact k
  · rw [eqn_v pt23, Option.isNone_some, br_false, nilC_v, fa_v fo54_2, ld_v sc4 (cells3 h1).2.2, not_v, show (!false) = true from rfl, br_true]; exact k
theorem b38 (w : World) : (Instr.build 38 #[]).run Tryd.prog w = .ok (.agg #[.slice none 0 0, .slice none 0 0, I64 0, .bool false]) w := by kernel_rfl
theorem b47 (w : World) : (Instr.build 47 #[]).run Tryd.prog w = .ok (.agg #[.slice none 0 0, .bool false, strV [], .bool false, .bool false]) w := by kernel_rfl
theorem b54 (w : World) : (Instr.build 54 #[]).run Tryd.prog w = .ok (.agg #[.slice none 0 0, .bool false, .bool false]) w := by kernel_rfl
theorem bs39 (w : World) (a : Option Addr) : (Instr.buildSlice 39 2 #[(0, .pointer none), (1, .pointer a)]).run Tryd.prog w = .ok (.slice (some ⟨w.heap.size, 0, none⟩) 2 2) (w.alloc (.cells #[.pointer none, .pointer a] 35)) := by kernel_rfl
theorem bs48 (w : World) (a : Option Addr) : (Instr.buildSlice 48 2 #[(0, .pointer none), (1, .pointer a)]).run Tryd.prog w = .ok (.slice (some ⟨w.heap.size, 0, none⟩) 2 2) (w.alloc (.cells #[.pointer none, .pointer a] 45)) := by kernel_rfl
theorem bs55 (w : World) (a : Option Addr) : (Instr.buildSlice 55 2 #[(0, .pointer none), (1, .pointer a)]).run Tryd.prog w = .ok (.slice (some ⟨w.heap.size, 0, none⟩) 2 2) (w.alloc (.cells #[.pointer none, .pointer a] 23)) := by kernel_rfl
theorem ne_same {P : Program} {t : TypeId} {x y : Operand} {k : IntKind} {a : Int} : S.v P (S.bin .neq t x y (.int k a) (.int k a)) K w = K (.bool false) w := by
  rw [ne_v, decide_eq_false (by simp)]
theorem nes_nil {P : Program} {t : TypeId} {x y : Operand} : S.v P (S.bin .neq t x y (strV []) (.string ⟨#[]⟩)) K w = K (.bool false) w := by
  rw [show (Value.string ⟨#[]⟩) = strV [] from rfl, nes_v, decide_eq_false (by simp)]
set_option maxHeartbeats 2000000
theorem mnone_ {B : Nat} {v : Value} {bs : List UInt8} (hr : RB w B v bs) (k : ∀ w', Ch [] w w' → K (.bool true) w') : S.call Tryd.prog 5 [v] K w := by
  obtain ⟨A, c, rfl, _⟩ := hr.form
  refine F5_link ?_
  unfold F5
  refine begun_ fun w1 hc1 => ?_
  rw [not_v, show (!true) = false from rfl, br_false, v_eq (b38 w1)]
  refine Go.Fw.bx fun w2 hb2 hc2 hs2 => ?_
  have h22 : w2.heap[w1.heap.size]? = some (.cells #[.slice none 0 0, .slice none 0 0, I64 0, .bool false] 38 (0, 0)) := hb2
  rw [v_eq (bs39 w2 _)]
  have hc23 := ch_alloc w2 (.cells #[.pointer none, PT w1.heap.size] 35)
  have hb3 := heap_alloc_new w2 (.cells #[.pointer none, PT w1.heap.size] 35)
  generalize hw3 : w2.alloc (.cells #[.pointer none, PT w1.heap.size] 35) = w3 at *
  have ho3 : Own w3 35 1 (.slice (some ⟨w2.heap.size, 0, none⟩) 2 2) 2 [.pointer none, PT w1.heap.size] [w2.heap.size] := Own.fresh (n := 2) hb3 rfl (by simp only [maxLen]; omega)
  have hc03 : Ch [] w w3 := (hc1.trans hc2 (by simp)).trans hc23 (by simp)
  rw [len_v el39]
  intro I hC
  have key : ∀ (d i : Nat) (x2 x4 x5 x6 x7 x23 x73 : Value), i + d = 2 → I [x2, x4, x5, x6, x7, I64 i, x23, x73] w3 := by
    intro d
    induction d with
    | succ d ih =>
      intro i x2 x4 x5 x6 x7 x23 x73 hi
      refine hC _ _ _ _ _ _ _ _ _ ?_
      obtain ⟨v, hv, hN⟩ : ∃ v, [Value.pointer none, PT w1.heap.size][i]? = some v ∧ NQ w3 v := by
        match i, (show i < 2 by omega) with
        | 0, _ => exact ⟨_, rfl, .inl rfl⟩
        | 1, _ => exact ⟨_, rfl, .inr ⟨_, rfl, hc23.at_ h22 (by simp)⟩⟩
      rw [lt_v, decide_eq_true (by omega), br_true, ixr_v (j := i) el39 sc35 (Own.rd ho3) rfl hv]
      refine q_next hN ?_
      rw [x30, x31, x32, ne_same, br_false, br_false, br_false]
      refine q_put hN ?_
      rw [ne_same, br_false]
      refine q_push hN ?_
      rw [ne_same, br_false]
      refine q_back hN ?_
      rw [ne_same, br_false]
      refine q_len hN ?_
      refine q_depth hN ?_
      rw [add_v, wrap_i64 (by omega) (by omega)]
      refine q_drop hN ?_
      rw [add_v, wrap_i64 (by omega) (by omega), ne_v, decide_eq_false (by omega), br_false]
      refine q_clone hN ?_
      rw [nen_v pt35, Option.isSome_none, br_false, add_v, wrap_i64 (by omega) (by omega)]
      have := ih (i + 1) x2 v (.int .u8 0) (.bool false) (.bool false) (.bool true) (.bool false) (by omega)
      rw [show ((i + 1 : Nat) : Int) = (i : Int) + 1 from by omega] at this
      exact this
    | zero =>
      intro i x2 x4 x5 x6 x7 x23 x73 hi
      refine hC _ _ _ _ _ _ _ _ _ ?_
      rw [lt_v, decide_eq_false (by omega), br_false, v_eq (b47 w3)]
      refine Go.Fw.bx fun w4 hb4 hc4 hs4 => ?_
      have h44 : w4.heap[w3.heap.size]? = some (.cells #[.slice none 0 0, .bool false, strV [], .bool false, .bool false] 47 (0, 0)) := hb4
      rw [v_eq (bs48 w4 _)]
      have hc45 := ch_alloc w4 (.cells #[.pointer none, PT w3.heap.size] 45)
      have hb5 := heap_alloc_new w4 (.cells #[.pointer none, PT w3.heap.size] 45)
      generalize hw5 : w4.alloc (.cells #[.pointer none, PT w3.heap.size] 45) = w5 at *
      have ho5 : Own w5 45 1 (.slice (some ⟨w4.heap.size, 0, none⟩) 2 2) 2 [.pointer none, PT w3.heap.size] [w4.heap.size] := Own.fresh (n := 2) hb5 rfl (by simp only [maxLen]; omega)
      have hc05 : Ch [] w w5 := (hc03.trans hc4 (by simp)).trans hc45 (by simp)
      rw [len_v el48]
      intro I1 hC1
      have key1 : ∀ (d i : Nat) (y1 y2 y3 y4 y5 y6 : Value), i + d = 2 → I1 [y1, y2, y3, y4, I64 i, y5, y6] w5 := by
        intro d
        induction d with
        | succ d ih =>
          intro i y1 y2 y3 y4 y5 y6 hi
          refine hC1 _ _ _ _ _ _ _ _ ?_
          obtain ⟨v, hv, hN⟩ : ∃ v, [Value.pointer none, PT w3.heap.size][i]? = some v ∧ NR w5 v := by
            match i, (show i < 2 by omega) with
            | 0, _ => exact ⟨_, rfl, .inl rfl⟩
            | 1, _ => exact ⟨_, rfl, .inr ⟨_, rfl, hc45.at_ h44 (by simp)⟩⟩
          rw [lt_v, decide_eq_true (by omega), br_true, ixr_v (j := i) el48 sc45 (Own.rd ho5) rfl hv]
          refine r_last hN ?_
          rw [x20, x21, nes_nil, br_false, br_false]
          refine r_start hN ?_
          rw [ne_same, br_false]
          refine r_end hN ?_
          rw [ne_same, br_false]
          refine r_put hN ?_
          rw [ne_same, br_false]
          refine r_cancel hN ?_
          rw [ne_same, br_false]
          refine r_on hN ?_
          rw [br_false]
          refine r_clone hN ?_
          rw [nen_v pt45, Option.isSome_none, br_false, add_v, wrap_i64 (by omega) (by omega)]
          have := ih (i + 1) y1 v (strV []) (.bool false) (.bool true) (.bool false) (by omega)
          rw [show ((i + 1 : Nat) : Int) = (i : Int) + 1 from by omega] at this
          exact this
        | zero =>
          intro i y1 y2 y3 y4 y5 y6 hi
          refine hC1 _ _ _ _ _ _ _ _ ?_
          rw [lt_v, decide_eq_false (by omega), br_false, v_eq (b54 w5)]
          refine Go.Fw.bx fun w6 hb6 hc6 hs6 => ?_
          have h66 : w6.heap[w5.heap.size]? = some (.cells #[.slice none 0 0, .bool false, .bool false] 54 (0, 0)) := hb6
          rw [v_eq (bs55 w6 _)]
          have hc67 := ch_alloc w6 (.cells #[.pointer none, PT w5.heap.size] 23)
          have hb7 := heap_alloc_new w6 (.cells #[.pointer none, PT w5.heap.size] 23)
          generalize hw7 : w6.alloc (.cells #[.pointer none, PT w5.heap.size] 23) = w7 at *
          have ho7 : Own w7 23 1 (.slice (some ⟨w6.heap.size, 0, none⟩) 2 2) 2 [.pointer none, PT w5.heap.size] [w6.heap.size] := Own.fresh (n := 2) hb7 rfl (by simp only [maxLen]; omega)
          have hc07 : Ch [] w w7 := (hc05.trans hc6 (by simp)).trans hc67 (by simp)
          rw [len_v el55]
          intro I2 hC2
          have key2 : ∀ (d i : Nat) (z1 z2 z3 z4 z5 z6 : Value), i + d = 2 → I2 [z1, z2, z3, z4, I64 i, z5, z6] w7 := by
            intro d
            induction d with
            | succ d ih =>
              intro i z1 z2 z3 z4 z5 z6 hi
              refine hC2 _ _ _ _ _ _ _ _ ?_
              obtain ⟨v, hv, hN⟩ : ∃ v, [Value.pointer none, PT w5.heap.size][i]? = some v ∧ NP w7 v := by
                match i, (show i < 2 by omega) with
                | 0, _ => exact ⟨_, rfl, .inl rfl⟩
                | 1, _ => exact ⟨_, rfl, .inr ⟨_, rfl, hc67.at_ h66 (by simp)⟩⟩
              rw [lt_v, decide_eq_true (by omega), br_true, ixr_v (j := i) el55 sc23 (Own.rd ho7) rfl hv]
              refine p_put hN ?_
              rw [x20, x21, br_false, ne_same, br_false]
              refine p_text hN ?_
              rw [len_v el32, ne_v, decide_eq_false (by omega), br_false, add_v, wrap_i64 (by omega) (by omega)]
              have := ih (i + 1) z1 v (.bool false) (I64 2) (.bool true) (.bool false) (by omega)
              rw [show ((i + 1 : Nat) : Int) = (i : Int) + 1 from by omega] at this
              exact this
            | zero =>
              intro i z1 z2 z3 z4 z5 z6 hi
              refine hC2 _ _ _ _ _ _ _ _ ?_
              rw [lt_v, decide_eq_false (by omega), br_false]
              exact k w7 hc07
          exact key2 2 0 _ undef undef undef undef undef (by omega)
      exact key1 2 0 _ undef undef undef undef undef (by omega)
  exact key 2 0 _ undef undef undef undef undef undef (by omega)
end
end Go.Proofs.YthpbiliajcameaaDoor
