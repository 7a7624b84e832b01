import Derived.Test.YtbhgindbdojmmaaE8
set_option linter.unusedVariables false
set_option maxRecDepth 4000
namespace Go.Proofs.Ytbhgindbdojmmaa
open Go Go.Fw Go.Proofs Go.RowKit
/-! ### A history that no call made -/
def NH (w : World) (v : Value) : Prop := v = .pointer none ∨ ∃ b, v = PT b ∧ w.heap[b]? = some (.cells #[.slice none 0 0, I64 0, I64 0] 87 (0, 0))
theorem NH.ch {w w' : World} {v : Value} (h : NH w v) (hc : Ch [] w w') : NH w' v := by
  rcases h with h | ⟨b, h1, h2⟩
  · exact .inl h
  · exact .inr ⟨b, h1, hc.at_ h2 (by simp)⟩
def NW (w : World) (v : Value) : Prop := v = .pointer none ∨ ∃ b, v = PT b ∧ w.heap[b]? = some (.cells #[.slice none 0 0, .slice none 0 0, I64 0] 96 (0, 0))
theorem NW.ch {w w' : World} {v : Value} (h : NW w v) (hc : Ch [] w w') : NW w' v := by
  rcases h with h | ⟨b, h1, h2⟩
  · exact .inl h
  · exact .inr ⟨b, h1, hc.at_ h2 (by simp)⟩
section
variable {w : World} {K : Value → World → Prop}
theorem n_none {v : Value} (h : NH w v) (k : K (.bool true) w) : S.call Try.prog 42 [v] K w := by
  refine F42_link ?_
  unfold F42
  rcases h with rfl | ⟨b, rfl, h1⟩
  · rw [eqn_v pt23, Option.isNone_none, br_true]
    exact k
  · rw [eqn_v pt23, Option.isNone_some, br_false, nilC_v, fa_v fo87_0, fa_v fo85_1, ld_v sc2 (cells3 h1).2.1, eq_v, decide_eq_true rfl]
    exact k
theorem n_len {v : Value} (h : NH w v) (k : K (I64 0) w) : S.call Try.prog 12 [v] K w := by
  refine F12_link ?_
  unfold F12
  refine n_none h ?_
  rw [br_true]; exact k
theorem n_base {v : Value} (h : NH w v) (k : K (I64 0) w) : S.call Try.prog 13 [v] K w := by
  refine F13_link ?_
  unfold F13
  refine n_none h ?_
  rw [br_true]; exact k
theorem n_most {v : Value} (h : NH w v) (k : K (I64 0) w) : S.call Try.prog 40 [v] K w := by
  refine F40_link ?_
  unfold F40
  refine n_none h ?_
  rw [br_true]; exact k
theorem n_clone {v : Value} (h : NH w v) (k : K (.pointer none) w) : S.call Try.prog 41 [v] K w := by
  refine F41_link ?_
  unfold F41
  refine n_none h ?_
  rw [br_true]; exact k
theorem n_add {v l : Value} (h : NH w v) (k : K (I64 2) w) : S.call Try.prog 11 [v, l] K w := by
  refine F11_link ?_
  unfold F11
  refine n_none h ?_
  rw [br_true]; exact k
theorem n_stifle {v m : Value} (h : NH w v) (k : K (I64 2) w) : S.call Try.prog 39 [v, m] K w := by
  refine F39_link ?_
  unfold F39
  refine n_none h ?_
  rw [br_true]; exact k
theorem n_newwalk {v : Value} (h : NH w v) (k : K (.tuple #[.pointer none, I64 2]) w) : S.call Try.prog 17 [v] K w := by
  refine F17_link ?_
  unfold F17
  refine n_none h ?_
  rw [br_true]; exact k
theorem n_at {v : Value} (h : NH w v) (i : Int) (k : ∀ w', Ch [] w w' → K (.tuple #[hlV ([], 0), .bool false]) w') : S.call Try.prog 21 [v, I64 i] K w := by
  refine F21_link ?_
  unfold F21
  refine Go.Fw.al z36 fun w1 hb1 hc1 hs1 => ?_
  rw [lt_v]
  refine br_dec _ _ _ (fun hn => ?_) (fun hn => ?_)
  · rw [v_eq (build36z w1)]
    refine stw ag36 hb1 rfl rfl (by simp [Value.oneCell', strV]) fun w2 hb2 hc2 hs2 => ?_
    rw [ldR_p ag36 hb2 rfl]
    exact k w2 (hc1.trans hc2 (by simp))
  · refine n_len (h.ch hc1) ?_
    rw [ge_v, decide_eq_true (by omega), br_true, v_eq (build36z w1)]
    refine stw ag36 hb1 rfl rfl (by simp [Value.oneCell', strV]) fun w2 hb2 hc2 hs2 => ?_
    rw [ldR_p ag36 hb2 rfl]
    exact k w2 (hc1.trans hc2 (by simp))
theorem n_number {v n : Value} (h : NH w v) (k : ∀ w', Ch [] w w' → K (.tuple #[hlV ([], 0), .bool false]) w') : S.call Try.prog 15 [v, n] K w := by
  refine F15_link ?_
  unfold F15
  refine Go.Fw.al z36 fun w1 hb1 hc1 hs1 => ?_
  refine drawn_ok fun w2 hc2 hs2 => ?_
  have hc02 := hc1.trans hc2 (by simp)
  refine ⟨fun w' => w' = w2, rfl, ?_⟩
  refine n_none (h.ch hc02) ⟨rfl, ?_⟩
  rw [br_true, v_eq (build36z w2)]
  refine stw ag36 (hc2.at_ hb1 (by simp)) rfl rfl (by simp [Value.oneCell', strV]) fun w3 hb3 hc3 hs3 => ?_
  rw [ldR_p ag36 hb3 rfl]
  exact k w3 (hc02.trans hc3 (by simp))
theorem n_replace {v i : Value} {x : HL} (h : NH w v) (k : ∀ w', Ch [] w w' → K (.tuple #[hlV ([], 0), I64 2]) w') : S.call Try.prog 36 [v, i, hlV x] K w := by
  refine F36_link ?_
  unfold F36
  refine Go.Fw.bx fun w1 hb1 hc1 hs1 => ?_
  refine Go.Fw.al z36 fun w2 hb2 hc2 hs2 => ?_
  have hc02 := hc1.trans hc2 (by simp)
  refine n_none (h.ch hc02) ?_
  rw [br_true, v_eq (build36z w2)]
  refine stw ag36 hb2 rfl rfl (by simp [Value.oneCell', strV]) fun w3 hb3 hc3 hs3 => ?_
  rw [ldR_p ag36 hb3 rfl]
  exact k w3 (hc02.trans hc3 (by have := hc1.size; simp; omega))
theorem n_remove {v i : Value} (h : NH w v) (k : ∀ w', Ch [] w w' → K (.tuple #[hlV ([], 0), I64 2]) w') : S.call Try.prog 38 [v, i] K w := by
  refine F38_link ?_
  unfold F38
  refine Go.Fw.al z36 fun w2 hb2 hc2 hs2 => ?_
  refine n_none (h.ch hc2) ?_
  rw [br_true, v_eq (build36z w2)]
  refine stw ag36 hb2 rfl rfl (by simp [Value.oneCell', strV]) fun w3 hb3 hc3 hs3 => ?_
  rw [ldR_p ag36 hb3 rfl]
  exact k w3 (hc2.trans hc3 (by simp))
theorem n_search {v : Value} {fro : Int} {t bg : Value} {back : Bool} (h : NH w v) (k : K (.tuple #[I64 0, I64 0, .bool false]) w) : S.call Try.prog 32 [v, I64 fro, t, .bool back, bg] K w := by
  refine F32_link ?_
  unfold F32
  refine n_len h ?_
  refine seq_ok fun J hJ => ?_
  have hj : ∀ (i : Int) (v1 v2 : Value), (i < 0 ∨ 0 ≤ i) → J [I64 i, v1, v2] w := by
    intro i v1 v2 hi
    refine hJ _ _ ?_
    intro I hC
    refine hC _ _ _ _ _ _ _ _ ?_
    rw [nth_zero, ge_v]
    refine br_dec _ _ _ (fun hge => ?_) (fun hge => ?_)
    · rw [lt_v, decide_eq_false (by omega), br_false]
      exact k
    · exact k
  clear hJ
  cases back with
  | true =>
    rw [br_true, sub_v, wrap_i64 (by omega) (by omega), v_eq (run_min ..)]
    exact hj _ _ _ (by omega)
  | false =>
    rw [br_false, v_eq (run_max ..)]
    exact hj _ _ _ (by omega)
theorem n_all {v : Value} (h : NH w v) (k : ∀ w' c, It w' w.heap.size w'.heap.size c (.slice none 0 0) [] → Ch [] w w' → K (AllV c) w') : S.call Try.prog 14 [v] K w := by
  refine F14_link ?_
  unfold F14
  refine seq_ok fun J hJ => ?_
  refine n_none h ?_
  rw [not_v, show (!true) = false from rfl, br_false]
  refine hJ _ _ ?_
  clear hJ
  rw [nth_zero]
  refine F46_link ?_
  unfold F46
  refine bx fun w2 hb2 hc2 hs2 => ?_
  rw [mf_v]
  exact k w2 _ ⟨hb2, ⟨[], Own.nil _ _ _, by simp⟩, by omega⟩ hc2
theorem m_none {v : Value} (h : NW w v) (k : K (.bool true) w) : S.call Try.prog 48 [v] K w := by
  refine F48_link ?_
  unfold F48
  rcases h with rfl | ⟨b, rfl, h1⟩
  · rw [eqn_v pt42, Option.isNone_none, br_true]
    exact k
  · rw [eqn_v pt42, Option.isNone_some, br_false, nilC_v, fa_v fo96_1, ld_v sc62 (cells3 h1).2.1, len_v el62, eq_v, decide_eq_true (by omega)]
    exact k
theorem m_place {v : Value} (h : NW w v) (k : K (I64 0) w) : S.call Try.prog 18 [v] K w := by
  refine F18_link ?_
  unfold F18
  refine m_none h ?_
  rw [br_true]; exact k
theorem m_to {v i t : Value} (h : NW w v) (k : K (.tuple #[strV [], I64 2]) w) : S.call Try.prog 19 [v, i, t] K w := by
  refine F19_link ?_
  unfold F19
  refine m_none h ?_
  rw [br_true]; exact k
theorem m_here {v i : Value} (h : NW w v) (k : K (.tuple #[strV [], .bool false]) w) : S.call Try.prog 25 [v, i] K w := by
  refine F25_link ?_
  unfold F25
  refine m_none h ?_
  rw [br_true]; exact k
theorem m_changed {v : Value} (h : NW w v) (k : ∀ w' c1 c2, Ic w' w.heap.size w'.heap.size c1 c2 (.slice none 0 0) [] → Ch [] w w' → K (ChV c1 c2) w') : S.call Try.prog 20 [v] K w := by
  refine F20_link ?_
  unfold F20
  refine Go.Fw.al z102 fun w1 hb1 hc1 hs1 => ?_
  refine Go.Fw.al z62 fun w2 hb2 hc2 hs2 => ?_
  have hc02 : Ch [] w w2 := hc1.trans hc2 (by simp)
  refine seq_ok fun J hJ => ?_
  refine m_none (h.ch hc02) ?_
  rw [not_v, show (!true) = false from rfl, br_false]
  refine hJ _ _ ?_
  rw [mf_v]
  exact k w2 _ _ ⟨⟨_, [], [], hc2.at_ hb1 (by simp), hb2, Own.nil _ _ _, Own.nil _ _ _, by simp, by simp⟩, by omega⟩ hc02
theorem build87z (w : World) : (Instr.build 87 #[]).run Try.prog w = .ok (.agg #[.slice none 0 0, I64 0, I64 0]) w := by kernel_rfl
theorem build96z (w : World) : (Instr.build 96 #[]).run Try.prog w = .ok (.agg #[.slice none 0 0, .slice none 0 0, I64 0]) w := by kernel_rfl
theorem bs88 (w : World) (a : Option Addr) : (Instr.buildSlice 88 2 #[(0, .pointer none), (1, .pointer a)]).run Try.prog w = .ok (.slice (some ⟨w.heap.size, 0, none⟩) 2 2) (w.alloc (.cells #[.pointer none, .pointer a] 23)) := by kernel_rfl
theorem bs97 (w : World) (a : Option Addr) : (Instr.buildSlice 97 2 #[(0, .pointer none), (1, .pointer a)]).run Try.prog w = .ok (.slice (some ⟨w.heap.size, 0, none⟩) 2 2) (w.alloc (.cells #[.pointer none, .pointer a] 42)) := by kernel_rfl
theorem el88n : elT Try.prog 88 = some (23, 1) := by kernel_rfl
theorem el97n : elT Try.prog 97 = some (42, 1) := by kernel_rfl
theorem sc42n : scal Try.prog 42 = true := by kernel_rfl
theorem ne2 {P : Program} {t : TypeId} {x y : Operand} {k : IntKind} {a : Int} : S.v P (S.bin .neq t x y (.int k a) (.int k a)) K w = K (.bool false) w := by
  rw [ne_v, decide_eq_false (by simp)]
set_option maxHeartbeats 4000000
theorem hnone_ {o : OpT} {v : Value} (hro : RL w w.heap.size v o.ls) (k : ∀ w', Ch [] w w' → K (.bool true) w') : S.call Try.prog 8 [opV o v] K w := by
  refine F8_link ?_
  unfold F8
  obtain ⟨A', c, rfl, _⟩ := hro.form
  refine Go.Fw.bx fun w1 hb1 hc1 hs1 => ?_
  have h11 : w1.heap[w.heap.size]? = some (.cells (opCells o (.slice A' o.ls.length c)) 77 (0, 0)) := hb1
  refine Go.Fw.al z4w fun w2 hb2 hc2 hs2 => ?_
  have h22 : w2.heap[w1.heap.size]? = some (.cells #[.bool false] 4 (0, 0)) := hb2
  have hc02 : Ch [] w w2 := hc1.trans hc2 (by simp)
  refine begun_ fun w3 hc3 => ?_
  rw [not_v, show (!true) = false from rfl, br_false, v_eq (build87z w3)]
  refine Go.Fw.bx fun w4 hb4 hc4 hs4 => ?_
  have h44 : w4.heap[w3.heap.size]? = some (.cells #[.slice none 0 0, I64 0, I64 0] 87 (0, 0)) := hb4
  rw [v_eq (bs88 w4 _)]
  have hc45 := ch_alloc w4 (.cells #[.pointer none, PT w3.heap.size] 23)
  have hb5 := heap_alloc_new w4 (.cells #[.pointer none, PT w3.heap.size] 23)
  have hz5 : (w4.alloc (.cells #[.pointer none, PT w3.heap.size] 23)).heap.size = w4.heap.size + 1 := by simp
  generalize hw5 : w4.alloc (.cells #[.pointer none, PT w3.heap.size] 23) = w5 at *
  have ho5 : Own w5 23 1 (.slice (some ⟨w4.heap.size, 0, none⟩) 2 2) 2 [.pointer none, PT w3.heap.size] [w4.heap.size] := Own.fresh (n := 2) hb5 rfl (by simp only [maxLen]; omega)
  have hc25 : Ch [] w2 w5 := (hc3.trans hc4 (by simp)).trans hc45 (by simp)
  have hc05 : Ch [] w w5 := hc02.trans hc25 (by simp)
  have sz1 := hc1.size
  have sz2 := hc2.size
  have sz25 := hc25.size
  have hop : ∀ w', Ch [] w5 w' → w'.heap[w.heap.size]? = some (.cells (opCells o (.slice A' o.ls.length c)) 77 (0, 0)) := fun w' hc => ((hc2.trans hc25 (by simp)).trans hc (by simp)).at_ h11 (by simp)
  have hres : ∀ w', Ch [] w5 w' → w'.heap[w1.heap.size]? = some (.cells #[.bool false] 4 (0, 0)) := fun w' hc => (hc25.trans hc (by simp)).at_ h22 (by simp)
  have hNH : ∀ w', Ch [] w5 w' → NH w' (PT w3.heap.size) := fun w' hc => .inr ⟨_, rfl, (hc45.trans hc (by simp)).at_ h44 (by simp)⟩
  have hro5 : ∀ w', Ch [] w5 w' → RL w' w.heap.size (.slice A' o.ls.length c) o.ls := fun w' hc => hro.ch (hc05.trans hc (by simp))
  have hsl : ∀ w', Ch [] w5 w' → Rd w' w'.heap.size 1 (.slice (some ⟨w4.heap.size, 0, none⟩) 2 2) 2 [.pointer none, PT w3.heap.size] := fun w' hc => Own.rd (Own.ch ho5 hc (by simp))
  generalize w3.heap.size = bz at *
  generalize w4.heap.size = bs at *
  have hres2 : w1.heap.size < w5.heap.size := by have := lt_of_heap h22; omega
  generalize w1.heap.size = t2 at *
  generalize ht1 : w.heap.size = t1 at *
  rw [len_v el88n]
  intro I hC
  have key : ∀ (d i : Nat) (xm x4 x6 x8 x10 x12 x15 x16 x17 y31 x139 x141 : Value) (w' : World), i + d = 2 → (marksOf xm).Nodup → (∀ x ∈ marksOf xm, w'.heap[x]? = some (.deferred (some [])) ∧ w5.heap.size ≤ x) → Ch [] w5 w' → I [xm, x4, x6, x8, x10, x12, x15, x16, x17, I64 i, y31, x139, x141] w' := by
    intro d
    induction d with
    | zero =>
      intro i xm x4 x6 x8 x10 x12 x15 x16 x17 y31 x139 x141 w6 hi hnd hmk hc6
      refine hC _ _ _ _ _ _ _ _ _ _ _ _ _ _ ?_
      rw [lt_v, decide_eq_false (by omega), br_false, v_eq (build96z w6)]
      refine Go.Fw.bx fun w7 hb7 hc7 hs7 => ?_
      have h77 : w7.heap[w6.heap.size]? = some (.cells #[.slice none 0 0, .slice none 0 0, I64 0] 96 (0, 0)) := hb7
      rw [v_eq (bs97 w7 _)]
      have hc78 := ch_alloc w7 (.cells #[.pointer none, PT w6.heap.size] 42)
      have hb8 := heap_alloc_new w7 (.cells #[.pointer none, PT w6.heap.size] 42)
      generalize hw8 : w7.alloc (.cells #[.pointer none, PT w6.heap.size] 42) = w8 at *
      have ho8 : Own w8 42 1 (.slice (some ⟨w7.heap.size, 0, none⟩) 2 2) 2 [.pointer none, PT w6.heap.size] [w7.heap.size] := Own.fresh (n := 2) hb8 rfl (by simp only [maxLen]; omega)
      have hc68 : Ch [] w6 w8 := hc7.trans hc78 (by simp)
      have hc58 : Ch [] w5 w8 := hc6.trans hc68 (by simp)
      have hmk8 : ∀ x ∈ marksOf xm, w8.heap[x]? = some (.deferred (some [])) ∧ w5.heap.size ≤ x := fun x hx => ⟨hc68.at_ (hmk x hx).1 (by simp), (hmk x hx).2⟩
      have hNW : ∀ w', Ch [] w8 w' → NW w' (PT w6.heap.size) := fun w' hc => .inr ⟨_, rfl, (hc78.trans hc (by simp)).at_ h77 (by simp)⟩
      have hsl8 : ∀ w', Ch [] w8 w' → Rd w' w'.heap.size 1 (.slice (some ⟨w7.heap.size, 0, none⟩) 2 2) 2 [.pointer none, PT w6.heap.size] := fun w' hc => Own.rd (Own.ch ho8 hc (by simp))
      generalize w6.heap.size = bz2 at *
      generalize w7.heap.size = bs2 at *
      rw [len_v el97n]
      intro I1 hC1
      have key1 : ∀ (d j : Nat) (ym y1 y2 y3 y4 y5 y6 y7 y8 : Value) (w' : World), j + d = 2 → (marksOf ym).Nodup → (∀ x ∈ marksOf ym, w'.heap[x]? = some (.deferred (some [])) ∧ w5.heap.size ≤ x) → Ch [] w8 w' → I1 [ym, y1, y2, y3, y4, y5, I64 j, y6, y7, y8] w' := by
        intro d
        induction d with
        | zero =>
          intro j ym y1 y2 y3 y4 y5 y6 y7 y8 w9 hj hnd hmk hc9
          refine hC1 _ _ _ _ _ _ _ _ _ _ _ ?_
          rw [lt_v, decide_eq_false (by omega), br_false]
          have hc59 := hc58.trans hc9 (by simp)
          refine st sc4 (hres w9 hc59) (by simp) rfl fun w10 hb10 hc10 hs10 => ?_
          refine closes_ok _ w10 hnd (fun x hx => hc10.at_ (hmk x hx).1 (by have := (hmk x hx).2; simp; omega)) fun w11 hc11 hs11 => ?_
          rw [ldRs_p sc4 (cells1 (hc11.at_ hb10 (fun hm => by have := (hmk _ hm).2; omega)))]
          have sz05 := hc05.size
          exact k w11 (((hc05.trans hc59 (by simp)).trans hc10 (by have := lt_of_heap h22; simp; omega)).trans hc11 (fun x hx => by have := (hmk x hx).2; right; omega))
        | succ d ih =>
          intro j ym y1 y2 y3 y4 y5 y6 y7 y8 w9 hj hnd hmk hc9
          refine hC1 _ _ _ _ _ _ _ _ _ _ _ ?_
          have hc59 := hc58.trans hc9 (by simp)
          obtain ⟨v, hv, hN⟩ : ∃ v, [Value.pointer none, PT bz2][j]? = some v ∧ ∀ w', Ch [] w8 w' → NW w' v := by
            match j, (show j < 2 by omega) with
            | 0, _ => exact ⟨_, rfl, fun _ _ => .inl rfl⟩
            | 1, _ => exact ⟨_, rfl, hNW⟩
          rw [lt_v, decide_eq_true (by omega), br_true, ixr_v (j := j) el97n sc42n (hsl8 w9 hc9) rfl hv, fa_v fo77_2, ld_v sc3 (cells7 (hop w9 hc59)).2.2.1, fa_v fo77_4, ld_v sc9 (cells7 (hop w9 hc59)).2.2.2.2.1]
          refine m_to (hN w9 hc9) ?_
          rw [x20, x21, fa_v fo77_2, ld_v sc3 (cells7 (hop w9 hc59)).2.2.1]
          refine m_here (hN w9 hc9) ?_
          rw [x20, x21, strVn, nes_v, decide_eq_false (by simp), br_false, nes_v, decide_eq_false (by simp), br_false, br_false, ne2, br_false]
          refine m_place (hN w9 hc9) ?_
          rw [ne2, br_false]
          refine m_changed (hN w9 hc9) fun w10 c1 c2 hic hc10 => ?_
          have hsz9 := hc9.size
          have hsz10 := hc10.size
          have hsz58 := hc58.size
          refine rngC_ (lo := w9.heap.size) (c1 := c1) (c2 := c2) (iv := .slice none 0 0) (l := []) (E := fun _ => False)
            (J := fun i w' => (∀ x ∈ marksOf ym, w'.heap[x]? = some (.deferred (some []))) ∧ Ic w' w9.heap.size w10.heap.size c1 c2 (.slice none 0 0) [] ∧ Ch [] w8 w')
            (by simp) (fun j w' hj => hj.2.1) ?_ ?_ (fun _ _ h => h.elim) (fun _ _ _ _ _ _ _ hx => by simp at hx) ?_ (fun _ _ h => h.elim)
          · intro j wa wb M ⟨j1, j2, j3⟩ hcM hM
            have hml : ∀ x, x ∈ marksOf ym → x < w9.heap.size := fun x hx => lt_of_heap (hmk x hx).1
            exact ⟨fun x hx => hcM.at_ (j1 x hx) (fun hm => by have := hml x hx; rcases hM _ hm with h | h <;> omega), j2.ch hcM (fun x hx => by rcases hM x hx with h | h <;> omega), j3.trans hcM (fun x hx => by rcases hM x hx with h | h <;> (right; omega))⟩
          · intro w11 hc11 hs11
            have hc911 := hc10.trans hc11 (by simp)
            exact ⟨fun x hx => hc911.at_ (hmk x hx).1 (by simp), hic.ch hc11 (by simp), hc9.trans hc911 (by simp)⟩
          · intro wa wb ⟨j1, j2, j3⟩ hd hs hcb
            have hml : ∀ x, x ∈ marksOf ym → x < w9.heap.size := fun x hx => lt_of_heap (hmk x hx).1
            rw [add_v, wrap_i64 (by omega) (by omega)]
            have := ih (j + 1) (addMark w10.heap.size ym) v (strV []) (I64 2) (strV []) (.bool false) (.bool true) (.bool false) (ChV c1 c2) wb (by omega) (by
                rw [marks_add, List.nodup_cons]
                exact ⟨fun hm => by have := hml _ hm; omega, hnd⟩)
              (by
                intro x hx
                rw [marks_add, List.mem_cons] at hx
                rcases hx with rfl | hx
                · exact ⟨hcb.at_ hd (by simp), by omega⟩
                · exact ⟨hcb.at_ (j1 x hx) (by have := hml x hx; simp; omega), (hmk x hx).2⟩)
              (j3.trans hcb (by simp; omega))
            rw [show ((j + 1 : Nat) : Int) = (j : Int) + 1 from by omega] at this
            exact this
      exact key1 2 0 xm undef undef undef undef undef undef undef undef w8 (by omega) hnd hmk8 (Ch.refl _ _)
    | succ d ih =>
      intro i xm x4 x6 x8 x10 x12 x15 x16 x17 y31 x139 x141 w6 hi hnd hmk hc6
      refine hC _ _ _ _ _ _ _ _ _ _ _ _ _ _ ?_
      obtain ⟨v, hv, hN⟩ : ∃ v, [Value.pointer none, PT bz][i]? = some v ∧ ∀ w', Ch [] w5 w' → NH w' v := by
        match i, (show i < 2 by omega) with
        | 0, _ => exact ⟨_, rfl, fun _ _ => .inl rfl⟩
        | 1, _ => exact ⟨_, rfl, hNH⟩
      have hml : ∀ x, x ∈ marksOf xm → x < w6.heap.size := fun x hx => lt_of_heap (hmk x hx).1
      rw [lt_v, decide_eq_true (by omega), br_true, ixr_v (j := i) el88n sc23 (hsl w6 hc6) rfl hv, fa_v fo77_2, ld_v sc3 (cells7 (hop w6 hc6)).2.2.1]
      refine n_at (hN w6 hc6) o.i fun w7 hc7 => ?_
      rw [x20, x21]
      refine Go.Fw.al z36 fun w8 hb8 hc8 hs8 => ?_
      refine stw ag36 hb8 rfl rfl (by simp [Value.oneCell', strV]) fun w9 hb9 hc9 hs9 => ?_
      have hc69 : Ch [] w6 w9 := hc7.trans (hc8.trans hc9 (by simp)) (by simp)
      have hc59 : Ch [] w5 w9 := hc6.trans hc69 (by simp)
      rw [fa_v fo77_3, ld_v sc2 (cells7 (hop w9 hc59)).2.2.2.1]
      refine n_number (hN w9 hc59) fun w10 hc10 => ?_
      rw [x20, x21]
      refine Go.Fw.al z36 fun w11 hb11 hc11 hs11 => ?_
      refine stw ag36 hb11 rfl rfl (by simp [Value.oneCell', strV]) fun w12 hb12 hc12 hs12 => ?_
      have hc612 : Ch [] w6 w12 := hc69.trans (hc10.trans (hc11.trans hc12 (by simp)) (by simp)) (by simp)
      refine seq_ok fun J hJ => ?_
      have hj : ∀ wa, Ch [] w6 wa → J [I64 2] wa := by
        intro wa hca
        refine hJ _ _ ?_
        clear hJ
        have hc5a := hc6.trans hca (by simp)
        rw [fa_v fo77_2, ld_v sc3 (cells7 (hop wa hc5a)).2.2.1]
        refine n_remove (hN wa hc5a) fun wb hcb => ?_
        rw [x20, x21]
        refine Go.Fw.al z36 fun wc hbc hcc hsc => ?_
        refine stw ag36 hbc rfl rfl (by simp [Value.oneCell', strV]) fun wd hbd hcd hsd => ?_
        have hc6d : Ch [] w6 wd := hca.trans (hcb.trans (hcc.trans hcd (by simp)) (by simp)) (by simp)
        have hc5d := hc6.trans hc6d (by simp)
        have hod := hop wd hc5d
        rw [fa_v fo77_2, ld_v sc3 (cells7 hod).2.2.1, fa_v fo77_4, ld_v sc9 (cells7 hod).2.2.2.2.1, fa_v fo77_5, ld_v sc4 (cells7 hod).2.2.2.2.2.1, fa_v fo77_6, ld_v sc4 (cells7 hod).2.2.2.2.2.2]
        refine n_search (hN wd hc5d) ?_
        rw [x30, x31, x32]
        refine n_newwalk (hN wd hc5d) ?_
        rw [x20, x21, br_false, br_false, br_false, nth_zero, ne2, br_false, ne2, br_false, ne2, br_false, nen_v pt42, Option.isSome_none, br_false, fa_v fo77_1, ld_v sc28 (cells7 hod).2.1]
        refine n_add (hN wd hc5d) ?_
        rw [ne2, br_false, fa_v fo77_2, ld_v sc3 (cells7 hod).2.2.1]
        refine n_stifle (hN wd hc5d) ?_
        rw [ne2, br_false]
        refine n_len (hN wd hc5d) ?_
        rw [ne2, br_false]
        refine n_base (hN wd hc5d) ?_
        rw [ne2, br_false]
        refine n_most (hN wd hc5d) ?_
        rw [ne2, br_false]
        refine n_clone (hN wd hc5d) ?_
        rw [nen_v pt23, Option.isSome_none, br_false]
        refine n_all (hN wd hc5d) fun we cc hit hce => ?_
        have hsz6 := hc6.size
        have hsz6d := hc6d.size
        have hsze := hce.size
        refine rng_ (lo := wd.heap.size) (c := cc) (r := .slice none 0 0) (l := []) (by simp) hit (E := fun _ => False)
          (J := fun i w' => (∀ x ∈ marksOf xm, w'.heap[x]? = some (.deferred (some []))) ∧ It w' wd.heap.size we.heap.size cc (.slice none 0 0) [] ∧ Ch [] w5 w')
          (fun j w' hj => hj.2.1) ?_ ?_ (fun _ _ h => h.elim) (fun _ _ _ _ _ _ _ hx => by simp at hx) ?_ (fun _ _ h => h.elim)
        · intro j wx wy M ⟨j1, j2, j3⟩ hcM hM
          exact ⟨fun x hx => hcM.at_ (j1 x hx) (fun hm => by have := hml x hx; rcases hM _ hm with h | h <;> omega), j2.ch hcM (fun x hx => by rcases hM x hx with h | h <;> omega), j3.trans hcM (fun x hx => by rcases hM x hx with h | h <;> (right; omega))⟩
        · intro wx hcx hsx
          have hc6x := (hc6d.trans hce (by simp)).trans hcx (by simp)
          exact ⟨fun x hx => hc6x.at_ (hmk x hx).1 (by simp), hit.ch hcx (by simp), hc6.trans hc6x (by simp)⟩
        · intro wx wy ⟨j1, j2, j3⟩ hd hs hcy
          rw [add_v, wrap_i64 (by omega) (by omega)]
          have := ih (i + 1) (addMark we.heap.size xm) v (.bool false) (.bool false) (I64 2) (I64 2) (.bool false) (.pointer none) (I64 2) (.bool true) (.bool false) (AllV cc) wy (by omega) (by
              rw [marks_add, List.nodup_cons]
              exact ⟨fun hm => by have := hml _ hm; omega, hnd⟩)
            (by
              intro x hx
              rw [marks_add, List.mem_cons] at hx
              rcases hx with rfl | hx
              · exact ⟨hcy.at_ hd (by simp), by omega⟩
              · exact ⟨hcy.at_ (j1 x hx) (by have := hml x hx; simp; omega), (hmk x hx).2⟩)
            (j3.trans hcy (by simp; omega))
          rw [show ((i + 1 : Nat) : Int) = (i : Int) + 1 from by omega] at this
          exact this
      clear hJ
      refine drawn_ok fun wb hcb hsb => ?_
      have hc6b : Ch [] w6 wb := hc612.trans hcb (by simp)
      have hc5b := hc6.trans hc6b (by simp)
      have sz05 := hc05.size
      have hszb := hc5b.size
      refine ⟨fun w' => Ch [] wb w', Ch.refl _ _, ?_⟩
      refine h_ok (x := .pointer (some ⟨t1, 2, none⟩)) (fun w' hw => run_fa fo77_2) ?_
      refine h_ok (x := I64 o.i) (fun w' hw => run_ld sc3 (cells7 (hop w' (hc5b.trans hw (by simp)))).2.2.1) ?_
      refine h_ok (x := opV o (.slice A' o.ls.length c)) (fun w' hw => run_lda (vs := (opCells o (.slice A' o.ls.length c)).toList) ag77 rfl (block_cells (by simpa using hop w' (hc5b.trans hw (by simp))))) ?_
      have tail : ∀ wt t18, Ch [] wb wt → wt.heap[t18]? = some (.cells #[strV [], .int .i64 0] 36 (0, 0)) → wb.heap.size ≤ t18 →
          S.call Try.prog 36 [v, I64 o.i, hlV o.line] (fun t123 w => (Ch [] wb w) ∧ (S.h Try.prog (fun w' => Ch [] wb w') (Instr.extract t123 0) (fun t124 w => S.h Try.prog (fun w' => Ch [] wb w') (Instr.extract t123 1) (fun t125 w => S.u Try.prog (Instr.storeAt 36 (PT t18) t124) (fun w => (Ch [] wb w) ∧ (J [t125] w)) w) w) w)) wt := by
        intro wt t18 hct h18 hbt
        refine n_replace (hN wt (hc5b.trans hct (by simp))) fun wc hcc => ?_
        have hcbc := hct.trans hcc (by simp)
        refine ⟨hcbc, ?_⟩
        refine h_ok (x := hlV ([], 0)) (fun w' hw => rfl) ?_
        refine h_ok (x := I64 2) (fun w' hw => rfl) ?_
        refine stw ag36 (hcc.at_ h18 (by simp)) rfl rfl (by simp [Value.oneCell', strV]) fun wd hbd hcd hsd => ?_
        have hcbd : Ch [] wb wd := hcbc.trans hcd (by simp; omega)
        exact ⟨hcbd, hj wd (hc6b.trans hcbd (by simp))⟩
      refine ⟨?_, ?_⟩
      · refine line_ (hro5 wb hc5b) (by omega) fun wc hcc => ⟨hcc, ?_, ?_⟩
        · refine n_replace (hN wc (hc5b.trans hcc (by simp))) fun wd hcd => ?_
          have hcbd := hcc.trans hcd (by simp)
          refine ⟨hcbd, ?_⟩
          refine h_ok (x := hlV ([], 0)) (fun w' hw => rfl) ?_
          refine h_ok (x := I64 2) (fun w' hw => rfl) ?_
          refine Go.Fw.al z36 fun we hbe hce hse => ⟨hcbd.trans hce (by simp), ?_⟩
          refine stw ag36 hbe rfl rfl (by simp [Value.oneCell', strV]) fun wf hbf hcf hsf => ?_
          have hcbf : Ch [] wb wf := hcbd.trans (hce.trans hcf (by simp)) (by simp)
          exact ⟨hcbf, hj wf (hc6b.trans hcbf (by simp))⟩
        · refine Go.Fw.al z36 fun we hbe hce hse => ⟨hcc.trans hce (by simp), ?_⟩
          exact tail we _ (hcc.trans hce (by simp)) hbe hcc.size
      · refine Go.Fw.al z36 fun wc hbc hcc hsc => ⟨hcc, ?_⟩
        refine line_ (hro5 wc (hc5b.trans hcc (by simp))) (by omega) fun wd hcd => ⟨hcc.trans hcd (by simp), ?_⟩
        exact tail wd _ (hcc.trans hcd (by simp)) (hcd.at_ hbc (by simp)) (Nat.le_refl _)
  exact key 2 0 undef undef undef undef undef undef undef undef undef undef undef undef w5 (by omega) (by simp [marksOf, marksL, undef]) (by simp [marksOf, marksL, undef]) (Ch.refl _ _)
end
end Go.Proofs.Ytbhgindbdojmmaa
