import Derived.Test.YtjaoeipfiodnfaaDoorBR
set_option linter.unusedVariables false
set_option maxRecDepth 4000
namespace Go.Proofs.YtjaoeipfiodnfaaDoor
open Go Go.Fw Go.Proofs Go.RowKit
/-! ### TparmNone: no Cap, no Vars; the walk -/
theorem bd53z (w : World) : (Instr.build 53 #[]).run Tryd.prog w = .ok (.agg #[strV [], .slice none 0 0, I64 0, I64 0, .bool false]) w := by kernel_rfl
theorem bd61z (w : World) : (Instr.build 61 #[]).run Tryd.prog w = .ok (.agg #[.map none]) w := by kernel_rfl
theorem bs54 (w : World) (a : Nat) : (Instr.buildSlice 54 2 #[(0, .pointer none), (1, PT a)]).run Tryd.prog w = .ok (.slice (some ⟨w.heap.size, 0, none⟩) 2 2) (w.alloc (.cells #[.pointer none, PT a] 27)) := by kernel_rfl
theorem bs62 (w : World) (a : Nat) : (Instr.buildSlice 62 2 #[(0, .pointer none), (1, PT a)]).run Tryd.prog w = .ok (.slice (some ⟨w.heap.size, 0, none⟩) 2 2) (w.alloc (.cells #[.pointer none, PT a] 30)) := by kernel_rfl
/-- No Cap: nil, or one that New did not make. -/
def NoCap (w : World) (v : Value) : Prop := v = .pointer none ∨ ∃ b, v = PT b ∧ w.heap[b]? = some (.cells #[strV [], .slice none 0 0, I64 0, I64 0, .bool false] 53 (0, 0))
theorem NoCap.ch {w w' : World} {v : Value} (h : NoCap w v) (hc : Ch [] w w') : NoCap w' v := by
  rcases h with h | ⟨b, h1, h2⟩
  · exact .inl h
  · exact .inr ⟨b, h1, hc.at_ h2 (by simp)⟩
/-- No Vars: nil, or ones without a map. -/
def NoVars (w : World) (v : Value) : Prop := v = .pointer none ∨ ∃ b, v = PT b ∧ w.heap[b]? = some (.cells #[.map none] 61 (0, 0))
theorem NoVars.ch {w w' : World} {v : Value} (h : NoVars w v) (hc : Ch [] w w') : NoVars w' v := by
  rcases h with h | ⟨b, h1, h2⟩
  · exact .inl h
  · exact .inr ⟨b, h1, hc.at_ h2 (by simp)⟩
section
variable {w : World} {K : Value → World → Prop}
theorem cnoneN_ {v : Value} (h : NoCap w v) (k : K (.bool true) w) : S.call Tryd.prog 46 [v] K w := by
  refine F46_link ?_
  unfold F46
  rcases h with rfl | ⟨b, rfl, h1⟩
  · rw [eqn_v pt27, show (none : Option Addr).isNone = true from rfl, br_true]
    exact k
  · rw [eqn_v pt27, show (some (⟨b, 0, none⟩ : Addr)).isNone = false from rfl, br_false, nilC_v, fa_v fo53_4, ld_v sc4 (cells5 h1).2.2.2.2, not_v]
    exact k
theorem checkN_ {v : Value} (h : NoCap w v) (k : K (.tuple #[I64 0, I64 2]) w) : S.call Tryd.prog 22 [v] K w := by
  refine F22_link ?_
  unfold F22
  refine cnoneN_ h ?_
  rw [br_true]
  exact k
theorem usedN_ {v : Value} (h : NoCap w v) (k : K (I64 0) w) : S.call Tryd.prog 23 [v] K w := by
  refine F23_link ?_
  unfold F23
  refine cnoneN_ h ?_
  rw [br_true]
  exact k
theorem runNC_ {v a b : Value} (h : NoCap w v) (k : K (.tuple #[strV [], I64 0, I64 2]) w) : S.call Tryd.prog 12 [v, a, b] K w := by
  refine F12_link ?_
  unfold F12
  refine checkN_ h ?_
  rw [x20, x21, ne_v, decide_eq_true (by omega), br_true]
  exact k
theorem vnoneN_ {v : Value} (h : NoVars w v) (k : K (.bool true) w) : S.call Tryd.prog 29 [v] K w := by
  refine F29_link ?_
  unfold F29
  rcases h with rfl | ⟨b, rfl, h1⟩
  · rw [eqn_v pt30, show (none : Option Addr).isNone = true from rfl, br_true]
    exact k
  · rw [eqn_v pt30, show (some (⟨b, 0, none⟩ : Addr)).isNone = false from rfl, br_false, nilC_v, fa_v fo61_0, ld_v sc59 (cells1 h1)]
    rw [v_eq (run_eql_of (P := Tryd.prog) (w := w) (t := 59) (x := .map none) (y := .map none) (r := true) (.tmp 9) (.const (.map none)) rfl rfl (fun d => by
      unfold Op.equalIn
      rw [Sem.run_bind, run_underlying Tryd.underlying59]
      rfl))]
    exact k
theorem getN_ {v c : Value} (h : NoVars w v) (k : ∀ w', Ch [] w w' → K (parV {}) w') : S.call Tryd.prog 25 [v, c] K w := by
  refine F25_link ?_
  unfold F25
  refine al z36 fun w1 hb1 hc1 hs1 => ?_
  refine vnoneN_ (h.ch hc1) ?_
  rw [br_true, v_eq (bd36 _)]
  refine stw (vs := (parC {}).toArray) ag36 hb1 rfl rfl (by simpa using one_par (p := {})) fun w2 hb2 hc2 hs2 => ?_
  rw [ldR_p ag36 hb2 rfl]
  exact k w2 ((hc1.nil.trans hc2 (fun x hx => .inl hx)).mono (by simp))
theorem setN_ {v c : Value} {p : Par} (h : NoVars w v) (k : ∀ w', Ch [] w w' → K (I64 2) w') : S.call Tryd.prog 20 [v, c, parV p] K w := by
  refine F20_link ?_
  unfold F20
  refine Go.Fw.bx fun w1 hb1 hc1 hs1 => ?_
  refine vnoneN_ (h.ch hc1) ?_
  rw [br_true]
  exact k w1 hc1
theorem cloneN_ {v : Value} (h : NoVars w v) (k : K (.pointer none) w) : S.call Tryd.prog 19 [v] K w := by
  refine F19_link ?_
  unfold F19
  refine vnoneN_ h ?_
  rw [br_true]
  exact k
theorem runNV_ {b : Nat} {s : List UInt8} {L : List Nat} {v a : Value} (hc : CapAt w b s L) (hv : NoVars w v)
    (k1 : ∀ w', (capE s).2.2 ≠ 0 → Ch [] w w' → K (.tuple #[strV [], I64 (capE s).2.1, I64 (capE s).2.2]) w')
    (k2 : ∀ w', (capE s).2.2 = 0 → Ch [] w w' → K (.tuple #[strV [], I64 0, I64 2]) w') : S.call Tryd.prog 12 [PT b, v, a] K w := by
  refine F12_link ?_
  unfold F12
  refine check_ hc fun w1 hc1 => ?_
  rw [x20, x21, ne_v]
  refine br_dec _ _ _ (fun he => ?_) (fun he => ?_)
  · exact k1 w1 he hc1
  · refine vnoneN_ (hv.ch hc1) ?_
    rw [br_true]
    exact k2 w1 (by simpa using he) hc1
theorem two_caps {b : Nat} (k : ∀ v w', Rd w' w'.heap.size 1 v 2 [.pointer none, PT b] → Ch [] w w' → K v w') : S.v Tryd.prog (Instr.buildSlice 54 2 #[(0, .pointer none), (1, PT b)]) K w := by
  refine v_ok (bs54 ..) ?_
  have hn := heap_alloc_new w (.cells #[.pointer none, PT b] 27)
  have hown : Own (w.alloc (.cells #[.pointer none, PT b] 27)) 27 1 (.slice (some ⟨w.heap.size, 0, none⟩) 2 2) 2 [.pointer none, PT b] [w.heap.size] := Own.fresh hn rfl (by simp only [maxLen]; omega)
  exact k _ _ hown.rd (ch_alloc w _)
theorem two_vars {b : Nat} (k : ∀ v w', Rd w' w'.heap.size 1 v 2 [.pointer none, PT b] → Ch [] w w' → K v w') : S.v Tryd.prog (Instr.buildSlice 62 2 #[(0, .pointer none), (1, PT b)]) K w := by
  refine v_ok (bs62 ..) ?_
  have hn := heap_alloc_new w (.cells #[.pointer none, PT b] 30)
  have hown : Own (w.alloc (.cells #[.pointer none, PT b] 30)) 30 1 (.slice (some ⟨w.heap.size, 0, none⟩) 2 2) 2 [.pointer none, PT b] [w.heap.size] := Own.fresh hn rfl (by simp only [maxLen]; omega)
  exact k _ _ hown.rd (ch_alloc w _)
set_option maxHeartbeats 2000000
theorem none_ {s : List UInt8} {c : Value} {p : Par} (hg : Gnd w) (k : ∀ w', Ch [] w w' → K (.bool true) w') : S.call Tryd.prog 8 [strV s, c, parV p] K w := by
  refine F8_link ?_
  unfold F8
  refine Go.Fw.bx fun w0 hb0 hc0 hs0 => ?_
  generalize hg5 : w.heap.size = t5 at *
  refine begun_ (hg.ch hc0 (by simp)) fun w1 hc1 => ?_
  rw [not_v, show (!true) = false from rfl, br_false, v_eq (bd53z _)]
  refine Go.Fw.bx fun w2 hb2 hc2 hs2 => ?_
  generalize hgb : w1.heap.size = b at *
  refine two_caps fun va w3 hva hc3 => ?_
  rw [lenr_v el54 hva]
  rw [show (Value.string { data := #[] }) = strV [] from rfl]
  have hc03 : Ch [] w w3 := ((hc0.trans hc1 (by simp)).trans hc2 (by simp)).trans hc3 (by simp)
  have hb3 := ((hc1.trans hc2 (by simp)).trans hc3 (by simp)).at_ hb0 (by simp)
  have hcap : ∀ (i : Nat) (u : Value), ([.pointer none, PT b] : List Value)[i]? = some u → NoCap w3 u := by
    intro i u hu
    rcases i with _ | _ | i
    · exact .inl (by simpa using hu.symm)
    · exact .inr ⟨b, by simpa using hu.symm, hc3.at_ hb2 (by simp)⟩
    · simp at hu
  -- the second half
  have half : ∀ (w4 : World) (x6 : Value), Ch [] w3 w4 → S.call Tryd.prog 24 [strV s] (fun t71 w => K t71 w) w4 → True := fun _ _ _ _ => trivial
  clear half
  intro I hC
  have key : ∀ (d i : Nat) (x6 x8 x9 x10 x11 x12 x13 x28 x67 : Value) (w4 : World), i + d = 2 → Ch [] w3 w4 → I [x6, x8, x9, x10, x11, x12, x13, I64 i, x28, x67] w4 := by
    intro d
    induction d with
    | succ d ih =>
      intro i x6 x8 x9 x10 x11 x12 x13 x28 x67 w4 hi hch
      refine hC _ _ _ _ _ _ _ _ _ _ _ ?_
      obtain ⟨u, hu⟩ : ∃ u, ([.pointer none, PT b] : List Value)[i]? = some u := ⟨_, List.getElem?_eq_getElem (by simp; omega)⟩
      have hnc := (hcap i u hu).ch hch
      rw [lt_v, decide_eq_true (by omega), br_true, ixr_v el54 sc27 (hva.ch hch (by simp)) rfl hu]
      refine checkN_ hnc ?_
      rw [x20, x21]
      refine seq_ok fun J hJ => ?_
      have hJ' : ∀ w5, Ch [] w4 w5 → J [strV [], I64 0, I64 2] w5 := by
        intro w5 hc5
        refine hJ _ _ ?_
        simp only [nth_zero, nth_succ]
        rw [ne_v, decide_eq_false (by omega), br_false, ne_v, decide_eq_false (by omega), br_false, nes_v, decide_eq_false (by simp), br_false, ne_v, decide_eq_false (by omega), br_false, ne_v, decide_eq_false (by omega), br_false]
        refine usedN_ (hnc.ch hc5) ?_
        rw [ne_v, decide_eq_false (by omega), br_false, add_v, wrap_i64 (by omega) (by omega), show (i : Int) + 1 = ((i + 1 : Nat) : Int) from by omega]
        exact ih (i + 1) _ _ _ _ _ _ _ _ _ w5 (by omega) (hch.trans hc5 (by simp))
      clear hJ
      refine drawn_ok fun w5 hc5 hs5 => ?_
      have hb5 := (hch.trans hc5 (by simp)).at_ hb3 (by simp)
      refine ⟨fun w' => w'.heap[t5]? = some (.cells (parV p).cells 36 (0, 0)), hb5, ?_⟩
      refine h_ok (x := parV p) (fun w' hw => run_lda (vs := parC p) ag36 rfl (block_cells hw)) ?_
      have hnc5 := hnc.ch hc5
      have fin : ∀ w6, Ch [] w5 w6 → S.h Tryd.prog (fun w' => w'.heap[t5]? = some (.cells (parV p).cells 36 (0, 0))) (Instr.extract (.tuple #[strV [], I64 0, I64 2]) 0) (fun t42 w => S.h Tryd.prog (fun w' => w'.heap[t5]? = some (.cells (parV p).cells 36 (0, 0))) (Instr.extract (.tuple #[strV [], I64 0, I64 2]) 1) (fun t43 w => S.h Tryd.prog (fun w' => w'.heap[t5]? = some (.cells (parV p).cells 36 (0, 0))) (Instr.extract (.tuple #[strV [], I64 0, I64 2]) 2) (fun t44 w => J [t42, t43, t44] w) w) w) w6 := fun w6 hc6 =>
        h_ok (x := strV []) (fun w' _ => rfl) (h_ok (x := I64 0) (fun w' _ => rfl) (h_ok (x := I64 2) (fun w' _ => rfl) (hJ' w6 (hc5.trans hc6 (by simp)))))
      refine ⟨?_, ?_⟩
      · refine newvars_ fun w6 bv mm hv6 hc6 hbv hmm => ?_
        refine ⟨hc6.at_ hb5 (by simp), ?_⟩
        refine one_ps fun vs w7 hrd hc7 => ?_
        refine runNC_ ((hnc5.ch hc6).ch hc7) ?_
        exact ⟨(hc6.trans hc7 (by simp)).at_ hb5 (by simp), fin w7 (hc6.trans hc7 (by simp))⟩
      · refine one_ps fun vs w6 hrd hc6 => ?_
        refine newvars_ fun w7 bv mm hv7 hc7 hbv hmm => ?_
        refine ⟨(hc6.trans hc7 (by simp)).at_ hb5 (by simp), ?_⟩
        refine runNC_ ((hnc5.ch hc6).ch hc7) ?_
        exact ⟨(hc6.trans hc7 (by simp)).at_ hb5 (by simp), fin w7 (hc6.trans hc7 (by simp))⟩
    | zero =>
      intro i x6 x8 x9 x10 x11 x12 x13 x28 x67 w4 hi hch
      refine hC _ _ _ _ _ _ _ _ _ _ _ ?_
      rw [lt_v, decide_eq_false (by omega), br_false]
      clear hC
      refine rcheck_ fun w5 hc5 => ?_
      rw [x20, x21, v_eq (bd61z _)]
      refine Go.Fw.bx fun w6 hb6 hc6 hs6 => ?_
      generalize hgb2 : w5.heap.size = b2 at *
      refine two_vars fun vb w7 hvb hc7 => ?_
      rw [lenr_v el62 hvb]
      have hc37 : Ch [] w3 w7 := ((hch.trans hc5 (by simp)).trans hc6 (by simp)).trans hc7 (by simp)
      have hb7 := hc37.at_ hb3 (by simp)
      have hvars : ∀ (i : Nat) (u : Value), ([.pointer none, PT b2] : List Value)[i]? = some u → NoVars w7 u := by
        intro i u hu
        rcases i with _ | _ | i
        · exact .inl (by simpa using hu.symm)
        · exact .inr ⟨b2, by simpa using hu.symm, hc7.at_ hb6 (by simp)⟩
        · simp at hu
      intro I hC
      have key2 : ∀ (d i : Nat) (x6 x17 x18 x19 x20 x79 x98 x134 : Value) (w8 : World), i + d = 2 → Ch [] w7 w8 → I [x6, x17, x18, x19, x20, I64 i, x79, x98, x134] w8 := by
        intro d
        induction d with
        | succ d ih =>
          intro i x6 x17 x18 x19 x20 x79 x98 x134 w8 hi hch8
          refine hC _ _ _ _ _ _ _ _ _ _ ?_
          obtain ⟨u, hu⟩ : ∃ u, ([.pointer none, PT b2] : List Value)[i]? = some u := ⟨_, List.getElem?_eq_getElem (by simp; omega)⟩
          have hnv := (hvars i u hu).ch hch8
          rw [lt_v, decide_eq_true (by omega), br_true, ixr_v el62 sc30 (hvb.ch hch8 (by simp)) rfl hu]
          refine getN_ hnv fun w9 hc9 => ?_
          rw [v_eq (bd36 _), v_eq (run_ne36 ..), show (!parB {} {}) = false from rfl, br_false]
          have hb9 := (hch8.trans hc9 (by simp)).at_ hb7 (by simp)
          rw [ldw_v ag36 hb9 rfl]
          refine setN_ (hnv.ch hc9) fun w10 hc10 => ?_
          have hc810 := hc9.trans hc10 (by simp)
          rw [ne_v, decide_eq_false (by omega), br_false]
          refine cloneN_ (hnv.ch hc810) ?_
          rw [nen_v pt30, show (none : Option Addr).isSome = false from rfl, br_false]
          refine new_ fun w11 L hcap11 hc11 hL => ?_
          have hc811 := hc810.trans hc11 (by simp)
          refine runNV_ hcap11 (hnv.ch hc811) (fun w12 he hc12 => ?_) (fun w12 he hc12 => ?_)
          · rw [x30, x31, x32, nes_v, decide_eq_false (by simp), br_false, ne_v, decide_eq_true he, br_true, ne_v, decide_eq_false (by simp), br_false, ne_v, decide_eq_false (by simp), br_false, eq_v, decide_eq_false he, br_false, add_v, wrap_i64 (by omega) (by omega), show (i : Int) + 1 = ((i + 1 : Nat) : Int) from by omega]
            exact ih (i + 1) _ _ _ _ _ _ _ _ w12 (by omega) ((hch8.trans hc811 (by simp)).trans hc12 (by simp))
          · rw [x30, x31, x32, nes_v, decide_eq_false (by simp), br_false, ne_v, decide_eq_false (by simpa using he), br_false, eq_v, decide_eq_true he, br_true, ne_v, decide_eq_false (by simp), br_false, ne_v, decide_eq_false (by simp), br_false, add_v, wrap_i64 (by omega) (by omega), show (i : Int) + 1 = ((i + 1 : Nat) : Int) from by omega]
            exact ih (i + 1) _ _ _ _ _ _ _ _ w12 (by omega) ((hch8.trans hc811 (by simp)).trans hc12 (by simp))
        | zero =>
          intro i x6 x17 x18 x19 x20 x79 x98 x134 w8 hi hch8
          refine hC _ _ _ _ _ _ _ _ _ _ ?_
          rw [lt_v, decide_eq_false (by omega), br_false]
          exact k w8 ((hc03.trans hc37 (by simp)).trans hch8 (by simp))
      exact key2 2 0 _ _ _ _ _ _ _ _ w7 (by omega) (Ch.refl _ _)
  exact key 2 0 _ _ _ _ _ _ _ _ _ w3 (by omega) (Ch.refl _ _)
end
end Go.Proofs.YtjaoeipfiodnfaaDoor
