import Derived.Test.YthpbiliajcameaaD7
set_option linter.unusedVariables false
set_option maxRecDepth 4000
namespace Go.Proofs.Ythpbiliajcameaa
open Go Go.Fw Go.Proofs Go.RowKit
/-! ### The script -/
abbrev OpT := Int × Value × Bs
def flatO : List OpT → List Value
  | [] => []
  | x :: r => I64 x.1 :: x.2.1 :: flatO r
theorem flatO_length (l : List OpT) : (flatO l).length = l.length * 2 := by
  induction l with
  | nil => rfl
  | cons x r ih => simp only [flatO, List.length_cons, ih]; omega
theorem flatO_el : ∀ {l : List OpT} {i : Nat} {x : OpT}, l[i]? = some x → ((flatO l).drop (i * 2)).take 2 = [I64 x.1, x.2.1]
  | [], i, x, h => by simp at h
  | y :: r, 0, x, h => by simp at h; subst h; rfl
  | y :: r, i + 1, x, h => by
    have e : (i + 1) * 2 = i * 2 + 1 + 1 := by omega
    rw [e]
    simp only [flatO, List.drop_succ_cons]
    exact flatO_el (by simpa using h)
structure OpL (w : World) (B : Nat) (v : Value) (l : List OpT) : Prop where
  rd : Rd w B 2 v l.length (flatO l)
  each : ∀ x, x ∈ l → RB w B x.2.1 x.2.2
theorem OpL.ch {w w' : World} {B : Nat} {v : Value} {l : List OpT} (h : OpL w B v l) (hc : Ch [] w w') : OpL w' B v l := ⟨h.rd.ch hc (by simp), fun x hx => Rd.ch (h.each x hx) hc (by simp)⟩
def bsum : List OpT → Nat
  | [] => 0
  | x :: r => x.2.2.length + bsum r
theorem bsum_append (a b : List OpT) : bsum (a ++ b) = bsum a + bsum b := by
  induction a with
  | nil => simp [bsum]
  | cons m r ih => simp [bsum, ih, Nat.add_assoc]
theorem bsum_take_succ {l : List OpT} {i : Nat} {x : OpT} (h : l[i]? = some x) : bsum (l.take (i + 1)) = bsum (l.take i) + x.2.2.length := by
  obtain ⟨hi, rfl⟩ := List.getElem?_eq_some_iff.1 h
  rw [List.take_succ_eq_append_getElem hi, bsum_append]; simp [bsum]
theorem bsum_take_le (l : List OpT) (i : Nat) : bsum (l.take i) ≤ bsum l := by
  have : bsum l = bsum (l.take i) + bsum (l.drop i) := by
    have h := bsum_append (l.take i) (l.drop i)
    rw [List.take_append_drop] at h
    exact h
  omega
theorem ag51 : aggSz Try.prog 51 = some 2 := by kernel_rfl
theorem z51 : zeroT Try.prog 51 = some (.agg #[.int .i64 0, .slice none 0 0]) := by kernel_rfl
theorem build44z (w : World) : (Instr.build 44 #[]).run Try.prog w = .ok (.agg #[.slice none 0 0, .slice none 0 0, .int .i64 0]) w := by kernel_rfl
theorem build47z (w : World) : (Instr.build 47 #[]).run Try.prog w = .ok (.agg #[.bool false, .slice none 0 0, .bool false, strV []]) w := by kernel_rfl
theorem build49 (w : World) (a b c d : Nat) : (Instr.build 49 #[(0, PT a), (1, PT b), (2, PT c), (3, PT d)]).run Try.prog w = .ok (.agg #[PT a, PT b, PT c, PT d]) w := by kernel_rfl
theorem h_p {P : Program} {s : Sem Value} {K : Value → World → Prop} {w : World} : S.h P (fun w' => w' = w) s K w = S.p P s K w := by
  unfold S.h S.p
  exact propext ⟨fun ⟨x, h, k⟩ => ⟨x, h w rfl, k⟩, fun ⟨x, h, k⟩ => ⟨x, fun w' e => by rw [e]; exact h, k⟩⟩
set_option maxHeartbeats 1000000
section
variable {w : World} {K : Value → World → Prop}
theorem does_ {v : Value} {l : List OpT} (h : OpL w w.heap.size v l) (hsum : bsum l ≤ 1048576) (k : ∀ w', Ch [] w w' → K (.bool true) w') : S.call Try.prog 5 [v] K w := by
  have h0 := h
  obtain ⟨A, c, rfl, hAc1, hAc2, _⟩ := h.rd.form
  have hcm : c ≤ 9223372036854775807 := by simp only [maxLen] at hAc2; omega
  refine F5_link ?_
  unfold F5
  refine newq_ fun w1 hq1 hc1 hs1 => ?_
  refine newr_ fun w2 hr2 hc2 hs2 => ?_
  rw [v_eq (build44z w2)]
  refine Go.Fw.bx fun w3 hb3 hc3 hs3 => ?_
  rw [v_eq (build47z w3)]
  refine Go.Fw.bx fun w4 hb4 hc4 hs4 => ?_
  rw [v_eq (build49 w4 _ _ _ _)]
  refine Go.Fw.bx fun w5 hb5 hc5 hs5 => ?_
  refine begun_ fun w6 hc6 => ?_
  have hc46 : Ch [] w4 w6 := hc5.trans hc6 (by simp)
  have hc36 : Ch [] w3 w6 := hc4.trans hc46 (by simp)
  have hc26 : Ch [] w2 w6 := hc3.trans hc36 (by simp)
  have hc16 : Ch [] w1 w6 := hc2.trans hc26 (by simp)
  have hc06 : Ch [] w w6 := hc1.trans hc16 (by simp)
  have hx6 : w6.heap[w4.heap.size]? = some (.cells #[PT w.heap.size, PT w1.heap.size, PT w2.heap.size, PT w3.heap.size] 49 (0, 0)) := hc6.at_ hb5 (by simp)
  have hG : Good w w6 w4.heap.size w2.heap.size w3.heap.size 0 := by
    refine ⟨w.heap.size, w1.heap.size, [], [], 0, [], false, [], false, [], [w.heap.size], [w1.heap.size], [w2.heap.size], [w3.heap.size], ⟨hx6, hq1.ch hc16 (by simp), hr2.ch hc26 (by simp), ⟨⟨_, _, [], [], [], [], hc36.at_ hb3 (by simp), Own.nil _ _ _, Own.nil _ _ _, rfl, rfl⟩, by simp⟩,
      ⟨⟨_, [], hc46.at_ hb4 (by simp), Own.nil _ _ _, rfl⟩, by simp⟩, ?_, ?_, hc06⟩, ⟨by simp, by simp, by simp, by simp [total], by simp, fun h => by cases h⟩⟩
    · simp
      omega
    · intro x hx
      simp at hx
      omega
  rw [not_v, show (!true) = false from rfl, br_false, nilC_v, fa_v fo49_0, ld_v sc23 (cells4 hx6).1, eqn_v pt23, Option.isNone_some, br_false, nilC_v, fa_v fo49_1, ld_v sc33 (cells4 hx6).2.1, eqn_v pt33, Option.isNone_some, br_false, len_v el40]
  generalize w4.heap.size = xb at *
  generalize w2.heap.size = p at *
  generalize w3.heap.size = s at *
  intro I hC
  have key : ∀ (d i : Nat) (x2 x5 x6 x7 x35 x40 x82 x110 : Value) (w' : World), i + d = l.length → Good w w' xb p s (bsum (l.take i)) → I [x2, x5, x6, x7, I64 i, x35, x40, x82, x110] w' := by
    intro d
    induction d with
    | zero =>
      intro i x2 x5 x6 x7 x35 x40 x82 x110 w7 hi hG7
      refine hC _ _ _ _ _ _ _ _ _ _ ?_
      rw [lt_v, decide_eq_false (by omega), br_false]
      obtain ⟨q, r, ty, ms, run, now, on, last, is, sn, Lq, Lr, Lp, Ls, hP, hI⟩ := hG7
      exact k w7 hP.ch
    | succ d ih =>
      intro i x2 x5 x6 x7 x35 x40 x82 x110 w7 hi hG7
      refine hC _ _ _ _ _ _ _ _ _ _ ?_
      have hlt : i < l.length := by omega
      have hget : l[i]? = some l[i] := List.getElem?_eq_getElem hlt
      have hmem : l[i] ∈ l := List.getElem_mem hlt
      have hch7 : Ch [] w w7 := by
        obtain ⟨q, r, ty, ms, run, now, on, last, is, sn, Lq, Lr, Lp, Ls, hP, hI⟩ := hG7
        exact hP.ch
      have h7 := h0.ch hch7
      have hrb7 := h7.each _ hmem
      have hsucc := bsum_take_succ hget
      have hle := bsum_take_le l (i + 1)
      obtain ⟨⟨n, hv, bs⟩, hxx⟩ : ∃ y, l[i] = y := ⟨_, rfl⟩
      rw [hxx] at hget hrb7 hsucc
      simp only at hrb7 hsucc
      rw [lt_v, decide_eq_true (by omega), br_true, ixa_v (j := i) el40 ag51 h7.rd (by omega) rfl hlt (flatO_el hget)]
      refine Go.Fw.al z51 fun w8 hb8 hc8 hs8 => ?_
      have hone : hv.oneCell' = true := by
        obtain ⟨A', c', rfl, _⟩ := hrb7.form
        rfl
      refine stw (vs := #[I64 n, hv]) ag51 hb8 rfl rfl (by simp [hone]; simp [Value.oneCell']) fun w9 hb9 hc9 hs9 => ?_
      refine drawn_ok fun w10 hc10 hs10 => ?_
      have hc710 : Ch [] w7 w10 := (hc8.trans hc9 (by simp)).trans hc10 (by simp)
      have hG10 : Good w w10 xb p s (bsum (l.take i)) := by
        obtain ⟨q, r, ty, ms, run, now, on, last, is, sn, Lq, Lr, Lp, Ls, hP, hI⟩ := hG7
        exact ⟨_, _, _, _, _, _, _, _, _, _, _, _, _, _, hP.to0 hc710, hI⟩
      rw [ldw_v ag51 (hc10.at_ hb9 (by simp)) rfl]
      refine step_ hG10 (by omega) (Rd.ch hrb7 hc710 (by simp)) (Nat.le_refl _) fun w11 hG11 => ?_
      have hG11' := hG11
      obtain ⟨q, r, ty, ms, run, now, on, last, is, sn, Lq, Lr, Lp, Ls, hP, hI⟩ := hG11
      have a1 := hI.ty_
      have a3 := hI.tot
      obtain ⟨nv, Ln, hsx, _, _⟩ := hP.hs.ex
      refine ⟨fun w' => w' = w11, rfl, ?_⟩
      rw [h_p, not_p, show (!true) = false from rfl, br_false, h_p, nilC_p, h_p, fa_p fo49_0, h_p, ld_p sc23 (cells4 hP.x).1, h_p, nilC_p, h_p, fa_p fo49_2, h_p, ld_p sc42 (cells4 hP.x).2.2.1]
      refine len_ hP.hq (by omega) ⟨rfl, ?_⟩
      refine plen_ hP.hp (by omega) ⟨rfl, ?_⟩
      rw [h_p, ne_p, decide_eq_false (by simp), br_false, h_p, nilC_p, h_p, fa_p fo49_0, h_p, ld_p sc23 (cells4 hP.x).1, h_p, nilC_p, h_p, fa_p fo49_2, h_p, ld_p sc42 (cells4 hP.x).2.2.1]
      refine depth_ hP.hq ⟨rfl, ?_⟩
      refine pdepth_ hP.hp ⟨rfl, ?_⟩
      rw [h_p, ne_p, decide_eq_false (by simp), br_false, h_p, nilC_p, h_p, fa_p fo49_1, h_p, ld_p sc33 (cells4 hP.x).2.1, h_p, nilC_p, h_p, fa_p fo49_3, h_p, ld_p sc45 (cells4 hP.x).2.2.2, h_p, nilC_p, h_p, fa_p fo47_0, h_p, ld_p sc4 (cells4 hsx).1]
      refine on_ hP.hr ⟨rfl, ?_⟩
      rw [h_p, neb_p bt4, show (!(on == on)) = false from by simp, br_false, nilC_v, fa_v fo49_1, ld_v sc33 (cells4 hP.x).2.1]
      refine last_ hP.hr fun w12 hc12 hs12 => ?_
      have hP12 := hP.to0 hc12
      have hsx12 := hc12.at_ hsx (by simp)
      rw [x20, x21, nilC_v, fa_v fo49_3, ld_v sc45 (cells4 hP12.x).2.2.2, nilC_v, fa_v fo47_3, ld_v sc9 (cells4 hsx12).2.2.2, nes_v, decide_eq_false (by simp), br_false, nilC_v, fa_v fo49_3, ld_v sc45 (cells4 hP12.x).2.2.2, nilC_v, fa_v fo47_2, ld_v sc4 (cells4 hsx12).2.2.1, neb_v bt4, show (!(is == is)) = false from by simp, br_false, add_v, wrap_i64 (by omega) (by omega)]
      have := ih (i + 1) x2 (PT w7.heap.size) (strV last) (.bool is) (.bool true) (.bool true) (.bool false) (.bool false) w12 (by omega) ⟨_, _, _, _, _, _, _, _, _, _, _, _, _, _, hP12, by rw [hsucc]; exact hI⟩
      rw [show ((i + 1 : Nat) : Int) = (i : Int) + 1 from by omega] at this
      exact this
  exact key l.length 0 _ undef undef undef undef undef undef undef w6 (by omega) (by simpa [bsum] using hG)
end
end Go.Proofs.Ythpbiliajcameaa
