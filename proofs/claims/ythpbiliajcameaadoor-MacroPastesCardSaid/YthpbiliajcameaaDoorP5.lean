import Derived.Test.YthpbiliajcameaaDoorP4
set_option linter.unusedVariables false
set_option maxRecDepth 4000
namespace Go.Proofs.YthpbiliajcameaaDoor
open Go Go.Fw Go.Proofs Go.RowKit
section
variable {w : World} {K : Value → World → Prop}
theorem ixr_p {t e s B n j : Nat} {v : Value} {xs : List Value} {u : Value} {k : IntKind} {i : Int} (ht : elT Tryd.prog t = some (e, 1)) (hs : scal Tryd.prog s = true) (h : Rd w B 1 v n xs) (hi : i = j) (hj : xs[j]? = some u) :
    S.p Tryd.prog (Instr.indexAt t v (.int k i)) (fun p w => S.p Tryd.prog (Instr.loadAt s p) K w) w = K u w := by
  subst hi
  obtain ⟨A, c, rfl, h2, h3, _⟩ := h.form
  obtain ⟨g, off, rfl, hcell⟩ := h.at_ hj
  have hlt := (List.getElem?_eq_some_iff.1 hj).1
  have hl := h.len
  rw [ia_p ht (by omega) (by omega), Int.toNat_natCast, Nat.mul_one, ld_p hs hcell]
set_option maxHeartbeats 1000000
theorem pastes_ {B : Nat} {v : Value} {xs : List UInt8} {m0 : Int} (hr : RB w B v xs) (hB : B ≤ w.heap.size) (hT : Lib.Utf8Tabs 1 2 w) (hm : w.cell? ⟨0, 0, none⟩ = some (.int .i64 m0)) (k : ∀ w', Ch [] w w' → K (.bool true) w') : S.call Tryd.prog 3 [v] K w := by
  refine F3_link ?_
  unfold F3
  refine newp_ fun w1 hp1 hc1 hs1 => ?_
  rw [v_eq (b27 w1)]
  refine Go.Fw.bx fun w2 hb2 hc2 hs2 => ?_
  refine begun_ fun w3 hc3 => ?_
  have hltT := Tabs.lt hT
  obtain ⟨A, c, rfl, hcc1, hcc2, _⟩ := hr.form
  have hbl : xs.length ≤ 9223372036854775807 := by simp only [maxLen] at hcc2; omega
  rw [not_v, show (!true) = false from rfl, br_false, eqn_v pt23, Option.isNone_some, br_false, len_v el22]
  have hr' : RB w B (.slice A xs.length c) xs := hr
  have hc03 : Ch [] w w3 := (hc1.trans hc2 (by simp)).trans hc3 (by simp)
  have hp3 : PAt w3 w.heap.size [] false [w.heap.size] := (hp1.ch hc2 (by simp)).ch hc3 (by simp)
  have hq3 : RPt w3 w1.heap.size [] false [w1.heap.size] := by
    have : RPt w2 w1.heap.size [] false [w1.heap.size] := ⟨⟨_, [], 0, [], hb2, Own.nil _ _ _, rfl, rfl, Nat.le_refl _, by simp, fun _ => ⟨rfl, by simp⟩⟩, by simp⟩
    exact this.ch hc3 (by simp)
  have hdis : ∀ x, x ∈ [w.heap.size] → x ∉ [w1.heap.size] := by
    intro x hx hy
    simp at hx hy
    omega
  have hfa : ∀ x, x ∈ [w.heap.size] → w.heap.size ≤ x := by simp
  have hfb : ∀ x, x ∈ [w1.heap.size] → w.heap.size ≤ x := by simp; omega
  generalize w1.heap.size = b2 at *
  generalize [w.heap.size] = La at *
  generalize [b2] = Lb at *
  generalize hb1 : w.heap.size = b1 at *
  intro I hC
  have key : ∀ (d i : Nat) (bs : List UInt8) (done : Bool) (x2 x6 x7 x8 x9 x10 x26 x48 : Value) (La Lb : List Nat) (w' : World), i + d = xs.length → bs.length ≤ 16384 → PAt w' b1 bs done La → RPt w' b2 bs done Lb → (∀ x, x ∈ La → x ∉ Lb) → (∀ x, x ∈ La → w.heap.size ≤ x) → (∀ x, x ∈ Lb → w.heap.size ≤ x) → Ch [] w w' → I [x2, x6, x7, x8, x9, x10, I64 i, x26, x48] w' := by
    intro d
    induction d with
    | succ d ih =>
      intro i bs done x2 x6 x7 x8 x9 x10 x26 x48 La Lb w' hi hbs hp hq hdis hfa hfb hc
      refine hC _ _ _ _ _ _ _ _ _ _ ?_
      have hlt : i < xs.length := by omega
      have hrw : Rd w' B 1 (.slice A xs.length c) xs.length (bytesV xs) := Rd.ch hr' hc (by simp)
      have hget : (bytesV xs)[i]? = some (byteV xs[i]) := by simp [bytesV, hlt]
      rw [lt_v, decide_eq_true (by omega), br_true, ixr_v (j := i) el22 sc5 hrw rfl hget]
      refine put_p hp hbs fun w4 La4 hp4 hc4 hl4 => ?_
      rw [x20, x21]
      have hq4 := hq.ch hc4 (fun x hx hy => hdis x hy hx)
      have hltb := hq.lt
      refine rput_p hq4 fun w5 Lb5 hq5 hc5 hl5 => ?_
      have hdis4 : ∀ x, x ∈ La4 → x ∉ Lb := fun x hx hy => by
        rcases hl4 x hx with h | h
        · exact hdis x h hy
        · have := hltb x hy; omega
      have hlta4 := hp4.lt
      have hp5 := hp4.ch hc5 hdis4
      have s4 := hc4.size
      have s0 := hc.size
      rw [x20, x21, neb_v bt4, beq_self_eq_true, Bool.not_true, br_false, ne_same, br_false, add_v, wrap_i64 (by omega) (by omega)]
      have := ih (i + 1) (putF bs done xs[i]).2.2.1 (putF bs done xs[i]).2.2.2 x2 (byteV xs[i]) (.bool (putF bs done xs[i]).1) (I64 (putF bs done xs[i]).2.1) (.bool (putF bs done xs[i]).1) (I64 (putF bs done xs[i]).2.1) (.bool true) (.bool false) La4 Lb5 w5 (by omega) (putF_len bs done _ hbs) hp5 hq5 (fun x hx hy => by
        rcases hl5 x hy with h | h
        · exact hdis4 x hx h
        · have := hlta4 x hx; omega) (fun x hx => by
        rcases hl4 x hx with h | h
        · exact hfa x h
        · omega) (fun x hx => by
        rcases hl5 x hx with h | h
        · exact hfb x h
        · omega) ((hc.trans hc4 (fun x hx => .inr (hfa x hx))).trans hc5 (fun x hx => .inr (hfb x hx)))
      rw [show ((i + 1 : Nat) : Int) = (i : Int) + 1 from by omega] at this
      exact this
    | zero =>
      intro i bs done x2 x6 x7 x8 x9 x10 x26 x48 La Lb w' hi hbs hp hq hdis hfa hfb hc
      refine hC _ _ _ _ _ _ _ _ _ _ ?_
      rw [lt_v, decide_eq_false (by omega), br_false]
      intro I1 hC1
      have key1 : ∀ (d t : Nat) (y1 y2 y3 y4 y5 y6 y7 y8 y9 y10 : Value) (w4 : World), t + d = 2 → PAt w4 b1 bs done La → RPt w4 b2 bs done Lb → Ch [] w w4 → I1 [y1, y2, y3, y4, I64 t, y5, y6, y7, y8, y9, y10] w4 := by
        intro d
        induction d with
        | zero =>
          intro t y1 y2 y3 y4 y5 y6 y7 y8 y9 y10 w4 ht hp4 hq4 hc4
          refine hC1 _ _ _ _ _ _ _ _ _ _ _ _ ?_
          rw [lt_v, decide_eq_false (by omega), br_false]
          exact k w4 hc4
        | succ d ih1 =>
          intro t y1 y2 y3 y4 y5 y6 y7 y8 y9 y10 w4 ht hp4 hq4 hc4
          refine hC1 _ _ _ _ _ _ _ _ _ _ _ _ ?_
          rw [lt_v, decide_eq_true (by omega), br_true]
          refine text_p hp4 hbs (Tabs.ch hT hc4 (by simp) (by simp)) (hc4.cell hm (by simp)) fun v5 w5 L5 ho5 hc5 hf5 => ?_
          refine rtext_p (hq4.ch hc5 (by simp)) fun v6 w6 L6 ho6 hc6 hf6 => ?_
          rw [runes_nl'] at ho5
          generalize nlR (runes bs) = l at *
          have ho5' : RS w6 v5 l L5 := Own.ch ho5 hc6 (by simp)
          have hlt5 := ho5.lt
          have hd56 : ∀ x, x ∈ L5 → x ∉ L6 := fun x hx hy => by have := hlt5 x hx; have := hf6 x hy; omega
          obtain ⟨A5, c5, rfl, hA1, hA2⟩ := Own.shape ho5'
          obtain ⟨A6, c6, rfl, hB1, hB2⟩ := Own.shape ho6
          have hlen : l.length ≤ 9223372036854775807 := by simp only [maxLen] at hA2; omega
          have hc46 : Ch [] w4 w6 := hc5.trans hc6 (by simp)
          have hp6 := hp4.ch hc46 (by simp)
          have hq6 := hq4.ch hc46 (by simp)
          have hc06 : Ch [] w w6 := hc4.trans hc46 (by simp)
          have hfl5 : ∀ x, x ∈ L5 → w4.heap.size ≤ x := hf5
          rw [len_v el32, len_v el32, ne_same, br_false, len_v el32]
          intro I2 hC2
          have key2 : ∀ (d j : Nat) (z1 z2 z3 z4 : Value) (ys : List Value) (w7 : World), j + d = l.length → Own w7 21 1 (.slice A5 l.length c5) l.length ys L5 → (∀ q, j ≤ q → ys[q]? = (i32s l)[q]?) → Ch L5 w6 w7 → I2 [z1, z2, I64 j, z3, z4] w7 := by
            intro d
            induction d with
            | zero =>
              intro j z1 z2 z3 z4 ys w7 hj hoy hy hc7
              refine hC2 _ _ _ _ _ _ ?_
              rw [lt_v, decide_eq_false (by omega), br_false, add_v, wrap_i64 (by omega) (by omega)]
              have hc67 : Ch [] w4 w7 := hc46.trans hc7 (fun x hx => .inr (hfl5 x hx))
              have := ih1 (t + 1) z1 (.slice A5 l.length c5) (.slice A6 l.length c6) z2 (.bool true) (.bool false) (I64 l.length) (I64 j) (.bool false) z4 w7 (by omega) (hp4.ch hc67 (by simp)) (hq4.ch hc67 (by simp)) (hc4.trans hc67 (by simp))
              rw [show ((t + 1 : Nat) : Int) = (t : Int) + 1 from by omega] at this
              exact this
            | succ d ih2 =>
              intro j z1 z2 z3 z4 ys w7 hj hoy hy hc7
              refine hC2 _ _ _ _ _ _ ?_
              have hjl : j < l.length := by omega
              rw [lt_v, decide_eq_true (by omega), br_true]
              refine drawn_ok fun w8 hc8 hs8 => ?_
              have hoy8 := Own.ch hoy hc8 (by simp)
              have ho68 : RS w8 (.slice A6 l.length c6) l L6 := Own.ch (Own.ch ho6 hc7 (fun x hx hy => hd56 x hy hx)) hc8 (by simp)
              rw [ixr_p (j := j) el32 sc21 hoy8.rd rfl ((hy j (Nat.le_refl _)).trans (i32s_get hjl)), ixr_p (j := j) el32 sc21 ho68.rd rfl (i32s_get hjl), ne_p, decide_eq_false (by simp), br_false]
              obtain ⟨g, off, c', e, hL, _⟩ := Own.some_ hoy8 (by omega)
              injection e with e1 e2 e3
              subst e1
              rw [ia_v el32 (by omega) (by omega), Int.toNat_natCast, Nat.mul_one]
              refine sto sc21 hoy8 hjl rfl fun w9 ho9 hc9 hs9 => ?_
              rw [add_v, wrap_i64 (by omega) (by omega)]
              have := ih2 (j + 1) z1 (I64 j) (.bool true) (.bool false) _ w9 (by omega) ho9 (fun q hq => by rw [List.getElem?_set_ne (by omega)]; exact hy q (by omega)) ((hc7.trans hc8 (by simp)).trans hc9 (fun x hx => .inl hx))
              rw [show ((j + 1 : Nat) : Int) = (j : Int) + 1 from by omega] at this
              exact this
          exact key2 l.length 0 _ _ _ _ (i32s l) w6 (by omega) ho5' (fun _ _ => rfl) (Ch.refl _ _)
      exact key1 2 0 _ _ _ _ _ _ _ _ _ _ w' (by omega) hp hq hc
  exact key xs.length 0 [] false _ undef undef undef undef undef undef undef La Lb w3 (by omega) (by simp) hp3 hq3 hdis (by rw [hb1]; exact hfa) (by rw [hb1]; exact hfb) hc03
end
end Go.Proofs.YthpbiliajcameaaDoor
