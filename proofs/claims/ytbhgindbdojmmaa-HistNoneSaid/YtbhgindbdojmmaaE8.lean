import Derived.Test.YtbhgindbdojmmaaE7
set_option linter.unusedVariables false
set_option maxRecDepth 4000
namespace Go.Proofs.Ytbhgindbdojmmaa
open Go Go.Fw Go.Proofs Go.RowKit
/-! ### A script of operations -/
def opsC : List (OpT × Value) → List Value
  | [] => []
  | x :: r => (opCells x.1 x.2).toList ++ opsC r
theorem opsC_length : ∀ (l : List (OpT × Value)), (opsC l).length = l.length * 7
  | [] => rfl
  | x :: r => by simp [opsC, opsC_length r]; omega
theorem opsC_el : ∀ {l : List (OpT × Value)} {i : Nat} {x : OpT × Value}, l[i]? = some x → ((opsC l).drop (i * 7)).take 7 = (opCells x.1 x.2).toList
  | y :: r, 0, x, h => by
    simp only [List.getElem?_cons_zero, Option.some.injEq] at h
    subst h
    simp [opsC]
  | y :: r, i + 1, x, h => by
    simp only [List.getElem?_cons_succ] at h
    have := opsC_el h
    have e : (i + 1) * 7 = 7 + i * 7 := by omega
    rw [e, ← List.drop_drop]
    exact this
def tot : List (OpT × Value) → Nat
  | [] => 0
  | x :: r => x.1.ls.length + tot r
def totTo (l : List (OpT × Value)) : Nat → Nat
  | 0 => 0
  | i + 1 => totTo l i + (match l[i]? with | some x => x.1.ls.length | none => 0)
theorem totTo_le : ∀ (l : List (OpT × Value)) (i : Nat), totTo l i ≤ tot l
  | [], 0 => Nat.le_refl _
  | [], i + 1 => by have := totTo_le [] i; simp [totTo]; exact this
  | x :: r, 0 => Nat.zero_le _
  | x :: r, 1 => by simp [totTo, tot]
  | x :: r, i + 2 => by
    have aux : ∀ j, totTo (x :: r) (j + 1) = x.1.ls.length + totTo r j := by
      intro j
      induction j with
      | zero => simp [totTo]
      | succ j ih => rw [totTo, ih]; simp only [totTo, List.getElem?_cons_succ]; omega
    rw [aux]
    have := totTo_le r (i + 1)
    simp only [tot]
    omega
structure Scr (w : World) (B : Nat) (v : Value) (os : List (OpT × Value)) : Prop where
  rd : Rd w B 7 v os.length (opsC os)
  each : ∀ x ∈ os, RL w B x.2 x.1.ls ∧ (-9223372036854775808 ≤ x.1.i ∧ x.1.i ≤ 9223372036854775807) ∧ (-9223372036854775808 ≤ x.1.n ∧ x.1.n < 9223372036854775808) ∧ x.1.t.length ≤ 9223372036854775807
theorem Scr.ch {w w' : World} {B : Nat} {v : Value} {os : List (OpT × Value)} (h : Scr w B v os) (hc : Ch [] w w') : Scr w' B v os :=
  ⟨h.rd.ch hc (by simp), fun x hx => ⟨(h.each x hx).1.ch hc, (h.each x hx).2⟩⟩
section
variable {w : World} {K : Value → World → Prop}
theorem ne_same {P : Program} {t : TypeId} {x y : Operand} {k : IntKind} {a : Int} : S.v P (S.bin .neq t x y (.int k a) (.int k a)) K w = K (.bool false) w := by
  rw [ne_v, decide_eq_false (by simp)]
theorem from_bad {v : Value} {most : Int} (hm : most < 0 ∨ 4096 < most) (k : K (.tuple #[.pointer none, I64 1]) w) : S.call Try.prog 16 [I64 most, v] K w := by
  refine F16_link ?_
  unfold F16
  refine new_ (fun h => ?_) (fun h1 h2 => absurd hm (by omega))
  rw [x20, x21, ne_v, decide_eq_true (by simp), br_true]
  exact k
theorem rfrom_bad {v : Value} {most : Int} (hm : most < 0 ∨ 4096 < most) (k : K (.tuple #[.pointer none, I64 1]) w) : S.call Try.prog 22 [I64 most, v] K w := by
  refine F22_link ?_
  unfold F22
  refine rnew_ (fun h => ?_) (fun h1 h2 => absurd hm (by omega))
  rw [x20, x21, ne_v, decide_eq_true (by simp), br_true]
  exact k
set_option maxHeartbeats 4000000
theorem does_ {v0 v2 : Value} {l : List HL} {os : List (OpT × Value)} {most m : Int} (h0 : RL w w.heap.size v0 l) (hs : Scr w w.heap.size v2 os) (hA : l.length + tot os ≤ 1048576) (hm : w.cell? ⟨0, 0, none⟩ = some (.int .i64 m))
    (hmost : -9223372036854775808 ≤ most ∧ most ≤ 9223372036854775807)
    (k : ∀ w', Ch [] w w' → K (.bool true) w') : S.call Try.prog 7 [I64 most, v0, v2] K w := by
  refine F7_link ?_
  unfold F7
  by_cases hbad : most < 0 ∨ 4096 < most
  · refine from_bad hbad ?_
    rw [x20, x21]
    refine rfrom_bad hbad ?_
    rw [x20, x21]
    refine new_ (fun _ => ?_) (fun h1 h2 => absurd hbad (by omega))
    rw [x20, x21]
    refine rnew_ (fun _ => ?_) (fun h1 h2 => absurd hbad (by omega))
    rw [x20, x21, ne_same, br_false, eqn_v pt23, Option.isNone_none, ne_v, decide_eq_true (by simp), neb_v (by kernel_rfl), show (!(true == true)) = false from rfl, br_false]
    refine begun_ fun w1 hc1 => ?_
    rw [not_v, show (!true) = false from rfl, br_false, ne_same, br_false, eqn_v pt23, Option.isNone_none, eqn_v pt55, Option.isNone_none, neb_v (by kernel_rfl), show (!(true == true)) = false from rfl, br_false, eqn_v pt55, Option.isNone_none, br_true]
    exact k w1 hc1
  obtain ⟨mo, rfl⟩ := Int.eq_ofNat_of_zero_le (show 0 ≤ most by omega)
  have hmo : mo ≤ 4096 := by omega
  have news : ∀ (w1 : World) (K' : Value → World → Prop), (∀ w2 p, Ch [] w1 w2 → K' (.tuple #[PT p, I64 0]) w2) → S.call Try.prog 9 [I64 mo] K' w1 := fun w1 K' hk => new_ (fun h => absurd h (by omega)) (fun _ _ w2 _ hc2 _ => hk w2 _ hc2)
  have rnews : ∀ (w1 : World) (K' : Value → World → Prop), (∀ w2 p, Ch [] w1 w2 → K' (.tuple #[PT p, I64 0]) w2) → S.call Try.prog 33 [I64 mo] K' w1 := fun w1 K' hk => rnew_ (fun h => absurd h (by omega)) (fun _ _ w2 _ hc2 _ => hk w2 _ hc2)
  refine from_ (most := mo) h0 (Nat.le_refl _) (by omega) hmo (fun hmy w1 hc1 => ?_) (fun hmy w1 b L1 hq hc1 hfr1 => ?_)
  · rw [x20, x21]
    refine rfrom_ (most := mo) (h0.ch hc1) hc1.size (by omega) hmo (fun _ w2 hc2 => ?_) (fun h => absurd h hmy)
    rw [x20, x21]
    refine news _ _ fun w3 p3 hc3 => ?_
    rw [x20, x21]
    refine rnews _ _ fun w4 p4 hc4 => ?_
    rw [x20, x21, ne_same, br_false, eqn_v pt23, Option.isNone_some, ne_same, neb_v (by kernel_rfl), show (!(false == false)) = false from rfl, br_false]
    refine begun_ fun w5 hc5 => ?_
    rw [not_v, show (!true) = false from rfl, br_false, ne_same, br_false, eqn_v pt23, Option.isNone_none, eqn_v pt55, Option.isNone_none, neb_v (by kernel_rfl), show (!(true == true)) = false from rfl, br_false, eqn_v pt55, Option.isNone_none, br_true]
    exact k w5 ((((hc1.trans hc2 (by simp)).trans hc3 (by simp)).trans hc4 (by simp)).trans hc5 (by simp))
  rw [x20, x21]
  refine rfrom_ (most := mo) (h0.ch hc1) hc1.size (by omega) hmo (fun h => absurd hmy h) (fun _ w2 r L2 hq2 hc2 hfr2 => ?_)
  rw [x20, x21]
  refine news _ _ fun w3 p3 hc3 => ?_
  rw [x20, x21]
  refine rnews _ _ fun w4 p4 hc4 => ?_
  rw [x20, x21, ne_same, br_false, eqn_v pt23, Option.isNone_some, ne_same, neb_v (by kernel_rfl), show (!(false == false)) = false from rfl, br_false]
  refine begun_ fun w5 hc5 => ?_
  rw [not_v, show (!true) = false from rfl, br_false, ne_same, br_false, eqn_v pt23, Option.isNone_some, eqn_v pt55, Option.isNone_some, neb_v (by kernel_rfl), show (!(false == false)) = false from rfl, br_false, eqn_v pt55, Option.isNone_some, br_false]
  have hc25 : Ch [] w2 w5 := (hc3.trans hc4 (by simp)).trans hc5 (by simp)
  have hc15 : Ch [] w1 w5 := hc2.trans hc25 (by simp)
  have hc05 : Ch [] w w5 := hc1.trans hc15 (by simp)
  have hL1lt := hq.lt
  have sz1 := hc1.size
  have hst0 : St w5 w.heap.size b r (l.drop (l.length - mo)) (1 + ((l.length - mo : Nat) : Int)) mo (l.length + totTo os 0) L1 L2 :=
    ⟨hq.ch hc15 (by simp), hq2.ch hc25 (by simp), fun x hx hh => by have := hL1lt x hx; have := hfr2 x hh; omega, hfr1, fun x hx => by have := hfr2 x hx; omega,
      by rw [List.length_drop]; omega, hmo, fun x hx => may_short hmy x (List.mem_of_mem_drop hx), by omega, by rw [List.length_drop]; simp only [totTo]; omega⟩
  obtain ⟨A2, c2, rfl, hcc1, hcc2, _⟩ := hs.rd.form
  have hol : os.length ≤ 9223372036854775807 := by simp only [maxLen] at hcc2; omega
  rw [len_v el74]
  intro I hC
  have hfresh : ∀ x, x ∈ L1 ++ L2 → w.heap.size ≤ x := fun x hx => by
    rcases List.mem_append.1 hx with h | h
    · exact hfr1 x h
    · have := hfr2 x h; omega
  have key : ∀ (d i : Nat) (b : Nat) (ls : List HL) (base : Int) (mst : Nat) (LH LR : List Nat) (x6 x16 x17 x69 x99 : Value) (w' : World), i + d = os.length → St w' w.heap.size b r ls base mst (l.length + totTo os i) LH LR → Ch [] w w' → I [x6, PT b, x16, x17, I64 i, x69, x99] w' := by
    intro d
    induction d with
    | zero =>
      intro i b ls base mst LH LR x6 x16 x17 x69 x99 w' hi st hc
      refine hC _ _ _ _ _ _ _ _ ?_
      rw [lt_v, decide_eq_false (by omega), br_false]
      refine equal_ st.h st.r (by have := st.b1; omega) (by have := st.len; have := st.mo; omega) fun w'' hc' => ?_
      exact k w'' (hc.trans hc' (by simp))
    | succ d ih =>
      intro i b ls base mst LH LR x6 x16 x17 x69 x99 w' hi st hc
      refine hC _ _ _ _ _ _ _ _ ?_
      have hlt : i < os.length := by omega
      have hget : os[i]? = some os[i] := List.getElem?_eq_getElem hlt
      obtain ⟨he1, he2, he3, he4⟩ := hs.each _ (List.getElem_mem hlt)
      rw [lt_v, decide_eq_true (by omega), br_true, ixa_v (j := i) el74 ag77 (hs.rd.ch hc (by simp)) (by omega) rfl hlt (opsC_el hget)]
      obtain ⟨A3, c3, hov, _⟩ := he1.form
      refine Go.Fw.al (z := .agg #[I64 0, .slice none 0 0, I64 0, I64 0, strV [], .bool false, .bool false]) (by kernel_rfl) fun w1 hb1 hcc1 hs1 => ?_
      refine stw (vs := opCells os[i].1 os[i].2) ag77 hb1 rfl rfl (by rw [hov]; simp [opCells, Value.oneCell', strV]) fun w2' hb2 hcc2' hs2 => ?_
      have hcc : Ch [] w' w2' := hcc1.trans hcc2' (by simp)
      have hc02 : Ch [] w w2' := hc.trans hcc (by simp)
      rw [ldw_v ag77 hb2 rfl]
      have htn : totTo os (i + 1) = totTo os i + os[i].1.ls.length := by simp only [totTo, hget]
      have htl := totTo_le os (i + 1)
      have hsz0 := hc02.size
      refine step_ (st.ch hcc) hsz0 (he1.ch hc02) (by omega) he2 he3 he4 (hc02.cell hm (by simp)) fun w3' b' l' base' most' LH' LR' st' hc3' => ?_
      rw [x20, x21]
      have hc03 : Ch [] w w3' := hc02.trans hc3' (fun x hx => by
        right
        rcases List.mem_append.1 hx with h | h
        · exact st.fh x h
        · exact st.fr x h)
      refine seq_ok fun J hJ => ?_
      have hj : ∀ w4', Ch [] w3' w4' → J [.bool false] w4' := by
        intro w4' hc4'
        refine hJ _ _ ?_
        rw [nth_zero, br_false, add_v, wrap_i64 (by omega) (by omega)]
        have st4 := st'.ch hc4'
        rw [show l.length + totTo os i + os[i].1.ls.length = l.length + totTo os (i + 1) from by omega] at st4
        have := ih (i + 1) b' l' base' most' LH' LR' x6 (PT w'.heap.size) (.bool true) (.bool true) (.bool false) w4' (by omega) st4 (hc03.trans hc4' (by simp))
        rw [show ((i + 1 : Nat) : Int) = (i : Int) + 1 from by omega] at this
        exact this
      clear hJ
      refine drawn_ok fun w4' hc4' hs4 => ?_
      have hj4 := hj w4' hc4'
      have st4 := st'.ch hc4'
      have hbn : base' ≠ 0 := by have := st'.b1; omega
      obtain ⟨lv, Ll, g1, g2, g5⟩ := st4.r.ex
      obtain ⟨A4, c4, rfl, _⟩ := Own.shape g2
      have q1 := (cells3 g1).1
      have q2 := (cells3 g1).2.1
      have h4 := st4.h
      refine ⟨fun w' => w' = w4', rfl, ?_⟩
      rw [not_v, show (!true) = false from rfl, br_false]
      repeat' (first
        | exact hj4
        | rw [nilC_v]
        | rw [fa_v fo81_0]
        | rw [fa_v fo81_1]
        | rw [ld_v sc28 q1]
        | rw [ld_v sc2 q2]
        | rw [len_v el28]
        | rw [ne_same]
        | rw [br_false]
        | refine len_ h4 hbn ?_
        | refine base_ h4 hbn ?_
        | constructor)
  exact key os.length 0 b _ _ mo L1 L2 _ undef undef undef undef w5 (by omega) hst0 hc05
end
end Go.Proofs.Ytbhgindbdojmmaa
