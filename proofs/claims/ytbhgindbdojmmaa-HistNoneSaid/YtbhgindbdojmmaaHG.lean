import Derived.Test.YtbhgindbdojmmaaHF
set_option linter.unusedVariables false
set_option maxRecDepth 4000
namespace Go.Proofs.Ytbhgindbdojmmaa
open Go Go.Fw Go.Proofs Go.RowKit
theorem may_short {l : List HL} (h : may l = 0) : ∀ x ∈ l, x.1.length ≤ 16384 := by
  intro x hx
  unfold may at h
  split at h
  · omega
  · rename_i hn
    simp only [Bool.not_eq_true, List.any_eq_false] at hn
    have := hn x hx
    simpa using this
theorem may_3 (l : List HL) : may l = 0 ∨ may l = 1 ∨ may l = 3 := by
  unfold may
  split
  · exact .inr (.inr rfl)
  · split
    · exact .inr (.inl rfl)
    · exact .inl rfl
theorem z23g : zeroT Try.prog 23 = some (.pointer none) := by kernel_rfl
/-- What a search tells. -/
theorem goS_spec (l : List HL) (t : Txt) (back begins : Bool) : ∀ (d : Nat) (i : Int), leftS l back i < d →
    (∃ (j : Nat) (x : HL), l[j]? = some x ∧ 0 ≤ fnd x.1 t back begins ∧ goS l t back begins d i = ((j : Int), fnd x.1 t back begins, true) ∧ (if back = true then (j : Int) ≤ i else i ≤ (j : Int)) ∧
      ∀ (k : Nat) (y : HL), l[k]? = some y → (if back = true then (j : Int) < k ∧ (k : Int) ≤ i ∧ i < l.length else (k : Int) < j ∧ i ≤ k ∧ 0 ≤ i) → fnd y.1 t back begins < 0) ∨
    (goS l t back begins d i = (0, 0, false) ∧ ∀ (k : Nat) (y : HL), l[k]? = some y → (if back = true then (k : Int) ≤ i ∧ i < l.length else i ≤ k ∧ 0 ≤ i) → fnd y.1 t back begins < 0)
  | 0, i, hd => by
    refine .inr ⟨rfl, fun k y hk hc => ?_⟩
    have hkl := (List.getElem?_eq_some_iff.1 hk).1
    unfold leftS at hd
    cases back <;> simp at hd hc <;> omega
  | d + 1, i, hd => by
    unfold goS
    by_cases hr : 0 ≤ i ∧ i < l.length
    · rw [if_pos hr]
      obtain ⟨j, rfl⟩ := Int.eq_ofNat_of_zero_le hr.1
      have hjl : j < l.length := by omega
      have hget : l[j]? = some l[j] := List.getElem?_eq_getElem hjl
      rw [Int.toNat_natCast, hget, Option.getD_some]
      by_cases h0 : 0 ≤ fnd l[j].1 t back begins
      · rw [if_pos h0]
        refine .inl ⟨j, l[j], hget, h0, rfl, by cases back <;> simp, fun k y hk hc => ?_⟩
        cases back <;> simp at hc <;> omega
      · rw [if_neg h0]
        have hd' : leftS l back (if back = true then (j : Int) - 1 else (j : Int) + 1) < d := by unfold leftS at *; cases back <;> simp at * <;> omega
        rcases goS_spec l t back begins d _ hd' with ⟨q, x, h1, h2, h3, h4, h5⟩ | ⟨h3, h5⟩
        · refine .inl ⟨q, x, h1, h2, h3, by cases back <;> simp at h4 ⊢ <;> omega, fun k y hk hc => ?_⟩
          by_cases hkj : k = j
          · subst hkj
            rw [hget] at hk; injection hk with hk; subst hk; omega
          · refine h5 k y hk ?_
            cases back <;> simp at hc ⊢ <;> omega
        · refine .inr ⟨h3, fun k y hk hc => ?_⟩
          by_cases hkj : k = j
          · subst hkj
            rw [hget] at hk; injection hk with hk; subst hk; omega
          · refine h5 k y hk ?_
            cases back <;> simp at hc ⊢ <;> omega
    · rw [if_neg hr]
      refine .inr ⟨rfl, fun k y hk hc => ?_⟩
      have hkl := (List.getElem?_eq_some_iff.1 hk).1
      cases back <;> simp at hc <;> omega
theorem srch_spec (l : List HL) (from_ : Int) (t : Txt) (back begins : Bool) :
    (∃ (j : Nat) (x : HL), l[j]? = some x ∧ 0 ≤ fnd x.1 t back begins ∧ srch l from_ t back begins = ((j : Int), fnd x.1 t back begins, true) ∧ (if back = true then (j : Int) ≤ from_ else from_ ≤ (j : Int)) ∧
      ∀ (k : Nat) (y : HL), l[k]? = some y → (if back = true then (j : Int) < k ∧ (k : Int) ≤ from_ else (k : Int) < j ∧ from_ ≤ k) → fnd y.1 t back begins < 0) ∨
    (srch l from_ t back begins = (0, 0, false) ∧ ∀ (k : Nat) (y : HL), l[k]? = some y → (if back = true then (k : Int) ≤ from_ else from_ ≤ k) → fnd y.1 t back begins < 0) := by
  have hd : leftS l back (startS l from_ back) < ((l.length + 1 : Nat) : Int) := by unfold leftS startS; cases back <;> simp <;> omega
  rcases goS_spec l t back begins (l.length + 1) (startS l from_ back) hd with ⟨j, x, h1, h2, h3, h4, h5⟩ | ⟨h3, h5⟩
  · refine .inl ⟨j, x, h1, h2, h3, by unfold startS at h4; cases back <;> simp at h4 ⊢ <;> omega, fun k y hk hc => h5 k y hk ?_⟩
    have hkl := (List.getElem?_eq_some_iff.1 hk).1
    unfold startS
    cases back <;> simp at hc ⊢ <;> omega
  · refine .inr ⟨h3, fun k y hk hc => h5 k y hk ?_⟩
    have hkl := (List.getElem?_eq_some_iff.1 hk).1
    unfold startS
    cases back <;> simp at hc ⊢ <;> omega
theorem cut_str (x : Txt) (i : Nat) (hi : i ≤ x.length) (w : World) : (Instr.sliceAt 9 (strV x) (some (I64 i)) none none).run Try.prog w = .ok (strV (x.drop i)) w := by
  unfold strV
  rw [run_sliceAt_string _ _ _ _ _ _ und9, run_slice_string_l w 9 ⟨x.toArray⟩ und9 .i64 (i : Int) (by omega) (by rw [size_str]; omega), Int.toNat_natCast, size_str, ByteArray.extract_mk, List.take_of_length_le (by simp)]
section
variable {w : World} {K : Value → World → Prop}
theorem has_ {b t11 t9 t7 : Nat} {l : List HL} {base most : Int} {L : List Nat} {m : Int} {t : Txt} {begins : Bool} {i : Nat} {x : HL} (h : HAt w b l base most L) (hb : base ≠ 0) (hx : ∀ x ∈ l, x.1.length ≤ 16384) (hm : w.cell? ⟨0, 0, none⟩ = some (.int .i64 m))
    (h11 : w.heap[t11]? = some (.cells #[PT b] 23 (0, 0))) (h9 : w.heap[t9]? = some (.cells #[.bool begins] 4 (0, 0))) (h7 : w.heap[t7]? = some (.cells #[strV t] 9 (0, 0))) (hi : l[i]? = some x)
    (k : ∀ w', Ch [] w w' → K (.bool (hasT x.1 t begins)) w') : S.call Try.prog 29 [I64 i, PT t11, PT t9, PT t7] K w := by
  have hil := (List.getElem?_eq_some_iff.1 hi).1
  refine F29_link ?_
  unfold F29
  rw [ld_v sc23 (cells1 h11)]
  refine at__ h hb i (fun ho => by omega) (fun j y hj hy w1 hc1 => ?_)
  obtain rfl : i = j := by omega
  rw [hi] at hy
  injection hy with hy
  subst hy
  rw [x20, x21]
  refine Go.Fw.al z36 fun w2 hb2 hc2 hs2 => ?_
  refine stw (vs := #[strV x.1, .int .i64 x.2]) ag36 hb2 rfl rfl (by simp [Value.oneCell', strV]) fun w3 hb3 hc3 hs3 => ?_
  have hc03 : Ch [] w w3 := (hc1.trans hc2 (by simp)).trans hc3 (by have := hc1.size; simp; omega)
  have g9 := cells1 (hc03.at_ h9 (by simp))
  have g7 := cells1 (hc03.at_ h7 (by simp))
  have hxl := hx x (List.mem_of_getElem? hi)
  have hm3 := hc03.cell hm (by simp)
  rw [br_true, ld_v sc4 g9]
  unfold hasT at k
  cases begins with
  | true =>
    rw [if_pos rfl] at k
    rw [br_true, fa_v fo36_0, ld_v sc9 (cells2 hb3).1, ld_v sc9 g7]
    refine hasPrefix_ ?_
    cases hp : Lib.hasPrefix x.1 t with
    | true => rw [hp] at k; rw [br_true]; exact k w3 hc03
    | false => rw [hp] at k; rw [br_false, ld_v sc4 g9, not_v, show (!true) = false from rfl, br_false]; exact k w3 hc03
  | false =>
    rw [if_neg (by simp)] at k
    rw [br_false, ld_v sc4 g9, not_v, show (!false) = true from rfl, br_true, fa_v fo36_0, ld_v sc9 (cells2 hb3).1, ld_v sc9 g7]
    exact contains_ hxl hm3 (k w3 hc03)
set_option maxHeartbeats 1000000
theorem finds_ {v : Value} {l : List HL} {fro m : Int} {t : Txt} {back begins : Bool} (hr : RL w w.heap.size v l) (hl : l.length * 24 ≤ 140737488355328) (hm : w.cell? ⟨0, 0, none⟩ = some (.int .i64 m)) (hf : -9223372036854775808 ≤ fro ∧ fro ≤ 9223372036854775807)
    (k : ∀ w', Ch [] w w' → K (.bool true) w') : S.call Try.prog 6 [v, I64 fro, strV t, .bool back, .bool begins] K w := by
  refine F6_link ?_
  unfold F6
  have h7b : (strV t).cells = #[strV t] := rfl
  refine Go.Fw.bx fun w1 hb1 hc1 hs1 => ?_
  refine Go.Fw.bx fun w2 hb2 hc2 hs2 => ?_
  have hc02 : Ch [] w w2 := hc1.trans hc2 (by simp)
  have h7 : w2.heap[w.heap.size]? = some (.cells #[strV t] 9 (0, 0)) := hc2.at_ hb1 (by simp)
  have h9 : w2.heap[w1.heap.size]? = some (.cells #[.bool begins] 4 (0, 0)) := hb2
  refine from_ (most := 4096) (hr.ch hc02) hc02.size hl (by omega) (fun hm w3 hc3 => ?_) (fun hmy w3 b L1 hq hc3 hfr3 => ?_)
  · rw [x20, x21]
    refine Go.Fw.al z23g fun w4 hb4 hc4 hs4 => ?_
    refine st sc23 hb4 (by simp [Value.cells]) rfl fun w5 hb5 hc5 hs5 => ?_
    refine begun_ fun w6 hc6 => ?_
    have hc26 : Ch [] w2 w6 := ((hc3.trans hc4 (by simp)).trans hc5 (by have := hc3.size; simp; omega)).trans hc6 (by simp)
    rw [not_v, show (!true) = false from rfl, br_false, ne_v, decide_eq_true hm, br_true, eq_v]
    refine br_dec _ _ _ (fun h3 => k w6 (hc02.trans hc26 (by simp))) (fun h3 => ?_)
    have hm1 : may l = 1 := by rcases may_3 l with h | h | h <;> omega
    rw [eq_v, decide_eq_true hm1]
    exact k w6 (hc02.trans hc26 (by simp))
  have hshort0 := may_short hmy
  have hld : (l.drop (l.length - 4096)).length ≤ 4096 := by rw [List.length_drop]; omega
  have hshort : ∀ x ∈ l.drop (l.length - 4096), x.1.length ≤ 16384 := fun x hx => hshort0 x (List.mem_of_mem_drop hx)
  have hbs : (1 : Int) ≤ 1 + ((l.length - 4096 : Nat) : Int) := by omega
  generalize hgd : l.drop (l.length - 4096) = ld at *
  generalize (1 + ((l.length - 4096 : Nat) : Int)) = bse at *
  have hbn : bse ≠ 0 := by omega
  rw [x20, x21]
  refine Go.Fw.al z23g fun w4 hb4 hc4 hs4 => ?_
  refine st sc23 hb4 (by simp [Value.cells]) rfl fun w5 hb5 hc5 hs5 => ?_
  refine begun_ fun w6 hc6 => ?_
  have hc36 : Ch [] w3 w6 := (hc4.trans hc5 (by simp)).trans hc6 (by simp)
  have hc26 : Ch [] w2 w6 := hc3.trans hc36 (by simp)
  have hc06 : Ch [] w w6 := hc02.trans hc26 (by simp)
  have hq6 := hq.ch hc36 (by simp)
  have h11 : w6.heap[w3.heap.size]? = some (.cells #[PT b] 23 (0, 0)) := hc6.at_ hb5 (by simp)
  have h76 := hc26.at_ h7 (by simp)
  have h96 := hc26.at_ h9 (by simp)
  have hm6 := hc06.cell hm (by simp)
  rw [not_v, show (!true) = false from rfl, br_false, ne_v, decide_eq_false (by simp), br_false, mf_v, ld_v sc23 (cells1 h11), ld_v sc9 (cells1 h76), ld_v sc4 (cells1 h96)]
  refine search_ hq6 hbn hld hshort hm6 hf ?_
  have hsp := srch_spec ld fro t back begins
  generalize hsr : srch ld fro t back begins = r at *
  obtain ⟨ri, ra, ris⟩ := r
  rw [x30, x31, x32]
  simp only
  generalize w3.heap.size = t11 at *
  generalize w.heap.size = t7 at *
  generalize w1.heap.size = t9 at *
  refine seq_ok fun J hJ => ?_
  have hj : ∀ (a0 a1 a2 a4 : Value) w7, Ch [] w6 w7 → J [a0, a1, a2, .bool ris, a4] w7 := by
    intro a0 a1 a2 a4 w7 hc7
    refine hJ _ _ ?_
    have hq7 := hq6.ch hc7 (by simp)
    rw [ld_v sc23 (cells1 (hc7.at_ h11 (by simp)))]
    refine len_ hq7 hbn ?_
    intro I hC
    have key : ∀ (d i : Nat) (x10 x19 x20' x86 x126 : Value) w', i + d = ld.length → Ch [] w6 w' → I [x10, x19, x20', I64 i, x86, x126] w' := by
      intro d
      induction d with
      | zero =>
        intro i x10 x19 x20' x86 x126 w' hi hc'
        refine hC _ _ _ _ _ _ _ ?_
        have hkk := k w' (hc06.trans hc' (by simp))
        rw [lt_v, decide_eq_false (by omega), br_false]
        rcases hsp with ⟨j, x, h1, h2, h3, h4, h5⟩ | ⟨h3, h5⟩
        · injection h3 with e1 h3
          injection h3 with e2 e3
          subst e1 e2 e3
          rw [not_v, show (!true) = false from rfl, br_false]
          cases back with
          | true =>
            simp only [if_true] at h4
            rw [br_true, v_eq (run_max ..), le_v, decide_eq_true (by omega), br_true]
            exact hkk
          | false =>
            simp only [Bool.false_eq_true, if_false] at h4
            rw [br_false, not_v, show (!false) = true from rfl, br_true, ge_v, decide_eq_true h4]
            exact hkk
        · injection h3 with e1 h3
          injection h3 with e2 e3
          subst e1 e2 e3
          rw [not_v, show (!false) = true from rfl, br_true]
          exact hkk
      | succ d ih =>
        intro i x10 x19 x20' x86 x126 w' hi hc'
        refine hC _ _ _ _ _ _ _ ?_
        have hlt : i < ld.length := by omega
        have hget : ld[i]? = some ld[i] := List.getElem?_eq_getElem hlt
        rw [lt_v, decide_eq_true (by omega), br_true]
        have again : ∀ (y1 y2 y3 y4 y5 : Value) w'', Ch [] w6 w'' → S.v Try.prog (S.bin .add 3 (.tmp 85) (.const (I64 1)) (I64 i) (I64 1)) (fun t127 w => I [y1, y2, y3, t127, y4, y5] w) w'' := by
          intro y1 y2 y3 y4 y5 w'' hc''
          rw [add_v, wrap_i64 (by omega) (by omega)]
          have := ih (i + 1) y1 y2 y3 y4 y5 w'' (by omega) hc''
          rw [show ((i + 1 : Nat) : Int) = (i : Int) + 1 from by omega] at this
          exact this
        have ask : ∀ (y1 y2 y3 y4 : Value), fnd ld[i].1 t back begins < 0 → S.nx Try.prog (S.callV (.func (.func 29) #[] #[PT t11, PT t9, PT t7]) [I64 i]) (fun t125 w => br t125 (K (.bool false) w) (S.v Try.prog (S.bin .add 3 (.tmp 85) (.const (I64 1)) (I64 i) (I64 1)) (fun t127 w => I [y1, y2, y3, t127, y4, t125] w) w)) w' := by
          intro y1 y2 y3 y4 hneg
          refine nxV_func (first := []) (cap := [PT t11, PT t9, PT t7]) (f := 29) Try.func29 (by decide) rfl ?_
          refine has_ (hq6.ch hc' (by simp)) hbn hshort (hc'.cell hm6 (by simp)) (hc'.at_ h11 (by simp)) (hc'.at_ h96 (by simp)) (hc'.at_ h76 (by simp)) hget fun w'' hc'' => ?_
          rw [← fnd_has ld[i].1 t back begins, decide_eq_false (by omega), br_false]
          exact again _ _ _ _ _ w'' (hc'.trans hc'' (by simp))
        cases back with
        | true =>
          rw [br_true, le_v]
          refine br_dec _ _ _ (fun hle => ?_) (fun hle => ?_)
          · rw [not_v]
            rcases hsp with ⟨j, x, h1, h2, h3, h4, h5⟩ | ⟨h3, h5⟩
            · injection h3 with e1 h3
              injection h3 with e2 e3
              subst e1 e2 e3
              rw [show (!true) = false from rfl, br_false, gt_v]
              refine br_dec _ _ _ (fun hgt => ?_) (fun hgt => ?_)
              · exact ask _ _ _ _ (h5 i _ hget (by simp; omega))
              · rw [not_v, show (!true) = false from rfl, br_false]
                exact again _ _ _ _ _ w' hc'
            · injection h3 with e1 h3
              injection h3 with e2 e3
              subst e1 e2 e3
              rw [show (!false) = true from rfl, br_true]
              exact ask _ _ _ _ (h5 i _ hget (by simp; omega))
          · rw [not_v, show (!true) = false from rfl, br_false]
            exact again _ _ _ _ _ w' hc'
        | false =>
          rw [br_false, not_v, show (!false) = true from rfl, br_true, ge_v]
          refine br_dec _ _ _ (fun hle => ?_) (fun hle => ?_)
          · rw [not_v]
            rcases hsp with ⟨j, x, h1, h2, h3, h4, h5⟩ | ⟨h3, h5⟩
            · injection h3 with e1 h3
              injection h3 with e2 e3
              subst e1 e2 e3
              rw [show (!true) = false from rfl, br_false, lt_v]
              refine br_dec _ _ _ (fun hgt => ?_) (fun hgt => ?_)
              · exact ask _ _ _ _ (h5 i _ hget (by simp; omega))
              · exact again _ _ _ _ _ w' hc'
            · injection h3 with e1 h3
              injection h3 with e2 e3
              subst e1 e2 e3
              rw [show (!false) = true from rfl, br_true]
              exact ask _ _ _ _ (h5 i _ hget (by simp; omega))
          · exact again _ _ _ _ _ w' hc'
    exact key ld.length 0 _ undef undef undef undef w7 (by omega) hc7
  clear hJ
  cases ris with
  | false =>
    rw [br_false]
    exact hj _ _ _ _ w6 (Ch.refl _ _)
  | true =>
    rw [br_true, ld_v sc23 (cells1 h11)]
    rcases hsp with ⟨j, x, h1, h2, h3, h4, h5⟩ | ⟨h3, h5⟩
    · injection h3 with e1 h3
      injection h3 with e2 e3
      subst e1 e2
      refine at__ hq6 hbn j (fun ho => by have := (List.getElem?_eq_some_iff.1 h1).1; omega) (fun j' y hj' hy w7 hc7 => ?_)
      obtain rfl : j = j' := by omega
      rw [h1] at hy
      injection hy with hy
      subst hy
      rw [x20, x21]
      refine Go.Fw.al z36 fun w8 hb8 hc8 hs8 => ?_
      refine stw (vs := #[strV x.1, .int .i64 x.2]) ag36 hb8 rfl rfl (by simp [Value.oneCell', strV]) fun w9 hb9 hc9 hs9 => ?_
      have hc69 : Ch [] w6 w9 := (hc7.trans hc8 (by simp)).trans hc9 (by have := hc7.size; simp; omega)
      refine seq_ok fun J1 hJ1 => ?_
      have hj1 : ∀ w10, Ch [] w6 w10 → J1 [.bool false] w10 := by
        intro w10 hc10
        refine hJ1 _ _ ?_
        rw [nth_zero, br_false]
        exact hj _ _ _ _ w10 hc10
      clear hJ1
      refine drawn_ok fun w10 hc10 hs10 => ?_
      have hb10 := hc10.at_ hb9 (by simp)
      have hc610 : Ch [] w6 w10 := hc69.trans hc10 (by simp)
      have g7 := hc610.at_ h76 (by simp)
      have g9 := hc610.at_ h96 (by simp)
      obtain ⟨a, ha1, ha2, ha3, ha4⟩ := fnd_at h2
      rw [ha1]
      rw [not_v, show (!true) = false from rfl, br_false, lt_v, decide_eq_false (by omega), br_false, fa_v fo36_0, ld_v sc9 (cells2 hb10).1, lenS_v und9, gt_v, decide_eq_false (by omega), br_false]
      have tail : S.call Try.prog 30 [strV (x.1.drop a), strV t] (fun t73 w => S.v Try.prog (Op.unary .not t73) (fun t74 w => br t74 (J1 [.bool true] w) (S.v Try.prog (Instr.loadAt 4 (PT t9)) (fun t77 w => br t77 (S.v Try.prog (S.bin .neq 3 (.tmp 79) (.const (I64 0)) (I64 a) (I64 0)) (fun t80 w => J1 [t80] w) w) (J1 [.bool false] w)) w)) w) w10 := by
        refine hasPrefix_ ?_
        rw [ha3, not_v, show (!true) = false from rfl, br_false, ld_v sc4 (cells1 g9)]
        cases begins with
        | true => rw [br_true, ne_v, decide_eq_false (by rw [ha4 rfl]; simp)]; exact hj1 w10 hc610
        | false => rw [br_false]; exact hj1 w10 hc610
      refine ⟨?_, ?_⟩
      · rw [fa_v fo36_0]
        refine ⟨?_, ?_⟩
        · rw [ld_v sc9 (cells2 hb10).1]
          refine ⟨?_, ?_⟩
          · rw [v_eq (cut_str x.1 a ha2 w10), ld_v sc9 (cells1 g7)]
            exact tail
          · rw [ld_v sc9 (cells1 g7), v_eq (cut_str x.1 a ha2 w10)]
            exact tail
        · rw [ld_v sc9 (cells1 g7), ld_v sc9 (cells2 hb10).1, v_eq (cut_str x.1 a ha2 w10)]
          exact tail
      · rw [ld_v sc9 (cells1 g7), fa_v fo36_0, ld_v sc9 (cells2 hb10).1, v_eq (cut_str x.1 a ha2 w10)]
        exact tail
    · injection h3 with e1 h3
      injection h3 with e2 e3
      cases e3
end
end Go.Proofs.Ytbhgindbdojmmaa
