import Derived.Test.YthpbiliajcameaaJ
set_option linter.unusedVariables false
namespace Go.Proofs.Ythpbiliajcameaa
open Go Go.Fw Go.Proofs Go.RowKit
theorem bytesV_get {bs : List UInt8} {i : Nat} {x : UInt8} (h : bs[i]? = some x) : (bytesV bs)[i]? = some (byteV x) := by simp [bytesV, h]
theorem strV_nil : (Value.string { data := #[] }) = strV [] := rfl
section
variable {w : World} {K : Value → World → Prop}
theorem replays_ {B : Nat} {v : Value} {ps : List (List UInt8)} {hs : List Value} (hp : Parts w B v ps hs) (ht : ps.flatten.length ≤ 1099511627776) (hB : B ≤ w.heap.size)
    (k : ∀ w', Ch [] w w' → K (.bool true) w') : S.call Try.prog 4 [v] K w := by
  obtain ⟨A, c, rfl, hc1, hc2, _⟩ := hp.rd.form
  have hcm : c ≤ 9223372036854775807 := by simp only [maxLen] at hc2; omega
  refine F4_link ?_
  unfold F4
  refine newr_ fun w1 hr1 hc1 hs1 => ?_
  refine newq_ fun w2 hq2 hc2 hs2 => ?_
  refine begun_ fun w3 hc3 => ?_
  have hw3 := hc3.size
  have hr3 := (hr1.ch hc2 (by simp)).ch hc3 (by simp)
  have hq3 := hq2.ch hc3 (by simp)
  have hcw3 : Ch [] w w3 := (hc1.trans hc2 (by simp)).trans hc3 (by simp)
  rw [not_v, show (!true) = false from rfl, br_false, eqn_v pt33, Option.isNone_some, br_false, eqn_v pt23, Option.isNone_some, br_false]
  refine start_ hr3 (fun _ w4 hr4 hc4 => ?_) (fun h => by cases h)
  rw [ne_v, decide_eq_false (by simp), br_false]
  refine start_ hr4 (fun h => by cases h) (fun _ => ?_)
  rw [ne_v, decide_eq_false (by simp), br_false]
  have hcw4 : Ch [] w w4 := hcw3.trans hc4 (by simp)
  have hq4 := hq3.ch hc4 (by simp; omega)
  have hw4 := hc4.size
  refine join_ (hp.ch hcw4 (by simp)) ht (by omega) fun r w5 L5 hbs5 hc5 hl5 => ?_
  have hcw5 : Ch [] w w5 := hcw4.trans hc5 (by simp)
  have hr5 := hr4.ch hc5 (by simp)
  have hq5 := hq4.ch hc5 (by simp)
  have hw5 := hc5.size
  have hbl5 := Own.lt hbs5
  rw [len_v el32]
  intro I hC
  have key : ∀ (d i : Nat) (x7 x8 x43 x50 : Value) (w' : World) (LR : List Nat), i + d = ps.length → RAt w' w.heap.size (ft ps i) true [] false LR → (∀ x, x ∈ LR → x = w.heap.size ∨ w5.heap.size ≤ x) → QAt w' w1.heap.size [] [] 0 [w1.heap.size] →
      BS w' r ps.flatten L5 → (ft ps i).length ≤ 128 → w5.heap.size ≤ w'.heap.size → Ch [] w w' → I [.bool false, x7, x8, I64 i, x43, x50] w' := by
    intro d
    induction d with
    | zero =>
      intro i x7 x8 x43 x50 w6 LR hi hr6 hlr hq6 hbs6 h128 hsz6 hcw6
      refine hC _ _ _ _ _ _ _ ?_
      rw [ft_all (by omega)] at hr6 h128
      obtain ⟨Ar, cr, rfl, hcr1, hcr2⟩ := Own.shape hbs6
      rw [lt_v, decide_eq_false (by omega), br_false]
      refine last_ hr6 fun w7 hc7 hs7 => ?_
      have hr7 := hr6.ch hc7 (by simp)
      have hq7 := hq6.ch hc7 (by simp)
      have hbs7 := Own.ch hbs6 hc7 (by simp)
      have hcw7 : Ch [] w w7 := hcw6.trans hc7 (by simp)
      rw [x20, x21, br_false, strV_nil, nes_v, decide_eq_false (by simp), br_false]
      refine on_ hr7 ?_
      rw [not_v, show (!true) = false from rfl, br_false]
      refine end_ hr7 (fun h => by cases h) (fun _ w8 hr8 hc8 => ?_)
      have hcw8 : Ch [] w w8 := hcw7.trans hc8 (by grind)
      have hq8 := hq7.ch hc8 (by grind)
      have hbs8 := Own.ch hbs7 hc8 (by grind)
      rw [ne_v, decide_eq_false (by simp), br_false]
      refine on_ hr8 ?_
      rw [br_false]
      refine last_ hr8 fun w9 hc9 hs9 => ?_
      have hq9 := hq8.ch hc9 (by simp)
      have hbs9 := Own.ch hbs8 hc9 (by simp)
      have hcw9 : Ch [] w w9 := hcw8.trans hc9 (by simp)
      rw [x20, x21, not_v, show (!true) = false from rfl, br_false, cvbs_v byT22 und9 (Own.rd hbs9), nes_v, decide_eq_false (by simp), br_false]
      refine cvsb byT22 und9 (by omega) fun va w10 hrd10 hc10 => ?_
      have hq10 := hq9.ch hc10 (by simp)
      have hbs10 := Own.ch hbs9 hc10 (by simp)
      have hcw10 : Ch [] w w10 := hcw9.trans hc10 (by simp)
      refine push_ (bs := ps.flatten) hq10 hrd10 (by simp) (fun w11 L11 hq11 hc11 hl11 _ _ => ?_) (fun h => absurd h (by omega)) (fun _ h => absurd h (by simp))
      have hcw11 : Ch [] w w11 := hcw10.trans hc11 (by grind)
      have hbs11 := Own.ch hbs10 hc11 (by grind)
      have hsz10 := hcw10.size
      have hsz11 := hc11.size
      have hsz9 := hc9.size
      have hsz8 := hc8.size
      have hsz7 := hc7.size
      have hL5 : ∀ x, x ∈ L5 → x ∉ L11 := fun x hx hm => by
        have h10 := Own.lt hbs10 x hx
        have h4 := hl5 x hx
        rcases hl11 x hm with h | h
        · simp at h; omega
        · omega
      have hL11 : ∀ x, x ∈ L11 → w.heap.size ≤ x := fun x hx => by
        rcases hl11 x hx with h | h
        · simp at h; omega
        · omega
      rw [ne_v, decide_eq_false (by simp), br_false, len_v el22]
      have hms : (if ps.flatten = [] then [] else [] ++ [ps.flatten]) = (if ps.flatten = [] then [] else [ps.flatten]) := by split <;> rfl
      rw [hms] at hq11
      intro I1 hC1
      have key1 : ∀ (d j : Nat) (x12 x13 x14 x116 x131 : Value) (w' : World) (L' : List Nat) (run : Nat), j + d = ps.flatten.length → run = j → QAt w' w1.heap.size [] (if ps.flatten.drop j = [] then [] else [ps.flatten.drop j]) run L' → Ch [] w w' → BS w' (.slice Ar ps.flatten.length cr) ps.flatten L5 → (∀ x, x ∈ L' → x ∈ L11) →
          I1 [.bool false, x12, x13, x14, I64 j, x116, x131] w' := by
        intro d
        induction d with
        | zero =>
          intro j x12 x13 x14 x116 x131 w12 L12 run hj hrun hq12 hcw12 hbs12 hl12
          refine hC1 _ _ _ _ _ _ _ _ ?_
          have hnil : ps.flatten.drop j = [] := List.drop_eq_nil_of_le (by omega)
          rw [if_pos hnil] at hq12
          rw [lt_v, decide_eq_false (by omega), br_false]
          refine len_ hq12 (by simp [total]) ?_
          rw [eq_v, decide_eq_true (by simp [total])]
          exact k _ hcw12
        | succ d ih =>
          intro j x12 x13 x14 x116 x131 w12 L12 run hj hrun hq12 hcw12 hbs12 hl12
          refine hC1 _ _ _ _ _ _ _ _ ?_
          have hlt : j < ps.flatten.length := by omega
          have hget : ps.flatten[j]? = some ps.flatten[j] := List.getElem?_eq_getElem hlt
          have hdrop : ps.flatten.drop j = ps.flatten[j] :: ps.flatten.drop (j + 1) := List.drop_eq_getElem_cons hlt
          have hne : ps.flatten.drop j ≠ [] := by rw [hdrop]; exact List.cons_ne_nil _ _
          rw [if_neg hne, hdrop] at hq12
          rw [lt_v, decide_eq_true (by omega), br_true, ixr_v (j := j) el22 sc5 (Own.rd hbs12) rfl (u := byteV ps.flatten[j]) (bytesV_get hget)]
          refine next_mac (ms := []) hq12 (by omega) fun w13 L13 hq13 hc13 hl13 => ?_
          have hcw13 : Ch [] w w13 := hcw12.trans hc13 (by grind)
          rw [x30, x31, x32, not_v, show (!true) = false from rfl, br_false, neB_v, decide_eq_false (by simp), br_false, add_v, wrap_i64 (by omega) (by omega)]
          have := ih (j + 1) (byteV ps.flatten[j]) (byteV ps.flatten[j]) (.bool true) (.bool true) (.bool false) w13 L13 (run + 1) (by omega) (by omega) hq13 hcw13 (Own.ch hbs12 hc13 (by grind)) (by grind)
          rw [show ((j + 1 : Nat) : Int) = (j : Int) + 1 from by omega] at this
          exact this
      exact key1 ps.flatten.length 0 undef undef undef undef undef w11 L11 0 (by omega) rfl (by simpa using hq11) hcw11 hbs11 (fun x hx => hx)
    | succ d ih =>
      intro i x7 x8 x43 x50 w6 LR hi hr6 hlr hq6 hbs6 h128 hsz6 hcw6
      refine hC _ _ _ _ _ _ _ ?_
      have hlt : i < ps.length := by omega
      obtain ⟨hv, hh, hr⟩ := hp.each i _ (List.getElem?_eq_getElem hlt)
      have hs2 := ft_succ (List.getElem?_eq_getElem hlt)
      have hl4 := ft_le ps (i + 1)
      have hl5' : (ft ps (i + 1)).length = (ft ps i).length + ps[i].length := by rw [hs2, List.length_append]
      obtain ⟨Ar, cr, rfl, hcr1, hcr2⟩ := Own.shape hbs6
      have hq0 : ∀ x, x ∈ [w1.heap.size] → x ∉ LR := fun x hx hm => by
        simp at hx
        rcases hlr x hm with h | h <;> omega
      have hL5 : ∀ x, x ∈ L5 → x ∉ LR := fun x hx hm => by
        have h10 := hbl5 x hx
        have h4 := hl5 x hx
        rcases hlr x hm with h | h <;> omega
      have hLR : ∀ x, x ∈ LR → w.heap.size ≤ x := fun x hx => by
        rcases hlr x hx with h | h <;> omega
      rw [lt_v, decide_eq_true (by omega), br_true, ixr_v (j := i) el32 sc22 (hp.rd.ch hcw6 (by simp)) rfl hh]
      refine rput_ hr6 (hr.ch hcw6) h128 (by omega) (fun h => by cases h) (fun _ w7 L7 hr7 hc7 hl7 hle => ?_) (fun _ w7 L7 hr7 hc7 hl7 hgt => ?_)
      · have hcw7 : Ch [] w w7 := hcw6.trans hc7 (by grind)
        rw [ne_v, decide_eq_false (by simp), br_false, add_v, wrap_i64 (by omega) (by omega)]
        have hsz7 := hc7.size
        have := ih (i + 1) hv (I64 0) (.bool true) (.bool false) w7 L7 (by omega) (by rw [hs2]; exact hr7) (fun x hx => by
          rcases hl7 x hx with h | h
          · exact hlr x h
          · right; omega) (hq6.ch hc7 hq0) (Own.ch hbs6 hc7 hL5) (by omega) (by omega) hcw7
        rw [show ((i + 1 : Nat) : Int) = (i : Int) + 1 from by omega] at this
        exact this
      · have hcw7 : Ch [] w w7 := hcw6.trans hc7 (by grind)
        rw [ne_v, decide_eq_true (by simp), br_true, eq_v, decide_eq_true (by simp), br_true, len_v el22, gt_v, decide_eq_true (by omega), br_true]
        refine on_ hr7 ?_
        rw [not_v, show (!false) = true from rfl, br_true]
        refine end_ hr7 (fun _ => ?_) (fun h => by cases h)
        rw [eq_v, decide_eq_true rfl]
        exact k _ hcw7
  exact key ps.length 0 undef undef undef undef w5 [w.heap.size] (by omega) (by simpa [ft] using hr5) (by simp) hq5 hbs5 (by simp [ft]) (Nat.le_refl _) hcw5
end
end Go.Proofs.Ythpbiliajcameaa
