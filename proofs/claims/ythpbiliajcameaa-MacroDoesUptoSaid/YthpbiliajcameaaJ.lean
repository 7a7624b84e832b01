import Derived.Test.YthpbiliajcameaaR
import Derived.Test.YthpbiliajcameaaFwOps3
set_option linter.unusedVariables false
namespace Go.Proofs.Ythpbiliajcameaa
open Go Go.Fw Go.Proofs Go.RowKit
/-- A slice of byte slices that is only read. -/
structure Parts (w : World) (B : Nat) (v : Value) (ps : List (List UInt8)) (hs : List Value) : Prop where
  rd : Rd w B 1 v ps.length hs
  each : ∀ (i : Nat) (p : List UInt8), ps[i]? = some p → ∃ h, hs[i]? = some h ∧ RB w B h p
theorem Parts.ch {w w' : World} {B : Nat} {v : Value} {ps : List (List UInt8)} {hs : List Value} {M : List Nat} (h : Parts w B v ps hs) (hc : Ch M w w') (hd : ∀ x, x ∈ M → B ≤ x) : Parts w' B v ps hs :=
  ⟨h.rd.ch hc hd, fun i p hp => by
    obtain ⟨x, h1, h2⟩ := h.each i p hp
    exact ⟨x, h1, Rd.ch h2 hc hd⟩⟩
def ft (ps : List (List UInt8)) (i : Nat) : List UInt8 := (ps.take i).flatten
theorem ft_succ {ps : List (List UInt8)} {i : Nat} {p : List UInt8} (h : ps[i]? = some p) : ft ps (i + 1) = ft ps i ++ p := by
  obtain ⟨hi, rfl⟩ := List.getElem?_eq_some_iff.1 h
  unfold ft
  rw [List.take_succ_eq_append_getElem hi, List.flatten_append]
  simp
theorem ft_all {ps : List (List UInt8)} {i : Nat} (h : ps.length ≤ i) : ft ps i = ps.flatten := by
  simp [ft, List.take_of_length_le h]
theorem ft_le (ps : List (List UInt8)) (i : Nat) : (ft ps i).length ≤ ps.flatten.length := by
  have : ps.flatten = ft ps i ++ (ps.drop i).flatten := by
    unfold ft
    rw [← List.flatten_append, List.take_append_drop]
  rw [this]; simp
theorem makeNoZero_26 : Try.prog.funcs[26]? = some Try.f26 := by kernel_rfl
section
variable {w : World} {K : Value → World → Prop}
theorem join_ {B : Nat} {v : Value} {ps : List (List UInt8)} {hs : List Value} (hp : Parts w B v ps hs) (ht : ps.flatten.length ≤ 1099511627776) (hB : B ≤ w.heap.size)
    (k : ∀ r w' L, BS w' r ps.flatten L → Ch [] w w' → (∀ x, x ∈ L → w.heap.size ≤ x) → K r w') : S.call Try.prog 15 [v, .slice none 0 0] K w := by
  obtain ⟨A, c, rfl, hc1, hc2, _⟩ := hp.rd.form
  have hcm : c ≤ 9223372036854775807 := by simp only [maxLen] at hc2; omega
  refine F15_link ?_
  unfold F15
  rw [len_v el32, eq_v]
  refine br_dec _ _ _ (fun h0 => ?_) (fun h0 => ?_)
  · have hnil : ps = [] := List.eq_nil_of_length_eq_zero (by omega)
    subst hnil
    refine bs0 sl22 fun w1 ho1 hc1 hs1 => ?_
    exact k _ _ _ ho1 hc1 (by simp)
  rw [len_v el32, eq_v]
  refine br_dec _ _ _ (fun h1 => ?_) (fun h1 => ?_)
  · have hlen : ps.length = 1 := by omega
    obtain ⟨p, rfl⟩ : ∃ p, ps = [p] := by
      match ps, hlen with
      | [p], _ => exact ⟨p, rfl⟩
    obtain ⟨h, hh, hr⟩ := hp.each 0 p rfl
    have hfl : [p].flatten = p := by simp
    rw [hfl] at ht k
    rw [ixr_v (i := 0) (j := 0) el32 sc22 hp.rd rfl hh]
    refine ap sl22 (Own.nil _ _ _) hr one_bytesV (by omega) (by omega) fun v1 w1 L1 ho1 hc1 hl1 => ?_
    refine k _ _ L1 ?_ hc1 (fun x hx => by simpa using hl1 x hx)
    simpa [BS] using ho1
  · refine seq_ok fun J hJ => ?_
    rw [len_v el22, gt_v, decide_eq_false (by simp), br_false]
    refine hJ _ _ ?_
    clear hJ
    rw [nth_zero, len_v el32]
    intro I hC
    have key : ∀ (d i : Nat) (x7 x45 x52 : Value), i + d = ps.length → I [I64 ((ft ps i).length : Nat), x7, I64 (i : Int), x45, x52] w := by
      intro d
      induction d with
      | zero =>
        intro i x7 x45 x52 hi
        refine hC _ _ _ _ _ _ ?_
        rw [lt_v, decide_eq_false (by omega), br_false, ft_all (by omega)]
        refine mnz (ps := #[3]) makeNoZero_26 (by kernel_rfl) (by kernel_rfl) (by kernel_rfl) (by kernel_rfl) und22 (by omega) fun w1 c1 xs1 ho1 hcw1 hs1 hle1 => ?_
        rw [cut3_v el22 (Nat.le_refl _) hle1]
        have ho1' := ho1.shrink (Nat.le_refl _) hle1
        have hpos : 0 < ps.length := by omega
        obtain ⟨h0v, hh0, hr0⟩ := hp.each 0 _ (List.getElem?_eq_getElem hpos)
        rw [ixr_v (i := 0) (j := 0) el32 sc22 (hp.rd.ch hcw1 (by simp)) rfl hh0]
        have hf1 : ft ps 1 = ps[0] := by
          have := ft_succ (List.getElem?_eq_getElem hpos)
          simpa [ft] using this
        have hl1 := ft_le ps 1
        rw [hf1] at hl1
        refine cp (ats := #[22, 22]) sl22 rfl ho1' (hr0.ch hcw1) one_bytesV hl1 fun w2 ho2 hcw2 hs2 => ?_
        have hcw02 : Ch [] w w2 := hcw1.trans hcw2 (by grind)
        rw [cutl_v (i := 1) el32 1 rfl hpos hc1]
        have hcut := Rd.cut hp.rd (l := 1) (u := ps.length) hpos (Nat.le_refl _) (by omega)
        rw [Nat.mul_one, Nat.mul_one] at hcut
        obtain ⟨A3, c3, hA3, _⟩ := hcut.form
        rw [lenr_v el32 (hcut.ch hcw02 (by simp))]
        intro I1 hC1
        have key1 : ∀ (d j : Nat) (x11 x73 : Value) (w' : World) (xs : List Value), j + d = ps.length - 1 →
            Own w' 5 1 (.slice (some ⟨w.heap.size, 0, none⟩) ps.flatten.length ps.flatten.length) ps.flatten.length xs [w.heap.size] → xs.take (ft ps (j + 1)).length = bytesV (ft ps (j + 1)) → Ch [] w w' →
            I1 [I64 ((ft ps (j + 1)).length : Nat), x11, I64 (j : Int), x73] w' := by
          intro d
          induction d with
          | zero =>
            intro j x11 x73 w3 xs hj ho3 hx3 hcw3
            refine hC1 _ _ _ _ _ ?_
            rw [lt_v, decide_eq_false (by omega), br_false]
            rw [ft_all (by omega)] at hx3
            have hlx : xs.length = ps.flatten.length := by have := ho3.len; omega
            rw [List.take_of_length_le (by omega)] at hx3
            subst hx3
            exact k _ _ _ ho3 hcw3 (by simp)
          | succ d ih =>
            intro j x11 x73 w3 xs hj ho3 hx3 hcw3
            refine hC1 _ _ _ _ _ ?_
            have hlt : j + 1 < ps.length := by omega
            obtain ⟨hv, hh, hr⟩ := hp.each (j + 1) _ (List.getElem?_eq_getElem hlt)
            have hget : ((hs.drop 1).take (ps.length - 1))[j]? = some hv := by
              rw [List.getElem?_take_of_lt (by omega), List.getElem?_drop, Nat.add_comm]
              exact hh
            have hl3 := ft_le ps (j + 1)
            have hs2 := ft_succ (List.getElem?_eq_getElem hlt)
            have hl4 := ft_le ps (j + 1 + 1)
            have hl5 : (ft ps (j + 1 + 1)).length = (ft ps (j + 1)).length + ps[j + 1].length := by rw [hs2, List.length_append]
            rw [lt_v, decide_eq_true (by omega), br_true, ixr_v (j := j) el32 sc22 (hcut.ch hcw3 (by simp)) rfl hget, cutl_v el22 _ rfl hl3 (Nat.le_refl _)]
            refine cpAt (ats := #[22, 22]) (news := []) (m := 0) (B := 0) sl22 rfl ho3 ⟨rfl, none, 0, rfl, Nat.le_refl _, Nat.zero_le _, fun h => absurd h (by omega), fun b off h => by cases h⟩ (by simp) hl3 fun w4 ho4 hcw4 hs4 => ?_
            rw [add_v, wrap_i64 (by omega) (by omega), cutl_v el22 (ft ps (j + 1)).length (by simp) hl3 (Nat.le_refl _)]
            have hcw04 : Ch [] w w4 := hcw3.trans hcw4 (by grind)
            have e0 : List.take ((ft ps (j + 1)).length * 1) xs ++ ([] ++ List.drop (((ft ps (j + 1)).length + 0) * 1) xs) = xs := by simp
            rw [e0] at ho4
            refine cpAt (ats := #[22, 22]) sl22 rfl ho4 (hr.ch hcw04) one_bytesV (by omega) fun w5 ho5 hcw5 hs5 => ?_
            have hcw05 : Ch [] w w5 := hcw04.trans hcw5 (by grind)
            rw [add_v, wrap_i64 (by omega) (by omega), add_v, wrap_i64 (by omega) (by omega)]
            have := ih (j + 1) hv (.bool true) w5 _ (by omega) ho5 (by
              rw [Nat.mul_one, hx3, hl5, hs2, bytesV_append]
              have hle : (bytesV (ft ps (j + 1))).length = (ft ps (j + 1)).length := length_bytesV _
              have hle2 : (bytesV ps[j + 1]).length = ps[j + 1].length := length_bytesV _
              rw [← List.append_assoc, List.take_append_of_le_length (by rw [List.length_append]; omega), List.take_of_length_le (by rw [List.length_append]; omega)]) hcw05
            rw [hl5] at this
            have e1 : (((ft ps (j + 1)).length + ps[j + 1].length : Nat) : Int) = ((ft ps (j + 1)).length : Int) + ((0 : Nat) : Int) + (ps[j + 1].length : Int) := by omega
            have e2 : ((j + 1 : Nat) : Int) = (j : Int) + 1 := by omega
            rw [e1, e2] at this
            exact this
        have := key1 (ps.length - 1) 0 undef undef w2 _ (by omega) ho2 (by
          rw [hf1, List.take_append_of_le_length (by rw [length_bytesV]; exact Nat.le_refl _), List.take_of_length_le (by rw [length_bytesV]; exact Nat.le_refl _)]) hcw02
        rw [hf1] at this
        exact this
      | succ d ih =>
        intro i x7 x45 x52 hi
        refine hC _ _ _ _ _ _ ?_
        have hlt : i < ps.length := by omega
        obtain ⟨hv, hh, hr⟩ := hp.each i _ (List.getElem?_eq_getElem hlt)
        have hs2 := ft_succ (List.getElem?_eq_getElem hlt)
        have hl4 := ft_le ps (i + 1)
        have hl5 : (ft ps (i + 1)).length = (ft ps i).length + ps[i].length := by rw [hs2, List.length_append]
        rw [lt_v, decide_eq_true (by omega), br_true, ixr_v (j := i) el32 sc22 hp.rd rfl hh]
        refine seq_ok fun J1 hJ1 => ?_
        rw [lenr_v el22 hr, sub_v, wrap_i64 (by omega) (by omega), gt_v, decide_eq_false (by omega), br_false]
        refine hJ1 _ _ ?_
        rw [lenr_v el22 hr, add_v, wrap_i64 (by omega) (by omega), add_v, wrap_i64 (by omega) (by omega)]
        have := ih (i + 1) hv (.bool true) (.bool false) (by omega)
        rw [hl5] at this
        have e1 : (((ft ps i).length + ps[i].length : Nat) : Int) = ((ft ps i).length : Int) + (ps[i].length : Int) := by omega
        have e2 : ((i + 1 : Nat) : Int) = (i : Int) + 1 := by omega
        rw [e1, e2] at this
        exact this
    have := key ps.length 0 undef undef undef (by omega)
    simpa [ft] using this
end
end Go.Proofs.Ythpbiliajcameaa
