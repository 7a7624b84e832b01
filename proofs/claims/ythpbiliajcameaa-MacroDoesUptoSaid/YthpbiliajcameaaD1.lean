import Derived.Test.YthpbiliajcameaaJ
import Derived.Test.YthpbiliajcameaaFwAgg
import Derived.Lib.AppendZeros
set_option linter.unusedVariables false
set_option maxRecDepth 4000
namespace Go.Proofs.Ythpbiliajcameaa
open Go Go.Fw Go.Proofs Go.RowKit
/-! ### Go's slices.Grow, Clone, Concat; the reference's join -/
section
variable {w : World} {K : Value → World → Prop}
theorem cap0_v : S.v Try.prog (Builtin.cap_ #[22] 3 #[.slice none 0 0]) K w = K (I64 0) w := v_eq (by kernel_rfl)
theorem grow_ {n : Nat} (hn : n ≤ 140737488355328) (k : ∀ v w' L, Own w' 5 1 v 0 [] L → Ch [] w w' → (∀ x, x ∈ L → w.heap.size ≤ x) → K v w') : S.call Try.prog 46 [.slice none 0 0, I64 n] K w := by
  refine F46_link ?_
  unfold F46
  refine seq_ok fun J hJ => ?_
  rw [lt_v, decide_eq_false (by omega), br_false]
  refine hJ _ _ ?_
  clear hJ
  refine seq_ok fun J1 hJ1 => ?_
  rw [cap0_v, len_v el22, sub_v, show IntKind.i64.wrap ((0 : Int) - ((0 : Nat) : Int)) = 0 from by rw [wrap_i64 (by omega) (by omega)]; rfl, sub_v, wrap_i64 (by omega) (by omega), gt_v]
  refine br_dec _ _ _ (fun hpos => ?_) (fun hz => ?_)
  · have hp : 0 < n := by omega
    obtain ⟨i, hi, hs, hby, hzz⟩ := sl22.info
    rw [cap0_v, cutu_v (i := 0) el22 0 rfl (Nat.le_refl _), show cutS 1 none 0 0 0 = Value.slice none 0 0 from rfl, show (n : Int) - 0 = n from by omega]
    have hr := Go.Lib.run_append_nil_zeros (P := Try.prog) w 22 3 22 5 i _ .i64 .i64 und22 Try.underlying3 hi hzz n hp (by omega) (by omega) (by rw [hby]; omega)
    rw [v_eq hr, len_v el22]
    have hge := grownCap_ge w n 0 5
    have hcm := grownCap_le_maxLen w n 0 5 (by simp only [maxLen]; omega)
    have hc : Ch [] w (w.drew.alloc (.cells (Builtin.zeroCells (Value.int .u8 0).cells n ++ Builtin.zeroCells (Value.int .u8 0).cells (grownCap w n 0 5 - n)) 5)) := (Ch.drew w).trans (ch_alloc w.drew _) (by simp)
    have hsz : (Builtin.zeroCells (Value.int .u8 0).cells n ++ Builtin.zeroCells (Value.int .u8 0).cells (grownCap w n 0 5 - n)).size = grownCap w n 0 5 := by
      simp only [Array.size_append, size_zeroCells]
      simp [Value.cells]
      omega
    have ho : Own (w.drew.alloc (.cells (Builtin.zeroCells (Value.int .u8 0).cells n ++ Builtin.zeroCells (Value.int .u8 0).cells (grownCap w n 0 5 - n)) 5)) 5 1 (.slice (some ⟨w.heap.size, 0, none⟩) n (grownCap w n 0 5)) n (((Builtin.zeroCells (Value.int .u8 0).cells n ++ Builtin.zeroCells (Value.int .u8 0).cells (grownCap w n 0 5 - n)).toList.drop 0).take (n * 1)) [w.heap.size] := by
      refine ⟨?_, .inr ⟨w.heap.size, 0, _, _, rfl, rfl, heap_alloc_new w.drew _, hge, hcm, ?_, rfl⟩⟩
      · rw [List.length_take, List.length_drop, Array.length_toList, hsz]; omega
      · rw [hsz]; omega
    have hcut := ho.cut (l := 0) (u := 0) (Nat.le_refl _) (Nat.zero_le _)
    rw [cutu_v (i := ((0 : Nat) : Int)) el22 0 rfl (Nat.zero_le _)]
    refine hJ1 _ _ ?_
    refine k _ _ [w.heap.size] ?_ hc (by simp)
    simpa using hcut
  · refine hJ1 _ _ ?_
    exact k _ _ [] (Own.nil _ _ _) (Ch.refl _ _) (by simp)
theorem bclone_ {B : Nat} {v : Value} {bs : List UInt8} (h : RB w B v bs) (hB : B ≤ w.heap.size) (hl : bs.length ≤ 140737488355328) (k : ∀ r w' L, BS w' r bs L → Ch [] w w' → (∀ x, x ∈ L → w.heap.size ≤ x) → K r w') : S.call Try.prog 45 [v] K w := by
  have h0 := h
  obtain ⟨A, c, rfl, hc1, hc2, h4, _⟩ := h.form
  refine F45_link ?_
  unfold F45
  rw [eqsl_v el22]
  cases A with
  | none =>
    have hn : bs = [] := by
      rcases Nat.eq_zero_or_pos bs.length with h | h
      · exact List.eq_nil_of_length_eq_zero h
      · obtain ⟨b, off, e, _⟩ := h4 h; cases e
    subst hn
    rw [Option.isNone_none, br_true]
    exact k _ _ [] (Own.nil _ _ _) (Ch.refl _ _) (by simp)
  | some a =>
    rw [Option.isNone_some, br_false]
    refine bs0 sl22 ?_
    intro w1 ho1 hcw1 hs1
    have hr1 : Rd w1 B 1 (.slice (some a) bs.length c) bs.length (bytesV bs) := Rd.ch h0 hcw1 (by simp)
    refine ap (n := 0) (m := bs.length) (xs := []) (news := bytesV bs) sl22 ho1 hr1 one_bytesV (by omega) (by omega) fun v2 w2 L2 ho2 hcw2 hl2 => ?_
    refine k _ _ L2 ?_ (hcw1.trans hcw2 (by simp)) (fun x hx => ?_)
    · have := ho2
      rw [List.nil_append, Nat.zero_add] at this
      exact this
    · rcases hl2 x hx with h | h
      · simp at h; omega
      · omega
theorem rjoin_ {B1 B2 : Nat} {a b : Value} {xs ys : List UInt8} (ha : RB w B1 a xs) (hb : RB w B2 b ys) (hl : xs.length + ys.length ≤ 140737488355328) (k : ∀ r w' L, BS w' r (xs ++ ys) L → Ch [] w w' → (∀ x, x ∈ L → w.heap.size ≤ x) → K r w') : S.call Try.prog 42 [a, b] K w := by
  refine F42_link ?_
  unfold F42
  have ha' : Rd w B1 1 a xs.length (bytesV xs) := ha
  refine ap (m := xs.length) (news := bytesV xs) sl22 (Own.nil _ _ _) ha' one_bytesV (by omega) (by omega) fun v1 w1 L1 ho1 hc1 hl1 => ?_
  rw [List.nil_append, Nat.zero_add] at ho1
  have hb' : Rd w1 B2 1 b ys.length (bytesV ys) := Rd.ch hb hc1 (by simp)
  refine ap (m := ys.length) (news := bytesV ys) sl22 ho1 hb' one_bytesV (by omega) (by omega) fun v2 w2 L2 ho2 hc2 hl2 => ?_
  have hs1 := hc1.size
  have hf1 : ∀ x, x ∈ L1 → w.heap.size ≤ x := fun x hx => by simpa using hl1 x hx
  refine k _ _ L2 ?_ (hc1.trans hc2 (fun x hx => .inr (hf1 x hx))) (fun x hx => ?_)
  · unfold BS
    rw [List.length_append, bytesV_append]
    exact ho2
  · rcases hl2 x hx with h | h
    · exact hf1 x h
    · omega
theorem concat_ {B : Nat} {v : Value} {ps : List (List UInt8)} {hs : List Value} (hp : Parts w B v ps hs) (ht : ps.flatten.length ≤ 140737488355328) (hB : B ≤ w.heap.size) (k : ∀ r w' L, BS w' r ps.flatten L → Ch [] w w' → (∀ x, x ∈ L → w.heap.size ≤ x) → K r w') : S.call Try.prog 44 [v] K w := by
  refine F44_link ?_
  unfold F44
  obtain ⟨A, c, rfl, hc1, hc2, _⟩ := hp.rd.form
  have hcm : c ≤ 9223372036854775807 := by simp only [maxLen] at hc2; omega
  rw [len_v el32]
  intro I hC
  have key : ∀ (d i : Nat) (x5 x12 x20 : Value), i + d = ps.length → I [I64 (ft ps i).length, x5, I64 i, x12, x20] w := by
    intro d
    induction d with
    | zero =>
      intro i x5 x12 x20 hi
      refine hC _ _ _ _ _ _ ?_
      rw [lt_v, decide_eq_false (by omega), br_false, ft_all (by omega)]
      refine grow_ ht fun v1 w1 L1 ho1 hc1' hl1 => ?_
      rw [len_v el32]
      have hp1 := hp.ch hc1' (by simp)
      have hs1 := hc1'.size
      intro I1 hC1
      have key1 : ∀ (d j : Nat) (x6 x8 x28 : Value) (w' : World) (L' : List Nat), j + d = ps.length → BS w' x6 (ft ps j) L' → Ch [] w w' → (∀ x, x ∈ L' → w.heap.size ≤ x) → I1 [x6, x8, I64 j, x28] w' := by
        intro d
        induction d with
        | zero =>
          intro j x6 x8 x28 w2 L2 hj ho2 hc2 hl2
          refine hC1 _ _ _ _ _ ?_
          rw [lt_v, decide_eq_false (by omega), br_false]
          rw [ft_all (by omega)] at ho2
          exact k x6 w2 L2 ho2 hc2 hl2
        | succ d ih =>
          intro j x6 x8 x28 w2 L2 hj ho2 hc2 hl2
          refine hC1 _ _ _ _ _ ?_
          have hlt : j < ps.length := by omega
          have hget : ps[j]? = some ps[j] := List.getElem?_eq_getElem hlt
          obtain ⟨h, hh1, hh2⟩ := hp.each j _ hget
          have hp2 := hp.rd.ch hc2 (by simp)
          rw [lt_v, decide_eq_true (by omega), br_true, ixr_v (j := j) el32 sc22 hp2 rfl hh1]
          have hsucc := ft_succ hget
          have hle := ft_le ps (j + 1)
          rw [hsucc, List.length_append] at hle
          have hrb : Rd w2 B 1 h ps[j].length (bytesV ps[j]) := Rd.ch hh2 hc2 (by simp)
          have ho2' : Own w2 5 1 x6 (ft ps j).length (bytesV (ft ps j)) L2 := ho2
          refine ap (m := ps[j].length) (news := bytesV ps[j]) sl22 ho2' hrb one_bytesV (by omega) (by omega) fun v3 w3 L3 ho3 hc3 hl3 => ?_
          rw [add_v, wrap_i64 (by omega) (by omega)]
          have hs2 := hc2.size
          have := ih (j + 1) v3 h (.bool true) w3 L3 (by omega) (by
            rw [hsucc]; unfold BS; rw [List.length_append, bytesV_append]; exact ho3) (hc2.trans hc3 (fun x hx => .inr (hl2 x hx))) (fun x hx => by
              rcases hl3 x hx with h | h
              · exact hl2 x h
              · omega)
          rw [show ((j + 1 : Nat) : Int) = (j : Int) + 1 from by omega] at this
          exact this
      exact key1 ps.length 0 v1 undef undef w1 L1 (by omega) ho1 hc1' hl1
    | succ d ih =>
      intro i x5 x12 x20 hi
      refine hC _ _ _ _ _ _ ?_
      have hlt : i < ps.length := by omega
      have hget : ps[i]? = some ps[i] := List.getElem?_eq_getElem hlt
      obtain ⟨h, hh1, hh2⟩ := hp.each i _ hget
      have hsucc := ft_succ hget
      have hle := ft_le ps (i + 1)
      rw [hsucc, List.length_append] at hle
      rw [lt_v, decide_eq_true (by omega), br_true]
      refine seq_ok fun J hJ => ?_
      rw [ixr_v (j := i) el32 sc22 hp.rd rfl hh1]
      obtain ⟨A', c', rfl, _⟩ := hh2.form
      rw [len_v el22, add_v, wrap_i64 (by omega) (by omega), lt_v, decide_eq_false (by omega), br_false]
      refine hJ _ _ ?_
      rw [add_v, wrap_i64 (by omega) (by omega)]
      have := ih (i + 1) (.slice A' ps[i].length c') (.bool true) (.bool false) (by omega)
      rw [hsucc, List.length_append, show ((i + 1 : Nat) : Int) = (i : Int) + 1 from by omega, show (((ft ps i).length + ps[i].length : Nat) : Int) = ((ft ps i).length : Int) + (ps[i].length : Int) from by omega] at this
      exact this
  exact key ps.length 0 undef undef undef (by omega)
end
end Go.Proofs.Ythpbiliajcameaa
