import Derived.Test.YthpbiliajcameaaQ2
set_option linter.unusedVariables false
namespace Go.Proofs.Ythpbiliajcameaa
open Go Go.Fw Go.Proofs Go.RowKit
section
variable {w : World} {K : Value → World → Prop}
theorem rb_one {g : Nat} {v : Value} {c : UInt8} {L : List Nat} (h : Own w 5 1 v 1 [byteV c] L) : RB w w.heap.size v [c] := h.rd
theorem RB.ch {B : Nat} {v : Value} {bs : List UInt8} {w' : World} (h : RB w B v bs) (hc : Ch [] w w') : RB w' B v bs := Rd.ch h hc (by simp)
theorem neB_v {t : TypeId} {x y : Operand} {a b : UInt8} : S.v Try.prog (S.bin .neq t x y (byteV a) (byteV b)) K w = K (.bool (decide (a ≠ b))) w := by
  unfold byteV
  rw [ne_v]
  congr 2
  have : ((a.toNat : Int) ≠ b.toNat) ↔ a ≠ b := by
    exact ⟨fun h e => h (by rw [e]), fun h e => h (UInt8.toNat_inj.1 (by omega))⟩
  exact decide_eq_decide.2 this
/-- A cell of a byte slice that came in. -/
theorem rb_at {B : Nat} {A : Option Addr} {c : Nat} {bs : List UInt8} {i : Nat} {x : UInt8} (h : RB w B (.slice A bs.length c) bs) (hi : bs[i]? = some x) : ∃ g off, A = some ⟨g, off, none⟩ ∧ w.cell? ⟨g, off + i, none⟩ = some (byteV x) := by
  obtain ⟨A', c', he, _, _, h4, h5⟩ := h.form
  injection he with he _ he2
  subst he
  have hlt := (List.getElem?_eq_some_iff.1 hi).1
  obtain ⟨g, off, rfl, hg⟩ := h4 (by omega)
  exact ⟨g, off, rfl, h5 g off rfl i _ (by simp [bytesV, hi])⟩
theorem begun_ (k : ∀ w', Ch [] w w' → K (.bool true) w') : S.call Try.prog 7 [] K w := by
  refine F7_link ?_
  unfold F7
  refine newq_ fun w1 hq1 hc1 hsz1 => ?_
  rw [eqn_v pt23, Option.isNone_some, br_false]
  refine bs1 sl22 rfl rfl fun w2 ho2 hc2 hsz2 => ?_
  have hq2 := hq1.ch hc2 (by simp)
  refine put_ (bs := [97]) hq2 ho2.rd (by simp) (by simp) (fun w3 L3 hq3 hc3 hl3 _ => ?_) (fun h => absurd h (by simp))
  rw [ne_v, decide_eq_false (by simp), br_false]
  refine bs1 sl22 rfl rfl fun w4 ho4 hc4 hsz4 => ?_
  have hq4 := hq3.ch hc4 (by simp)
  refine push_ (bs := [120]) hq4 ho4.rd (by simp) (fun w5 L5 hq5 hc5 hl5 _ _ => ?_) (fun h => absurd h (by simp)) (fun _ h => absurd h (by simp))
  rw [ne_v, decide_eq_false (by simp), br_false]
  refine len_ hq5 (by simp [total]) ?_
  rw [ne_v, decide_eq_false (by simp [total]), br_false]
  refine next_mac (ms := []) (c := 120) (m := []) hq5 (by omega) fun w6 L6 hq6 hc6 hl6 => ?_
  rw [x30, x31, x32]
  refine next_rest hq6 (.inr rfl) (fun w7 L7 c t hct hq7 hc7 hl7 => ?_) (fun _ _ h => absurd h (by simp))
  rw [x30, x31, x32]
  have hc : c = 97 := by simp at hct; exact hct.1.symm
  subst hc
  rw [show byteV 120 = Value.int .u8 120 from rfl, eq_v, decide_eq_true rfl, br_true, br_true, not_v]
  rw [show (!false) = true from rfl, br_true, show byteV 97 = Value.int .u8 97 from rfl, eq_v, decide_eq_true rfl, br_true, br_true]
  refine k w7 ?_
  have h12 : Ch [] w w2 := hc1.trans hc2 (by simp)
  have hb := hsz1
  have s2 := hc2.size
  have s3 := hc3.size
  have s4 := hc4.size
  have s5 := hc5.size
  have s6 := hc6.size
  have h13 : Ch [] w w3 := h12.trans hc3 (by grind)
  have h14 : Ch [] w w4 := h13.trans hc4 (by simp)
  have h15 : Ch [] w w5 := h14.trans hc5 (by grind)
  have h16 : Ch [] w w6 := h15.trans hc6 (by grind)
  exact h16.trans hc7 (by grind)
set_option maxHeartbeats 1000000 in
theorem order_ {B : Nat} {v1 v3 : Value} {typed pushed : List UInt8} {many : Int} (hB : B ≤ w.heap.size) (h1 : RB w B v1 typed) (h3 : RB w B v3 pushed) 
    (hmany : -9223372036854775808 ≤ many ∧ many ≤ 9223372036854775807)
    (k : ∀ w', Ch [] w w' → K (.bool true) w') :
    S.call Try.prog 3 [v1, .int .i64 many, v3] K w := by
  obtain ⟨A1, c1, rfl, hc11, hc12, _⟩ := h1.form
  obtain ⟨A3, c3, rfl, hc31, hc32, _⟩ := h3.form
  have hl1 : typed.length ≤ 9223372036854775807 := by have := hc12; simp only [maxLen] at this; omega
  have hl3 : pushed.length ≤ 9223372036854775807 := by have := hc32; simp only [maxLen] at this; omega
  refine F3_link ?_
  unfold F3
  refine newq_ fun w1 hq1 hc1 hsz1 => ?_
  refine begun_ fun w2 hc2 => ?_
  have hq2 := hq1.ch hc2 (by simp)
  have hcw2 : Ch [] w w2 := hc1.trans hc2 (by simp)
  rw [not_v, show (!true) = false from rfl, br_false, eqn_v pt23, Option.isNone_some, br_false]
  refine put_ (bs := typed) hq2 (h1.ch hcw2) (by simp) (by omega) (fun w3 L3 hq3 hc3 hl3 hle => ?_) (fun hgt => ?_)
  · rw [ne_v, decide_eq_false (by simp), br_false]
    have hcw3 : Ch [] w w3 := hcw2.trans hc3 (by simp)
    have hL3 : ∀ x, x ∈ L3 → w.heap.size ≤ x := fun x hx => by
      have := hcw2.size
      rcases hl3 x hx with h | h
      · simp at h; omega
      · omega
    refine seq_ok fun J hJ => ?_
    have hj : ∀ (kk : Nat) (t52 : Value), kk ≤ typed.length → J [I64 kk, t52] w3 := by
      intro kk t52 hkk
      refine hJ _ _ ?_
      clear hJ
      intro I hC
      have key : ∀ (d i : Nat) (x6 x10 x11 x12 x13 x60 x81 : Value) (w' : World) (L' : List Nat), i + d = kk → QAt w' w.heap.size (typed.drop i) [] 0 L' → Ch [] w w' → (∀ x, x ∈ L' → w.heap.size ≤ x) →
          I [x6, x10, x11, x12, x13, I64 i, x60, x81] w' := by
        intro d
        induction d with
        | zero =>
          intro i x6 x10 x11 x12 x13 x60 x81 w4 L4 hi hq4 hcw4 hL4
          refine hC _ _ _ _ _ _ _ _ _ ?_
          obtain rfl : kk = i := by omega
          rw [nth_zero, lt_v, decide_eq_false (by omega), br_false]
          refine push_ (bs := pushed) hq4 (h3.ch hcw4) (by simp) (fun w5 L5 hq5 hc5 hl5 hp1 _ => ?_) (fun hgt => ?_) (fun _ h => absurd h (by simp))
          · have hcw5 : Ch [] w w5 := hcw4.trans hc5 (by grind)
            have hL5 : ∀ x, x ∈ L5 → w.heap.size ≤ x := fun x hx => by
              have := hcw4.size
              rcases hl5 x hx with h | h
              · exact hL4 x h
              · omega
            rw [ne_v, decide_eq_false (by simp), br_false]
            have hms : (if pushed = [] then [] else [] ++ [pushed]) = (if pushed = [] then [] else [pushed]) := by split <;> rfl
            rw [hms] at hq5
            refine depth_ hq5 ?_
            rw [eq_v, len_v el22, gt_v, neb_v bt4]
            have hd : (decide ((((if pushed = [] then [] else [pushed]) : List (List UInt8)).length : Int) = 1) == decide (0 < (pushed.length : Int))) = true := by
              by_cases hp : pushed = []
              · simp [hp]
              · have : 0 < pushed.length := List.length_pos_iff.2 hp
                simp [hp]
                omega
            rw [hd, show (!true) = false from rfl, br_false]
            have htot : total (if pushed = [] then [] else [pushed]) = pushed.length := by
              by_cases hp : pushed = [] <;> simp [hp, total]
            refine len_ hq5 (by rw [htot]; simp; omega) ?_
            rw [htot, len_v el22, sub_v, wrap_i64 (by omega) (by omega), len_v el22, add_v, wrap_i64 (by omega) (by omega), ne_v, decide_eq_false (by simp; omega), br_false, len_v el22]
            intro I1 hC1
            have key1 : ∀ (d i : Nat) (x6 x16 x17 x18 x19 x117 x135 : Value) (w' : World) (L' : List Nat) (run : Nat), i + d = pushed.length → run = i → QAt w' w.heap.size (typed.drop kk) (if pushed.drop i = [] then [] else [pushed.drop i]) run L' → Ch [] w w' → (∀ x, x ∈ L' → w.heap.size ≤ x) →
                I1 [x6, x16, x17, x18, x19, I64 i, x117, x135] w' := by
              intro d
              induction d with
              | zero =>
                intro i x6 x16 x17 x18 x19 x117 x135 w6 L6 run hi hrun hq6 hcw6 hL6
                refine hC1 _ _ _ _ _ _ _ _ _ ?_
                rw [lt_v, decide_eq_false (by omega), br_false, cutl_v el22 _ rfl (by omega) hc11]
                have hnil : pushed.drop i = [] := List.drop_eq_nil_of_le (by omega)
                rw [if_pos hnil] at hq6
                have hcut : RB w (B := B) (cutS 1 A1 c1 kk typed.length) (typed.drop kk) := by
                  have := Rd.cut h1 (l := kk) (u := typed.length) hkk (Nat.le_refl _) (by omega)
                  have e : ((bytesV typed).drop (kk * 1)).take ((typed.length - kk) * 1) = bytesV (typed.drop kk) := by simp [bytesV, List.take_of_length_le]
                  rw [e] at this
                  unfold RB
                  rw [List.length_drop]
                  exact this
                have hcut0 := hcut
                obtain ⟨A2, c2, hA2, _⟩ := hcut.form
                rw [hA2] at hcut ⊢
                rw [len_v el22]
                intro I2 hC2
                have key2 : ∀ (d j : Nat) (x6 x21 x22 x23 x24 x142 x161 : Value) (w' : World) (L' : List Nat) (run : Nat), j + d = (typed.drop kk).length → QAt w' w.heap.size ((typed.drop kk).drop j) [] run L' → Ch [] w w' → (∀ x, x ∈ L' → w.heap.size ≤ x) →
                    I2 [x6, x21, x22, x23, x24, I64 j, x142, x161] w' := by
                  intro d
                  induction d with
                  | zero =>
                    intro j x6 x21 x22 x23 x24 x142 x161 w8 L8 run hj hq8 hcw8 hL8
                    refine hC2 _ _ _ _ _ _ _ _ _ ?_
                    have hnil2 : (typed.drop kk).drop j = [] := List.drop_eq_nil_of_le (by omega)
                    rw [hnil2] at hq8
                    rw [lt_v, decide_eq_false (by omega), br_false]
                    refine next_rest hq8 (.inr rfl) (fun _ _ _ _ h => absurd h (by simp)) (fun w9 L9 _ hq9 hc9 hl9 => ?_)
                    have hcw9 : Ch [] w w9 := hcw8.trans hc9 (by grind)
                    rw [x30, x31, x32, not_v, show (!false) = true from rfl, br_true]
                    refine len_ hq9 (by simp [total]) ?_
                    rw [eq_v, decide_eq_true (by simp [total]), br_true]
                    refine depth_ hq9 ?_
                    rw [eq_v, decide_eq_true (by simp)]
                    exact k _ hcw9
                  | succ d ih =>
                    intro j x6 x21 x22 x23 x24 x142 x161 w8 L8 run hj hq8 hcw8 hL8
                    refine hC2 _ _ _ _ _ _ _ _ _ ?_
                    have hlt : j < (typed.drop kk).length := by omega
                    have hget : (typed.drop kk)[j]? = some (typed.drop kk)[j] := List.getElem?_eq_getElem hlt
                    have hdrop : (typed.drop kk).drop j = (typed.drop kk)[j] :: (typed.drop kk).drop (j + 1) := List.drop_eq_getElem_cons hlt
                    obtain ⟨g, off, rfl, hcell⟩ := rb_at (hcut.ch hcw8) hget
                    have hjl : (typed.drop kk).length ≤ typed.length := by rw [List.length_drop]; omega
                    rw [lt_v, decide_eq_true (by omega), br_true, ia_v el22 (by omega) (by omega), Int.toNat_natCast, Nat.mul_one, ld_v sc5 hcell]
                    refine next_rest hq8 (.inr rfl) (fun w9 L9 c t hct hq9 hc9 hl9 => ?_) (fun _ _ h => absurd h (by rw [hdrop]; exact List.cons_ne_nil _ _))
                    rw [hdrop] at hct
                    injection hct with hct1 hct2
                    subst hct1 hct2
                    have hcw9 : Ch [] w w9 := hcw8.trans hc9 (by grind)
                    rw [x30, x31, x32, neB_v, decide_eq_false (by simp), br_false, not_v, show (!true) = false from rfl, br_false, not_v, show (!true) = false from rfl, br_false, add_v, wrap_i64 (by omega) (by omega)]
                    have := ih (j + 1) x6 (byteV (typed.drop kk)[j]) (byteV (typed.drop kk)[j]) (.bool true) (.bool true) (.bool true) (.bool false) w9 L9 0 (by omega) hq9 hcw9 (by grind)
                    rw [show ((j + 1 : Nat) : Int) = (j : Int) + 1 from by omega] at this
                    exact this
                have := key2 (typed.drop kk).length 0 x6 undef undef undef undef undef undef w6 L6 run (by omega) (by simpa using hq6) hcw6 hL6
                exact this
              | succ d ih =>
                intro i x6 x16 x17 x18 x19 x117 x135 w6 L6 run hi hrun hq6 hcw6 hL6
                refine hC1 _ _ _ _ _ _ _ _ _ ?_
                have hlt : i < pushed.length := by omega
                have hget : pushed[i]? = some pushed[i] := List.getElem?_eq_getElem hlt
                have hdrop : pushed.drop i = pushed[i] :: pushed.drop (i + 1) := List.drop_eq_getElem_cons hlt
                obtain ⟨g, off, rfl, hcell⟩ := rb_at (h3.ch hcw6) hget
                rw [lt_v, decide_eq_true (by omega), br_true, ia_v el22 (by omega) (by omega), Int.toNat_natCast, Nat.mul_one, ld_v sc5 hcell]
                have hne : pushed.drop i ≠ [] := by rw [hdrop]; exact List.cons_ne_nil _ _
                rw [if_neg hne, hdrop] at hq6
                refine next_mac (ms := []) hq6 (by omega) fun w7 L7 hq7 hc7 hl7 => ?_
                have hcw7 : Ch [] w w7 := hcw6.trans hc7 (by grind)
                rw [x30, x31, x32, neB_v, decide_eq_false (by simp), br_false, not_v, show (!true) = false from rfl, br_false, br_false, add_v, wrap_i64 (by omega) (by omega)]
                have := ih (i + 1) x6 (byteV pushed[i]) (byteV pushed[i]) (.bool true) (.bool false) (.bool true) (.bool false) w7 L7 (run + 1) (by omega) (by omega) hq7 hcw7 (by grind)
                rw [show ((i + 1 : Nat) : Int) = (i : Int) + 1 from by omega] at this
                exact this
            have := key1 pushed.length 0 x6 undef undef undef undef undef undef w5 L5 0 (by omega) rfl (by simpa using hq5) hcw5 hL5
            exact this
          · rw [ne_v, decide_eq_true (by simp), br_true, eq_v, decide_eq_true (by simp), br_true, len_v el22, gt_v, decide_eq_true (by omega)]
            exact k _ hcw4
        | succ d ih =>
          intro i x6 x10 x11 x12 x13 x60 x81 w4 L4 hi hq4 hcw4 hL4
          refine hC _ _ _ _ _ _ _ _ _ ?_
          have hlt : i < typed.length := by omega
          have hget : typed[i]? = some typed[i] := List.getElem?_eq_getElem hlt
          have hdrop : typed.drop i = typed[i] :: typed.drop (i + 1) := List.drop_eq_getElem_cons hlt
          rw [nth_zero, lt_v, decide_eq_true (by omega), br_true]
          refine next_rest hq4 (.inr rfl) (fun w5 L5 c t hct hq5 hc5 hl5 => ?_) (fun _ _ h => absurd h (by rw [hdrop]; exact List.cons_ne_nil _ _))
          rw [hdrop] at hct
          injection hct with hct1 hct2
          subst hct1 hct2
          have hcw5 : Ch [] w w5 := hcw4.trans hc5 (by grind)
          obtain ⟨g, off, rfl, hcell⟩ := rb_at (h1.ch hcw5) hget
          rw [x30, x31, x32, ia_v el22 (by omega) (by omega), Int.toNat_natCast, Nat.mul_one, ld_v sc5 hcell, neB_v, decide_eq_false (by simp), br_false, not_v, show (!true) = false from rfl, br_false, not_v, show (!true) = false from rfl, br_false, add_v, wrap_i64 (by omega) (by omega)]
          have := ih (i + 1) x6 (I64 i) (byteV typed[i]) (.bool true) (.bool true) (.bool true) (.bool false) w5 L5 (by omega) hq5 hcw5 (by grind)
          rw [show ((i + 1 : Nat) : Int) = (i : Int) + 1 from by omega] at this
          exact this
      have := key kk 0 (.bool false) undef undef undef undef undef undef w3 L3 (by omega) (by simpa using hq3) hcw3 hL3
      exact this
    rw [gt_v]
    refine br_dec _ _ _ (fun hm => ?_) (fun hm => hj 0 _ (by omega))
    rw [len_v el22, gt_v]
    refine br_dec _ _ _ (fun hm2 => ?_) (fun hm2 => hj 0 _ (by omega))
    rw [len_v el22, rem_v (by omega)]
    have hnn : 0 ≤ many.tmod (typed.length : Int) := Int.tmod_nonneg _ (by omega)
    have hlt : many.tmod (typed.length : Int) < (typed.length : Int) := Int.tmod_lt_of_pos _ (by omega)
    obtain ⟨kk, hkk⟩ := Int.eq_ofNat_of_zero_le hnn
    rw [hkk]
    exact hj kk _ (by omega)
  · rw [ne_v, decide_eq_true (by simp), br_true, eq_v, decide_eq_true (by simp), br_true, len_v el22, gt_v, decide_eq_true (by simp at hgt; omega)]
    exact k _ hcw2
end
end Go.Proofs.Ythpbiliajcameaa
