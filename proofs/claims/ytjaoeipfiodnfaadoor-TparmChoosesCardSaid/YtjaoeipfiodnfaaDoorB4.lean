import Derived.Test.YtjaoeipfiodnfaaDoorB3
set_option linter.unusedVariables false
set_option maxRecDepth 4000
namespace Go.Proofs.YtjaoeipfiodnfaaDoor
open Go Go.Fw Go.Proofs
/-! ### One code -/
def simpleL : List Nat := [99, 105, 108, 43, 45, 42, 47, 109, 38, 124, 94, 61, 62, 60, 65, 79, 33, 126, 63, 116, 101, 59]
def parmR : List UInt8 → Option (Code × List UInt8)
  | [] => none
  | x :: r => if 49 ≤ x.toNat ∧ x.toNat ≤ 57 then some ({ op := 112, c := x }, r) else none
def varR (d : UInt8) : List UInt8 → Option (Code × List UInt8)
  | [] => none
  | x :: r => if letterB x = true then some ({ op := d, c := x }, r) else none
def quoteR : List UInt8 → Option (Code × List UInt8)
  | x :: y :: r => if y = 39 then some ({ op := 123, n := x.toNat }, r) else none
  | _ => none
def percR : List UInt8 → Option (Code × List UInt8)
  | [] => none
  | d :: r => if d = 37 then some ({ c := 37 }, r) else if d.toNat ∈ simpleL then some ({ op := d }, r)
    else if d = 112 then parmR r else if d = 80 ∨ d = 103 then varR d r else if d = 39 then quoteR r else if d = 123 then numberR r else formatR (d :: r)
def oneR : List UInt8 → Option (Code × List UInt8)
  | [] => none
  | c :: r => if c = 37 then percR r else some ({ c := c }, r)
theorem toNat_iff {c : UInt8} {n : Nat} (d : UInt8) (h : d.toNat = n) : c = d ↔ c.toNat = n := by
  constructor
  · intro e; rw [e]; exact h
  · intro e; exact UInt8.toNat_inj.1 (by omega)
section
variable {w : World} {K : Value → World → Prop}
set_option maxHeartbeats 2000000
theorem one_ {b : Nat} {s r : List UInt8} {c0 : UInt8} (h : PS w b s (c0 :: r)) (hl : s.length ≤ 4096)
    (k1 : ∀ x r' w', oneR (c0 :: r) = some (x, r') → PS w' b s r' → Ch [b] w w' → K (.tuple #[codeV x, .bool true]) w')
    (k2 : ∀ x w', oneR (c0 :: r) = none → Ch [b] w w' → K (.tuple #[codeV x, .bool false]) w') : S.call Tryd.prog 51 [PT b] K w := by
  refine F51_link ?_
  unfold F51
  have hblt := h.lt
  refine al z76 fun w1 hb1 hc1 hs1 => ?_
  have hp1 := h.ch hc1 (by simp)
  have hne : b ≠ w.heap.size := by omega
  have hsz : w.heap.size ≤ w.heap.size := Nat.le_refl _
  have hc01 : Ch [b] w w1 := hc1.nil
  generalize hb2 : w.heap.size = b2 at *
  -- the result is stored, and read
  have fin1 : ∀ (x : Code) (r' : List UInt8) (w' : World), oneR (c0 :: r) = some (x, r') → PS w' b s r' → Ch [b] w w' → w'.heap[b2]? = some (.cells (codeV {}).cells 76 (0, 0)) →
      S.u Tryd.prog (Instr.storeAt 76 (PT b2) (codeV x)) (fun w => S.p Tryd.prog (S.ldR 76 (PT b2)) (fun r w => K (.tuple #[r, .bool true]) w) w) w' := fun x r' w' he hp hc hb =>
    ret_ hb rfl fun w2 hc2 => k1 x r' w2 he (hp.ch hc2 (by simp; omega)) (hc.trans hc2 (by simp; omega))
  have fin2 : ∀ (x : Code) (w' : World), oneR (c0 :: r) = none → Ch [b] w w' → w'.heap[b2]? = some (.cells (codeV {}).cells 76 (0, 0)) →
      S.u Tryd.prog (Instr.storeAt 76 (PT b2) (codeV x)) (fun w => S.p Tryd.prog (S.ldR 76 (PT b2)) (fun r w => K (.tuple #[r, .bool false]) w) w) w' := fun x w' he hc hb =>
    ret_ hb rfl fun w2 hc2 => k2 x w2 he (hc.trans hc2 (by simp; omega))
  clear k1 k2
  refine next_cons hp1 hl fun w2 hp2 hc2 => ?_
  have hb22 := hc2.at_ hb1 (by simp; omega)
  have hc02 : Ch [b] w w2 := hc01.trans hc2 (by simp)
  rw [x20, x21, neC_v]
  by_cases h37 : c0 = 37
  · rw [decide_eq_false (by rw [h37]; decide), br_false]
    have hO : oneR (c0 :: r) = percR r := by simp [oneR, h37]
    rw [hO] at fin1 fin2
    cases r with
    | nil =>
      refine next_nil hp2 hl fun w3 hc3 => ?_
      rw [x20, x21, not_v, show (!false) = true from rfl, br_true, v_eq (bd0 _)]
      exact fin2 _ w3 rfl (hc02.trans hc3 (by simp)) (hc3.at_ hb22 (by simp))
    | cons d r =>
      refine next_cons hp2 hl fun w3 hp3 hc3 => ?_
      have hb23 := hc3.at_ hb22 (by simp; omega)
      have hc03 : Ch [b] w w3 := hc02.trans hc3 (by simp)
      rw [x20, x21, not_v, show (!true) = false from rfl, br_false, eqC_v]
      have hdl : d.toNat < 256 := d.toNat_lt
      by_cases hd37 : d = 37
      · rw [decide_eq_true (by rw [hd37]; decide), br_true, v_eq (show (Instr.build 76 #[(2, .int .u8 37)]).run Tryd.prog w3 = .ok (codeV { c := 37 }) w3 from bdc w3 37)]
        exact fin1 _ r w3 (by simp [percR, hd37]) hp3 hc03 hb23
      · have hd37' : d.toNat ≠ 37 := fun e => hd37 ((toNat_iff (n := 37) 37 rfl).2 e)
        rw [decide_eq_false (by omega), br_false]
        refine seq_ok fun J hJ => ?_
        have hJ' : ∀ q : Bool, (q = true ↔ d.toNat ∈ simpleL) → J [.bool q] w3 := by
          intro q hq
          refine hJ _ _ ?_
          rw [nth_zero]
          cases q with
          | true =>
            rw [br_true, v_eq (bdo _ _)]
            exact fin1 _ r w3 (by simp [percR, hd37, hq.1 rfl]) hp3 hc03 hb23
          | false =>
            have hns : d.toNat ∉ simpleL := fun h => by simpa using hq.2 h
            have hP : percR (d :: r) = if d = 112 then parmR r else if d = 80 ∨ d = 103 then varR d r else if d = 39 then quoteR r else if d = 123 then numberR r else formatR (d :: r) := by
              simp only [percR]
              rw [if_neg hd37, if_neg hns]
            rw [hP] at fin1 fin2
            clear hP hJ
            rw [br_false, eqC_v]
            by_cases h112 : d = 112
            · rw [if_pos h112] at fin1 fin2
              rw [decide_eq_true (by rw [h112]; decide), br_true]
              subst h112
              cases r with
              | nil =>
                refine next_nil hp3 hl fun w4 hc4 => ?_
                rw [x20, x21, v_eq (bdoc ..), br_false]
                exact fin2 _ w4 rfl (hc03.trans hc4 (by simp)) (hc4.at_ hb23 (by simp))
              | cons x r =>
                refine next_cons hp3 hl fun w4 hp4 hc4 => ?_
                have hb24 := hc4.at_ hb23 (by simp; omega)
                have hc04 : Ch [b] w w4 := hc03.trans hc4 (by simp)
                rw [x20, x21, v_eq (bdoc ..), br_true]
                rw [show S.bin .geq 5 (.tmp 73) (.const (.int .u8 49)) (byteV x) (.int .u8 49) = S.bin .geq 5 (.tmp 73) (.const (.int .u8 49)) (.int .u8 (x.toNat : Int)) (.int .u8 49) from rfl, ge_v]
                refine br_dec _ _ _ (fun hge => ?_) (fun hge => ?_)
                · rw [show S.bin .leq 5 (.tmp 77) (.const (.int .u8 57)) (byteV x) (.int .u8 57) = S.bin .leq 5 (.tmp 77) (.const (.int .u8 57)) (.int .u8 (x.toNat : Int)) (.int .u8 57) from rfl, le_v]
                  by_cases hle : x.toNat ≤ 57
                  · rw [decide_eq_true (by omega)]
                    exact fin1 _ r w4 (by simp only [parmR]; rw [if_pos ⟨by omega, hle⟩]) hp4 hc04 hb24
                  · rw [decide_eq_false (by omega)]
                    exact fin2 _ w4 (by simp only [parmR]; rw [if_neg (by omega)]) hc04 hb24
                · exact fin2 _ w4 (by simp only [parmR]; rw [if_neg (by omega)]) hc04 hb24
            · rw [if_neg h112] at fin1 fin2
              rw [decide_eq_false (fun e => h112 ((toNat_iff (n := 112) 112 rfl).2 (by omega))), br_false]
              refine seq_ok fun J1 hJ1 => ?_
              have hJ1' : ∀ q : Bool, (q = true ↔ d = 80 ∨ d = 103) → J1 [.bool q] w3 := by
                intro q hq
                refine hJ1 _ _ ?_
                rw [nth_zero]
                cases q with
                | true =>
                  rw [if_pos (hq.1 rfl)] at fin1 fin2
                  rw [br_true]
                  cases r with
                  | nil =>
                    refine next_nil hp3 hl fun w4 hc4 => ?_
                    rw [x20, x21, v_eq (bdoc ..), br_false]
                    exact fin2 _ w4 rfl (hc03.trans hc4 (by simp)) (hc4.at_ hb23 (by simp))
                  | cons x r =>
                    refine next_cons hp3 hl fun w4 hp4 hc4 => ?_
                    have hb24 := hc4.at_ hb23 (by simp; omega)
                    have hc04 : Ch [b] w w4 := hc03.trans hc4 (by simp)
                    rw [x20, x21, v_eq (bdoc ..), br_true]
                    refine letter_ ?_
                    cases hlx : letterB x with
                    | true => exact fin1 _ r w4 (by simp only [varR]; rw [if_pos hlx]) hp4 hc04 hb24
                    | false => exact fin2 _ w4 (by simp only [varR]; rw [if_neg (by rw [hlx]; simp)]) hc04 hb24
                | false =>
                  have hn : ¬ (d = 80 ∨ d = 103) := fun h => by simpa using hq.2 h
                  rw [if_neg hn] at fin1 fin2
                  rw [br_false, eqC_v]
                  by_cases h39 : d = 39
                  · rw [if_pos h39] at fin1 fin2
                    rw [decide_eq_true (by rw [h39]; decide), br_true]
                    cases r with
                    | nil =>
                      refine next_nil hp3 hl fun w4 hc4 => ?_
                      rw [x20, x21]
                      refine next_nil (hp3.ch hc4 (by simp)) hl fun w5 hc5 => ?_
                      rw [x20, x21, v_eq (cvB _ _), v_eq (bdon ..), br_false]
                      exact fin2 _ w5 rfl ((hc03.trans hc4 (by simp)).trans hc5 (by simp)) (hc5.at_ (hc4.at_ hb23 (by simp)) (by simp))
                    | cons x r =>
                      refine next_cons hp3 hl fun w4 hp4 hc4 => ?_
                      have hb24 := hc4.at_ hb23 (by simp; omega)
                      have hc04 : Ch [b] w w4 := hc03.trans hc4 (by simp)
                      rw [x20, x21]
                      cases r with
                      | nil =>
                        refine next_nil hp4 hl fun w5 hc5 => ?_
                        rw [x20, x21, v_eq (cvB _ _), v_eq (bdon ..), br_true, br_false]
                        exact fin2 _ w5 rfl (hc04.trans hc5 (by simp)) (hc5.at_ hb24 (by simp))
                      | cons y r =>
                        refine next_cons hp4 hl fun w5 hp5 hc5 => ?_
                        have hb25 := hc5.at_ hb24 (by simp; omega)
                        have hc05 : Ch [b] w w5 := hc04.trans hc5 (by simp)
                        rw [x20, x21, v_eq (cvB _ _), v_eq (bdon ..), br_true, br_true, eqC_v]
                        by_cases hy : y = 39
                        · rw [decide_eq_true (by rw [hy]; decide)]
                          exact fin1 _ r w5 (by simp only [quoteR]; rw [if_pos hy]) hp5 hc05 hb25
                        · rw [decide_eq_false (fun e => hy ((toNat_iff (n := 39) 39 rfl).2 (by omega)))]
                          exact fin2 _ w5 (by simp only [quoteR]; rw [if_neg hy]) hc05 hb25
                  · rw [if_neg h39] at fin1 fin2
                    rw [decide_eq_false (fun e => h39 ((toNat_iff (n := 39) 39 rfl).2 (by omega))), br_false, eqC_v]
                    by_cases h123 : d = 123
                    · rw [if_pos h123] at fin1 fin2
                      rw [decide_eq_true (by rw [h123]; decide), br_true]
                      refine number_ hp3 hl (fun x r' w4 he hp4 hc4 => ?_) (fun x w4 he hc4 => ?_)
                      · rw [x20, x21]
                        exact fin1 x r' w4 he hp4 (hc03.trans hc4 (by simp)) (hc4.at_ hb23 (by simp; omega))
                      · rw [x20, x21]
                        exact fin2 x w4 he (hc03.trans hc4 (by simp)) (hc4.at_ hb23 (by simp; omega))
                    · rw [if_neg h123] at fin1 fin2
                      rw [decide_eq_false (fun e => h123 ((toNat_iff (n := 123) 123 rfl).2 (by omega))), br_false]
                      obtain ⟨n2, a1, a2, a3⟩ := id hp2
                      obtain ⟨n3, e1, e2, e3⟩ := hp3
                      simp only [List.length_cons] at a1
                      rw [nilC_v, fa_v fo107_1, ld_v sc3 (cells2 e3).2, sub_v, wrap_i64 (by omega) (by omega), nilC_v, fa_v fo107_1]
                      refine st sc3 e3 (by simp) rfl fun w4 hb4 hc4 hs4 => ?_
                      have hp4 : PS w4 b s (d :: r) := ⟨n2, by simpa using a1, a2, by
                        rw [hb4]
                        have : n3 = n2 + 1 := by omega
                        subst this
                        simp⟩
                      have hc04 : Ch [b] w w4 := hc03.trans hc4 (by simp)
                      have hb24 := hc4.at_ hb23 (by simp; omega)
                      refine format_ hp4 hl (fun x r' w5 he hp5 hc5 => ?_) (fun x w5 he hc5 => ?_)
                      · rw [x20, x21]
                        exact fin1 x r' w5 he hp5 (hc04.trans hc5 (by simp)) (hc5.at_ hb24 (by simp; omega))
                      · rw [x20, x21]
                        exact fin2 x w5 he (hc04.trans hc5 (by simp)) (hc5.at_ hb24 (by simp; omega))
              clear hJ1
              have hJ1n : ∀ q : Bool, (q = true ↔ d.toNat = 80 ∨ d.toNat = 103) → J1 [.bool q] w3 := fun q hq => hJ1' q (by rw [hq, toNat_iff (c := d) (n := 80) 80 rfl, toNat_iff (c := d) (n := 103) 103 rfl])
              rw [eqC_v]
              refine br_dec _ _ _ (fun h => hJ1n _ (by simp; omega)) (fun h => ?_)
              rw [eqC_v]
              exact hJ1n _ (by simp; omega)
        clear hJ fin1 fin2
        simp only [simpleL, List.mem_cons, List.not_mem_nil, or_false] at hJ'
        repeat' (first | exact hJ' _ (by simp only [decide_eq_true_eq]; omega) | (rw [eqC_v]; refine br_dec _ _ _ (fun h => ?_) (fun h => ?_)) | rw [eqC_v])
  · rw [decide_eq_true (show (c0.toNat : Int) ≠ 37 from fun e => h37 ((toNat_iff (n := 37) 37 rfl).2 (by omega))), br_true, v_eq (bdc _ _)]
    exact fin1 _ r w2 (by simp [oneR, h37]) hp2 hc02 hb22
end
end Go.Proofs.YtjaoeipfiodnfaaDoor
