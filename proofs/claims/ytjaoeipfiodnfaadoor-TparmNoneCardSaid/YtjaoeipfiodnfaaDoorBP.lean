import Derived.Test.YtjaoeipfiodnfaaDoorBK
set_option linter.unusedVariables false
set_option maxRecDepth 4000
namespace Go.Proofs.YtjaoeipfiodnfaaDoor
open Go Go.Fw Go.Proofs Go.RowKit
/-! ### The reference's parser: small parts -/
def numF : List UInt8 → Nat → Nat → Nat × Nat × List UInt8
  | [], n, k => (n, k, [])
  | c :: r, n, k => if digitB c = true then numF r (if n < 1099511627776 then n * 10 + (c.toNat - 48) else n) (k + 1) else (n, k, c :: r)
theorem numF_rest : ∀ (r : List UInt8) (n k : Nat), k ≤ (numF r n k).2.1 ∧ r.drop ((numF r n k).2.1 - k) = (numF r n k).2.2 ∧ (numF r n k).2.1 - k ≤ r.length
  | [], n, k => by simp [numF]
  | c :: r, n, k => by
    unfold numF
    split
    · obtain ⟨h1, h2, h3⟩ := numF_rest r (if n < 1099511627776 then n * 10 + (c.toNat - 48) else n) (k + 1)
      refine ⟨by omega, ?_, by simp only [List.length_cons]; omega⟩
      rw [← h2]
      rw [show (numF r (if n < 1099511627776 then n * 10 + (c.toNat - 48) else n) (k + 1)).2.1 - k = ((numF r (if n < 1099511627776 then n * 10 + (c.toNat - 48) else n) (k + 1)).2.1 - (k + 1)) + 1 from by omega, List.drop_succ_cons]
    · simp
theorem numF_lt : ∀ (r : List UInt8) (n k : Nat), n < 10995116277770 → (numF r n k).1 < 10995116277770
  | [], n, k, h => h
  | c :: r, n, k, h => by
    unfold numF
    split
    · rename_i hd
      have := digitB_spec.1 hd
      refine numF_lt r _ _ ?_
      split <;> omega
    · exact h
theorem count_num : ∀ (r : List UInt8) (n k : Nat), countR r (min n 1001) = (min (numF r n k).1 1001, (numF r n k).2.2)
  | [], n, k => rfl
  | c :: r, n, k => by
    unfold numF countR
    by_cases hd : digitB c = true
    · rw [if_pos hd, if_pos hd, ← count_num r _ (k + 1)]
      congr 1
      split <;> omega
    · rw [if_neg hd, if_neg hd]
theorem num_num : ∀ (r : List UInt8) (n m : Nat), m ≤ 9 → n < 10 ^ m → numR r n m = if (numF r n m).2.1 ≤ 9 then some (numF r n m) else none
  | [], n, m, hm, hn => by
    exact (if_pos (show (numF [] n m).2.1 ≤ 9 from hm)).symm
  | c :: r, n, m, hm, hn => by
    unfold numR numF
    by_cases hd : digitB c = true
    · rw [if_pos hd, if_pos hd]
      have hd' := digitB_spec.1 hd
      have hlt : n < 1000000000 := Nat.lt_of_lt_of_le hn (Nat.le_trans (Nat.pow_le_pow_right (by omega) hm) (by decide))
      rw [if_pos (show n < 1099511627776 by omega)]
      by_cases h9 : 9 < m + 1
      · rw [if_pos h9]
        have := (numF_rest r (n * 10 + (c.toNat - 48)) (m + 1)).1
        rw [if_neg (by omega)]
      · rw [if_neg h9, num_num r (10 * n + (c.toNat - 48)) (m + 1) (by omega) (by rw [Nat.pow_succ]; omega), show 10 * n + (c.toNat - 48) = n * 10 + (c.toNat - 48) from by omega]
    · rw [if_neg hd, if_neg hd, if_pos hm]
theorem drop_at {s r : List UInt8} {c : UInt8} {i : Nat} (h : s.drop i = c :: r) : s[i]? = some c ∧ s.drop (i + 1) = r ∧ i < s.length := by
  have h1 := drop_cons h
  exact ⟨h1.1, h1.2, (List.getElem?_eq_some_iff.1 h1.1).1⟩
theorem drop_len {s r : List UInt8} {i : Nat} (h : s.drop i = r) : r.length = s.length - i := by rw [← h, List.length_drop]
section
variable {w : World} {K : Value → World → Prop}
theorem ixS_v {s : List UInt8} {j : Nat} {c : UInt8} {k : IntKind} {i : Int} (hi : i = j) (h : s[j]? = some c) : S.v Tryd.prog (Instr.index 9 (strV s) (.int k i)) K w = K (byteV c) w := by
  subst hi
  refine ixs_v (P := Tryd.prog) (w := w) (s := ⟨s.toArray⟩) (k := k) (i := (j : Int)) (b := c) (K := K) Tryd.underlying9 (by omega) ?_
  rw [Int.toNat_natCast]
  have hlt := (List.getElem?_eq_some_iff.1 h).1
  have hz : j < (⟨s.toArray⟩ : ByteArray).size := by rw [size_str]; exact hlt
  show (if h : j < (⟨s.toArray⟩ : ByteArray).size then some ((⟨s.toArray⟩ : ByteArray)[j]) else none) = some c
  rw [dif_pos hz]
  have := (List.getElem?_eq_some_iff.1 h).2
  show some (s.toArray[j]) = some c
  rw [← this]
  simp
theorem rdigit_ {c : UInt8} (k : K (.bool (digitB c)) w) : S.call Tryd.prog 100 [byteV c] K w := by
  refine F100_link ?_
  unfold F100
  rw [geC_v]
  unfold digitB at k
  refine br_dec _ _ _ (fun h => ?_) (fun h => ?_)
  · rw [leC_v]
    rw [decide_eq_true (show 48 ≤ c.toNat by omega), Bool.true_and] at k
    rw [show decide ((c.toNat : Int) ≤ 57) = decide (c.toNat ≤ 57) from decide_eq_decide.2 (by omega)]
    exact k
  · rw [decide_eq_false (show ¬ 48 ≤ c.toNat by omega), Bool.false_and] at k
    exact k
theorem rnumber_ {s r : List UInt8} {i : Nat} (hd : s.drop i = r) (hi : i ≤ s.length) (hl : s.length ≤ 4096) (k : K (.tuple #[I64 (numF r 0 0).1, I64 (numF r 0 0).2.1]) w) : S.call Tryd.prog 87 [strV s, I64 i] K w := by
  refine F87_link ?_
  unfold F87
  generalize hbig : (1099511627776 : Int) = big
  intro I hC
  have key : ∀ (t : List UInt8) (n m : Nat) (x21 x23 : Value), s.drop (i + m) = t → i + m ≤ s.length → n < 10995116277770 → numF t n m = numF r 0 0 → I [I64 n, I64 m, x21, x23] w := by
    intro t
    induction t with
    | nil =>
      intro n m x21 x23 ht him hn he
      refine hC _ _ _ _ _ ?_
      have hlen := drop_len ht
      simp at hlen
      rw [add_v, wrap_i64 (by omega) (by omega), lenS_v', lt_v, decide_eq_false (by omega), br_false]
      rw [← he] at k
      exact k
    | cons c t ih =>
      intro n m x21 x23 ht him hn he
      refine hC _ _ _ _ _ ?_
      obtain ⟨h1, h2, h3⟩ := drop_at ht
      rw [add_v, wrap_i64 (by omega) (by omega), lenS_v', lt_v, decide_eq_true (by omega), br_true, add_v, wrap_i64 (by omega) (by omega), ixS_v (by omega) h1]
      refine rdigit_ ?_
      refine br_bool _ _ _ (fun hdg => ?_) (fun hdg => ?_)
      · have hd' := digitB_spec.1 hdg
        refine seq_ok fun J hJ => ?_
        have hJ' : ∀ (q : Value), J [I64 ((if n < 1099511627776 then n * 10 + (c.toNat - 48) else n : Nat) : Int), q] w := by
          intro q
          refine hJ _ _ ?_
          simp only [nth_zero, nth_succ]
          rw [add_v, wrap_i64 (by omega) (by omega), show (m : Int) + 1 = ((m + 1 : Nat) : Int) from by omega]
          refine ih _ (m + 1) _ _ h2 (by omega) (by split <;> omega) ?_
          rw [← he]
          conv => rhs; unfold numF
          rw [if_pos hdg]
        clear hJ
        rw [lt_v]
        refine br_dec _ _ _ (fun h40 => ?_) (fun h40 => ?_)
        · rw [mul_v, wrap_i64 (by omega) (by omega), add_v, wrap_i64 (by omega) (by omega), ixS_v (by omega) h1, subD hdg, v_eq (cv53 _ _ (by omega)), add_v, wrap_i64 (by omega) (by omega)]
          have := hJ' (.bool (decide ((n : Int) < big)))
          rw [if_pos (by omega), show ((n * 10 + (c.toNat - 48) : Nat) : Int) = (n : Int) * 10 + ((c.toNat - 48 : Nat) : Int) from by omega] at this
          exact this
        · have := hJ' (.bool (decide ((n : Int) < big)))
          rw [if_neg (by omega)] at this
          exact this
      · have e : numF (c :: t) n m = (n, m, c :: t) := by unfold numF; rw [if_neg (by rw [hdg]; simp)]
        rw [e] at he
        rw [← he] at k
        exact k
  exact key r 0 0 _ _ (by simpa using hd) (by omega) (by omega) rfl
theorem in_ {c : UInt8} {t : List UInt8} (hl : t.length ≤ 1000) (k : K (.bool (decide (c ∈ t))) w) : S.call Tryd.prog 68 [byteV c, strV t] K w := by
  refine F68_link ?_
  unfold F68
  intro I hC
  have key : ∀ (r : List UInt8) (i : Nat) (x4 x9 x16 : Value), t.drop i = r → i ≤ t.length → decide (c ∈ r) = decide (c ∈ t) → I [x4, I64 i, x9, x16] w := by
    intro r
    induction r with
    | nil =>
      intro i x4 x9 x16 hr hi he
      refine hC _ _ _ _ _ ?_
      have hlen := drop_len hr
      simp at hlen
      rw [lenS_v', lt_v, decide_eq_false (by omega), br_false]
      rw [← he] at k
      exact k
    | cons a r ih =>
      intro i x4 x9 x16 hr hi he
      refine hC _ _ _ _ _ ?_
      obtain ⟨h1, h2, h3⟩ := drop_at hr
      rw [lenS_v', lt_v, decide_eq_true (by omega), br_true, ixS_v rfl h1, eqB]
      refine br_dec _ _ _ (fun hac => ?_) (fun hac => ?_)
      · rw [← he] at k
        rw [decide_eq_true (by simp [hac])] at k
        exact k
      · rw [add_v, wrap_i64 (by omega) (by omega), show (i : Int) + 1 = ((i + 1 : Nat) : Int) from by omega]
        refine ih (i + 1) _ _ _ h2 (by omega) ?_
        rw [← he]
        exact decide_eq_decide.2 ⟨fun h => by simp [h], fun h => by
          simp only [List.mem_cons] at h
          rcases h with h | h
          · exact absurd h.symm hac
          · exact h⟩
  exact key t 0 _ _ _ (by simp) (by omega) rfl
end
/-! ### The reference's code -/
structure RC where
  at' : Nat := 0
  do' : UInt8 := 0
  n : Int := 0
  text : List UInt8 := []
  wd : Int := 0
  pr : Int := 0
  fin : Int := 0
def rcC (x : RC) : List Value := [I64 x.at', byteV x.do', I32 x.n, strV x.text, I64 x.wd, I64 x.pr, I64 x.fin]
def rcV (x : RC) : Value := .agg #[I64 x.at', byteV x.do', I32 x.n, strV x.text, I64 x.wd, I64 x.pr, I64 x.fin]
def RAt (w : World) (b : Nat) (x : RC) : Prop := w.heap[b]? = some (.cells #[I64 x.at', byteV x.do', I32 x.n, strV x.text, I64 x.wd, I64 x.pr, I64 x.fin] 99 (0, 0))
theorem ag99 : aggSz Tryd.prog 99 = some 7 := by kernel_rfl
theorem z99 : zeroT Tryd.prog 99 = some (rcV {}) := by kernel_rfl
theorem one_rc (x : RC) : ∀ u ∈ (#[I64 x.at', byteV x.do', I32 x.n, strV x.text, I64 x.wd, I64 x.pr, I64 x.fin] : Array Value).toList, u.oneCell' = true := by
  intro u hu
  simp at hu
  rcases hu with rfl | rfl | rfl | rfl | rfl | rfl | rfl <;> rfl
theorem bd99 (w : World) (n : Nat) : (Instr.build 99 #[(0, I64 n)]).run Tryd.prog w = .ok (rcV { at' := n }) w := by kernel_rfl
section
variable {w : World} {K : Value → World → Prop}
/-- The result is stored, and read. -/
theorem rret_ {b : Nat} {cs : Array Value} {x : RC} {q : Value} (hb : w.heap[b]? = some (.cells cs 99 (0, 0))) (hc : cs.size = 7) (k : ∀ w', Ch [b] w w' → K (.tuple #[rcV x, q]) w') : S.u Tryd.prog (Instr.storeAt 99 (PT b) (rcV x)) (fun w => S.p Tryd.prog (S.ldR 99 (PT b)) (fun r w => K (.tuple #[r, q]) w) w) w := by
  refine stw ag99 hb hc rfl (one_rc x) fun w1 hb1 hc1 hs1 => ?_
  rw [ldR_p ag99 hb1 rfl]
  exact k w1 hc1
theorem rldX {g : Nat} {x : RC} (h : RAt w g x) : S.v Tryd.prog (Instr.loadAt 99 (.pointer (some ⟨g, 0, none⟩))) K w = K (rcV x) w := ldw_v ag99 h rfl
theorem rldAt {g : Nat} {x : RC} (h : RAt w g x) : S.v Tryd.prog (Instr.loadAt 3 (.pointer (some ⟨g, 0, none⟩))) K w = K (I64 x.at') w := ld_v sc3 (cells7 h).1
theorem rldDo {g : Nat} {x : RC} (h : RAt w g x) : S.v Tryd.prog (Instr.loadAt 5 (.pointer (some ⟨g, 1, none⟩))) K w = K (byteV x.do') w := ld_v sc5 (cells7 h).2.1
theorem rldWd {g : Nat} {x : RC} (h : RAt w g x) : S.v Tryd.prog (Instr.loadAt 3 (.pointer (some ⟨g, 4, none⟩))) K w = K (I64 x.wd) w := ld_v sc3 (cells7 h).2.2.2.2.1
theorem rldPr {g : Nat} {x : RC} (h : RAt w g x) : S.v Tryd.prog (Instr.loadAt 3 (.pointer (some ⟨g, 5, none⟩))) K w = K (I64 x.pr) w := ld_v sc3 (cells7 h).2.2.2.2.2.1
theorem rldFin {g : Nat} {x : RC} (h : RAt w g x) : S.v Tryd.prog (Instr.loadAt 3 (.pointer (some ⟨g, 6, none⟩))) K w = K (I64 x.fin) w := ld_v sc3 (cells7 h).2.2.2.2.2.2
theorem stDo {g : Nat} {x : RC} {c : UInt8} {K : World → Prop} (h : RAt w g x) (k : ∀ w', RAt w' g { x with do' := c } → Ch [g] w w' → K w') : S.u Tryd.prog (Instr.storeAt 5 (.pointer (some ⟨g, 1, none⟩)) (byteV c)) K w :=
  st sc5 h (by simp) rfl fun w' hb hc hs => k w' (by unfold RAt; rw [hb]; rfl) hc
theorem stN {g : Nat} {x : RC} {n : Int} {K : World → Prop} (h : RAt w g x) (k : ∀ w', RAt w' g { x with n := n } → Ch [g] w w' → K w') : S.u Tryd.prog (Instr.storeAt 21 (.pointer (some ⟨g, 2, none⟩)) (I32 n)) K w :=
  st sc21 h (by simp) rfl fun w' hb hc hs => k w' (by unfold RAt; rw [hb]; rfl) hc
theorem stText {g : Nat} {x : RC} {t : List UInt8} {K : World → Prop} (h : RAt w g x) (k : ∀ w', RAt w' g { x with text := t } → Ch [g] w w' → K w') : S.u Tryd.prog (Instr.storeAt 9 (.pointer (some ⟨g, 3, none⟩)) (strV t)) K w :=
  st sc9 h (by simp) rfl fun w' hb hc hs => k w' (by unfold RAt; rw [hb]; rfl) hc
theorem stWd {g : Nat} {x : RC} {n : Int} {K : World → Prop} (h : RAt w g x) (k : ∀ w', RAt w' g { x with wd := n } → Ch [g] w w' → K w') : S.u Tryd.prog (Instr.storeAt 3 (.pointer (some ⟨g, 4, none⟩)) (I64 n)) K w :=
  st sc3 h (by simp) rfl fun w' hb hc hs => k w' (by unfold RAt; rw [hb]; rfl) hc
theorem stPr {g : Nat} {x : RC} {n : Int} {K : World → Prop} (h : RAt w g x) (k : ∀ w', RAt w' g { x with pr := n } → Ch [g] w w' → K w') : S.u Tryd.prog (Instr.storeAt 3 (.pointer (some ⟨g, 5, none⟩)) (I64 n)) K w :=
  st sc3 h (by simp) rfl fun w' hb hc hs => k w' (by unfold RAt; rw [hb]; rfl) hc
theorem stFin {g : Nat} {x : RC} {n : Int} {K : World → Prop} (h : RAt w g x) (k : ∀ w', RAt w' g { x with fin := n } → Ch [g] w w' → K w') : S.u Tryd.prog (Instr.storeAt 3 (.pointer (some ⟨g, 6, none⟩)) (I64 n)) K w :=
  st sc3 h (by simp) rfl fun w' hb hc hs => k w' (by unfold RAt; rw [hb]; rfl) hc
end
end Go.Proofs.YtjaoeipfiodnfaaDoor
