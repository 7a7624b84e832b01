import Derived.Test.YtjaoeipfiodnfaaDoorT
import Derived.Test.YtjaoeipfiodnfaaDoorFwStr
import Derived.Test.YtjaoeipfiodnfaaDoorFwAgg
set_option linter.unusedVariables false
set_option maxRecDepth 4000
namespace Go.Proofs.YtjaoeipfiodnfaaDoor
open Go Go.Fw Go.Proofs
/-! ### The parser's small parts -/
abbrev PT (b : Nat) : Value := .pointer (some ⟨b, 0, none⟩)
abbrev I64 (n : Int) : Value := .int .i64 n
abbrev I32 (n : Int) : Value := .int .i32 n
theorem h_p {P : Program} {s : Sem Value} {K : Value → World → Prop} {w : World} : S.h P (fun w' => w' = w) s K w = S.p P s K w := by
  apply propext
  constructor
  · rintro ⟨x, h, k⟩
    exact ⟨x, h w rfl, k⟩
  · rintro ⟨x, h, k⟩
    exact ⟨x, fun w' hw => by subst hw; exact h, k⟩
/-- The parser: its string, and what it has not read. -/
def PS (w : World) (b : Nat) (s r : List UInt8) : Prop := ∃ n : Nat, n + r.length = s.length ∧ s.drop n = r ∧ w.heap[b]? = some (.cells #[strV s, I64 n] 107 (0, 0))
theorem PS.ch {w w' : World} {b : Nat} {s r : List UInt8} {M : List Nat} (h : PS w b s r) (hc : Ch M w w') (hb : b ∉ M) : PS w' b s r := by
  obtain ⟨n, h1, h2, h3⟩ := h
  exact ⟨n, h1, h2, hc.at_ h3 hb⟩
theorem PS.lt {w : World} {b : Nat} {s r : List UInt8} (h : PS w b s r) : b < w.heap.size := by
  obtain ⟨n, h1, h2, h3⟩ := h
  exact lt_of_heap h3
theorem drop_cons {s r : List UInt8} {c : UInt8} {n : Nat} (h : s.drop n = c :: r) : s[n]? = some c ∧ s.drop (n + 1) = r := by
  constructor
  · have := congrArg List.head? h
    rw [List.head?_drop] at this
    exact this
  · have := congrArg List.tail h
    rw [List.tail_drop] at this
    exact this
def digitB (c : UInt8) : Bool := decide (48 ≤ c.toNat) && decide (c.toNat ≤ 57)
def letterB (c : UInt8) : Bool := (decide (97 ≤ c.toNat) && decide (c.toNat ≤ 122)) || (decide (65 ≤ c.toNat) && decide (c.toNat ≤ 90))
def peekR : List UInt8 → UInt8
  | [] => 0
  | c :: _ => c
section
variable {w : World} {K : Value → World → Prop}
theorem lenS_p {ty : TypeId} {bs : List UInt8} : S.p Tryd.prog (Builtin.len_ #[9] ty #[strV bs]) K w = K (I64 bs.length) w := by
  have := lens_p (P := Tryd.prog) (w := w) (ty := ty) (s := ⟨bs.toArray⟩) (K := K) Tryd.underlying9
  rw [size_str] at this
  exact this
theorem ixS_p {s : List UInt8} {j : Nat} {c : UInt8} {k : IntKind} {i : Int} (hi : i = j) (h : s[j]? = some c) : S.p Tryd.prog (Instr.index 9 (strV s) (.int k i)) K w = K (byteV c) w := by
  subst hi
  refine ixs_p (P := Tryd.prog) (w := w) (s := ⟨s.toArray⟩) (k := k) (i := (j : Int)) (b := c) (K := K) Tryd.underlying9 (by omega) ?_
  rw [Int.toNat_natCast]
  have hlt := (List.getElem?_eq_some_iff.1 h).1
  have hz : j < (⟨s.toArray⟩ : ByteArray).size := by rw [size_str]; exact hlt
  show (if h : j < (⟨s.toArray⟩ : ByteArray).size then some ((⟨s.toArray⟩ : ByteArray)[j]) else none) = some c
  rw [dif_pos hz]
  have := (List.getElem?_eq_some_iff.1 h).2
  show some (s.toArray[j]) = some c
  rw [← this]
  simp
theorem peek_ {b : Nat} {s r : List UInt8} (h : PS w b s r) (hl : s.length ≤ 4096) (k : ∀ w', Ch [] w w' → K (byteV (peekR r)) w') : S.call Tryd.prog 92 [PT b] K w := by
  refine F92_link ?_
  unfold F92
  refine drawn_ok fun w1 hc1 hs1 => ?_
  obtain ⟨n, h1, h2, h3⟩ := h.ch hc1 (by simp)
  rw [nilC_p, fa_p fo107_1, ld_p sc3 (cells2 h3).2, nilC_p, fa_p fo107_0, ld_p sc9 (cells2 h3).1, lenS_p, ge_p]
  cases r with
  | nil =>
    rw [decide_eq_true (by simp at h1; omega), br_true]
    exact k w1 hc1
  | cons c r =>
    rw [decide_eq_false (by simp at h1; omega), br_false]
    refine drawn_ok fun w2 hc2 hs2 => ?_
    have h4 := hc2.at_ h3 (by simp)
    rw [nilC_p, fa_p fo107_0, ld_p sc9 (cells2 h4).1, nilC_p, fa_p fo107_1, ld_p sc3 (cells2 h4).2, ixS_p rfl (drop_cons h2).1]
    exact k w2 (hc1.trans hc2 (by simp))
theorem step_ {b : Nat} {s r : List UInt8} {c : UInt8} {o : Operand} {K : World → Prop} (h : PS w b s (c :: r)) (hl : s.length ≤ 4096) (k : ∀ w', PS w' b s r → Ch [b] w w' → K w') :
    S.v Tryd.prog (S.nilC (PT b)) (fun t15 w => S.v Tryd.prog (Instr.fieldAt 107 t15 1) (fun t16 w => S.v Tryd.prog (Instr.loadAt 3 t16) (fun t17 w => S.v Tryd.prog (S.bin .add 3 o (.const (.int .i64 1)) t17 (.int .i64 1)) (fun t18 w => S.v Tryd.prog (S.nilC (PT b)) (fun t19 w => S.v Tryd.prog (Instr.fieldAt 107 t19 1) (fun t20 w => S.u Tryd.prog (Instr.storeAt 3 t20 t18) K w) w) w) w) w) w) w := by
  obtain ⟨n, h1, h2, h3⟩ := h
  simp only [List.length_cons] at h1
  rw [nilC_v, fa_v fo107_1, ld_v sc3 (cells2 h3).2, add_v, wrap_i64 (by omega) (by omega), nilC_v, fa_v fo107_1]
  refine st sc3 h3 (by simp) rfl fun w1 hb1 hc1 hs1 => ?_
  exact k w1 ⟨n + 1, by omega, (drop_cons h2).2, by rw [hb1]; rfl⟩ hc1
theorem next_nil {b : Nat} {s : List UInt8} (h : PS w b s []) (hl : s.length ≤ 4096) (k : ∀ w', Ch [] w w' → K (.tuple #[byteV 0, .bool false]) w') : S.call Tryd.prog 75 [PT b] K w := by
  refine F75_link ?_
  unfold F75
  refine drawn_ok fun w1 hc1 hs1 => ?_
  obtain ⟨n, h1, h2, h3⟩ := h.ch hc1 (by simp)
  rw [nilC_p, fa_p fo107_1, ld_p sc3 (cells2 h3).2, nilC_p, fa_p fo107_0, ld_p sc9 (cells2 h3).1, lenS_p, ge_p, decide_eq_true (by simp at h1; omega), br_true]
  exact k w1 hc1
theorem next_cons {b : Nat} {s r : List UInt8} {c : UInt8} (h : PS w b s (c :: r)) (hl : s.length ≤ 4096) (k : ∀ w', PS w' b s r → Ch [b] w w' → K (.tuple #[byteV c, .bool true]) w') : S.call Tryd.prog 75 [PT b] K w := by
  refine F75_link ?_
  unfold F75
  refine drawn_ok fun w1 hc1 hs1 => ?_
  have h' := h.ch hc1 (by simp)
  obtain ⟨n, h1, h2, h3⟩ := h.ch hc1 (by simp)
  rw [nilC_p, fa_p fo107_1, ld_p sc3 (cells2 h3).2, nilC_p, fa_p fo107_0, ld_p sc9 (cells2 h3).1, lenS_p, ge_p, decide_eq_false (by simp at h1; omega), br_false]
  simp only [List.length_cons] at h1
  rw [nilC_v, fa_v fo107_1, ld_v sc3 (cells2 h3).2, add_v, wrap_i64 (by omega) (by omega), nilC_v, fa_v fo107_1]
  refine st sc3 h3 (by simp) rfl fun w2 hb2 hc2 hs2 => ?_
  refine drawn_ok fun w3 hc3 hs3 => ?_
  have h5 := hc3.at_ hb2 (by simp)
  rw [nilC_p, fa_p fo107_0, ld_p sc9 (cells2 h5).1, nilC_p, fa_p fo107_1, ld_p sc3 (cells2 h5).2, sub_p, wrap_i64 (by omega) (by omega), ixS_p (j := n) (by omega) (drop_cons h2).1]
  exact k w3 ⟨n + 1, by omega, (drop_cons h2).2, by rw [h5]; rfl⟩ ((hc1.nil.trans hc2 (by simp)).trans hc3 (by simp))
theorem digit_ {c : UInt8} (k : K (.bool (digitB c)) w) : S.call Tryd.prog 93 [byteV c] K w := by
  refine F93_link ?_
  unfold F93 byteV
  rw [ge_v]
  unfold digitB at k
  refine br_dec _ _ _ (fun h => ?_) (fun h => ?_)
  · rw [le_v]
    rw [decide_eq_true (show 48 ≤ c.toNat by omega), Bool.true_and] at k
    rw [show decide ((c.toNat : Int) ≤ 57) = decide (c.toNat ≤ 57) from decide_eq_decide.2 (by omega)]
    exact k
  · rw [decide_eq_false (show ¬ 48 ≤ c.toNat by omega), Bool.false_and] at k
    exact k
theorem boolK {K : Value → World → Prop} {a b : Bool} (h : a = b) (k : K (.bool a) w) : K (.bool b) w := h ▸ k
theorem letter_ {c : UInt8} (k : K (.bool (letterB c)) w) : S.call Tryd.prog 43 [byteV c] K w := by
  refine F43_link ?_
  unfold F43 byteV
  have hb : ∀ b : Bool, (b = true ↔ (97 ≤ c.toNat ∧ c.toNat ≤ 122) ∨ (65 ≤ c.toNat ∧ c.toNat ≤ 90)) → K (.bool b) w := fun b h => by
    have : b = letterB c := by
      rw [Bool.eq_iff_iff, h]
      unfold letterB
      simp
    exact this ▸ k
  simp only [ge_v, le_v]
  repeat' (refine br_dec _ _ _ (fun _ => ?_) (fun _ => ?_))
  all_goals exact hb _ (by simp; omega)
/-- A width or a precision. -/
def countR : List UInt8 → Nat → Nat × List UInt8
  | [], n => (n, [])
  | c :: r, n => if digitB c = true then countR r (min (10 * n + (c.toNat - 48)) 1001) else (n, c :: r)
theorem countR_le : ∀ (r : List UInt8) (n : Nat), n ≤ 1001 → (countR r n).1 ≤ 1001
  | [], n, h => h
  | c :: r, n, h => by
    unfold countR
    split
    · exact countR_le r _ (Nat.min_le_right _ _)
    · exact h
end
end Go.Proofs.YtjaoeipfiodnfaaDoor
