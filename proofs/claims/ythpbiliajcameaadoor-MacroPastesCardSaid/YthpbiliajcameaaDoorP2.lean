import Derived.Test.YthpbiliajcameaaDoorP1
import Derived.Laws.BitsAllLaws
set_option linter.unusedVariables false
set_option maxRecDepth 4000
namespace Go.Proofs.YthpbiliajcameaaDoor
open Go Go.Fw Go.Proofs Go.RowKit
/-! ### The reference's runes -/
def needN (c : Nat) : Nat := if c < 128 then 1 else if 194 ≤ c ∧ c ≤ 223 then 2 else if 224 ≤ c ∧ c ≤ 239 then 3 else if 240 ≤ c ∧ c ≤ 244 then 4 else 0
def loN (c : Nat) : Nat := if c = 224 then 160 else if c = 240 then 144 else 128
def hiN (c : Nat) : Nat := if c = 237 then 159 else if c = 244 then 143 else 191
def secB (c y : Nat) : Bool := decide (loN c ≤ y) && decide (y ≤ hiN c)
def goodAt (x : List UInt8) (j : Nat) : Prop := 128 ≤ atN x j ∧ atN x j ≤ 191 ∧ (j = 1 → secB (atN x 0) (atN x 1) = true)
def good (x : List UInt8) : Prop := 0 < needN (atN x 0) ∧ needN (atN x 0) ≤ x.length ∧ ∀ j, 1 ≤ j → j < needN (atN x 0) → goodAt x j
def valC (n c y z u : Nat) : Nat :=
  if n = 1 then c else if n = 2 then c % 32 * 64 + y % 64
  else if n = 3 then c % 16 * 4096 + y % 64 * 64 + z % 64
  else c % 8 * 262144 + y % 64 * 4096 + z % 64 * 64 + u % 64
def valN (n : Nat) (x : List UInt8) : Nat := valC n (atN x 0) (atN x 1) (atN x 2) (atN x 3)
theorem atN_lt (x : List UInt8) (i : Nat) : atN x i < 256 := (x.getD i 0).toNat_lt
theorem sec_spec {c y : Nat} : secB c y = true ↔ loN c ≤ y ∧ y ≤ hiN c := by unfold secB; simp
theorem lo_hi (c : Nat) : 128 ≤ loN c ∧ hiN c ≤ 191 := by
  unfold loN hiN
  constructor <;> (repeat' split) <;> omega
theorem need_cases (c : Nat) : (needN c = 0 ∧ (128 ≤ c ∧ c < 194 ∨ 244 < c)) ∨ needN c = 1 ∧ c < 128 ∨ needN c = 2 ∧ 194 ≤ c ∧ c ≤ 223 ∨ needN c = 3 ∧ 224 ≤ c ∧ c ≤ 239 ∨ needN c = 4 ∧ 240 ≤ c ∧ c ≤ 244 := by
  unfold needN
  repeat' split
  all_goals omega
theorem lo_of (c : Nat) : (c = 224 ∧ loN c = 160) ∨ (c = 240 ∧ loN c = 144) ∨ (c ≠ 224 ∧ c ≠ 240 ∧ loN c = 128) := by
  unfold loN
  repeat' split
  all_goals omega
theorem hi_of (c : Nat) : (c = 237 ∧ hiN c = 159) ∨ (c = 244 ∧ hiN c = 143) ∨ (c ≠ 237 ∧ c ≠ 244 ∧ hiN c = 191) := by
  unfold hiN
  repeat' split
  all_goals omega
theorem dgo_good {x : List UInt8} (hx : x ≠ []) (h : good x) : dgo x = (valN (needN (atN x 0)) x, needN (atN x 0)) := by
  rw [dgo_eq hx]
  obtain ⟨h1, h2, h3⟩ := h
  have b0 := atN_lt x 0
  have b1 := atN_lt x 1
  have b2 := atN_lt x 2
  have b3 := atN_lt x 3
  have f1 : 1 < needN (atN x 0) → 128 ≤ atN x 1 ∧ atN x 1 ≤ 191 ∧ loN (atN x 0) ≤ atN x 1 ∧ atN x 1 ≤ hiN (atN x 0) := fun h => by
    have := h3 1 (by omega) h
    exact ⟨this.1, this.2.1, (sec_spec.1 (this.2.2 rfl)).1, (sec_spec.1 (this.2.2 rfl)).2⟩
  have f2 : 2 < needN (atN x 0) → 128 ≤ atN x 2 ∧ atN x 2 ≤ 191 := fun h => ⟨(h3 2 (by omega) h).1, (h3 2 (by omega) h).2.1⟩
  have f3 : 3 < needN (atN x 0) → 128 ≤ atN x 3 ∧ atN x 3 ≤ 191 := fun h => ⟨(h3 3 (by omega) h).1, (h3 3 (by omega) h).2.1⟩
  clear h3
  unfold valN
  generalize atN x 0 = c at *
  generalize hy : atN x 1 = y at *
  generalize hz : atN x 2 = z at *
  generalize hu : atN x 3 = u at *
  generalize x.length = n at *
  have hlo := lo_of c
  have hhi := hi_of c
  rcases need_cases c with ⟨hn, hc⟩ | ⟨hn, hc⟩ | ⟨hn, hc1, hc2⟩ | ⟨hn, hc1, hc2⟩ | ⟨hn, hc1, hc2⟩
  · omega
  all_goals rw [hn] at h2 f1 f2 f3 ⊢
  all_goals unfold Lib.decodeN valC
  · rw [if_pos hc, if_pos rfl]
  · have := f1 (by omega)
    rw [if_neg (by omega), if_pos ⟨by omega, by omega, by omega⟩, if_pos (by omega), if_neg (by omega), if_pos rfl]
  · have h1' := f1 (by omega)
    have h2' := f2 (by omega)
    rw [if_neg (by omega), if_neg (by omega), if_pos ⟨by omega, ⟨by omega, by omega⟩, by omega, by omega⟩, if_pos (by omega), if_neg (by omega), if_neg (by omega), if_pos rfl]
  · have h1' := f1 (by omega)
    have h2' := f2 (by omega)
    have h3' := f3 (by omega)
    rw [if_neg (by omega), if_neg (by omega), if_neg (by omega), if_pos ⟨by omega, ⟨by omega, by omega⟩, ⟨by omega, by omega⟩, by omega, by omega⟩, if_pos (by omega), if_neg (by omega), if_neg (by omega), if_neg (by omega)]
theorem good_of {x : List UInt8} (n : Nat) (hn : needN (atN x 0) = n) (h0 : 0 < n) (hl : n ≤ x.length) (h1 : 1 < n → 128 ≤ atN x 1 ∧ atN x 1 ≤ 191 ∧ loN (atN x 0) ≤ atN x 1 ∧ atN x 1 ≤ hiN (atN x 0)) (h2 : 2 < n → 128 ≤ atN x 2 ∧ atN x 2 ≤ 191) (h3 : 3 < n → 128 ≤ atN x 3 ∧ atN x 3 ≤ 191) (h4 : n ≤ 4) : good x := by
  subst hn
  refine ⟨h0, hl, fun j hj1 hj2 => ?_⟩
  match j, hj1, hj2 with
  | 1, _, hj => exact ⟨(h1 hj).1, (h1 hj).2.1, fun _ => sec_spec.2 (h1 hj).2.2⟩
  | 2, _, hj => exact ⟨(h2 hj).1, (h2 hj).2, fun e => by omega⟩
  | 3, _, hj => exact ⟨(h3 hj).1, (h3 hj).2, fun e => by omega⟩
  | j + 4, _, hj => omega
theorem dgo_bad {x : List UInt8} (hx : x ≠ []) (h : ¬ good x) : dgo x = (65533, 1) := by
  rw [dgo_eq hx]
  have b0 := atN_lt x 0
  have b1 := atN_lt x 1
  have b2 := atN_lt x 2
  have b3 := atN_lt x 3
  have hlo := lo_of (atN x 0)
  have hhi := hi_of (atN x 0)
  have hnc := need_cases (atN x 0)
  have hpos : 1 ≤ x.length := by
    cases x with
    | nil => exact absurd rfl hx
    | cons a r => simp
  have g := fun n hn h0 hl h1 h2 h3 h4 => h (good_of (x := x) n hn h0 hl h1 h2 h3 h4)
  clear h hx
  generalize atN x 0 = c at *
  generalize hy : atN x 1 = y at *
  generalize hz : atN x 2 = z at *
  generalize hu : atN x 3 = u at *
  generalize x.length = n at *
  unfold Lib.decodeN
  split
  · exact absurd (g 1 (by omega) (by omega) (by omega) (by omega) (by omega) (by omega) (by omega)) id
  · split
    · split
      · exact absurd (g 2 (by omega) (by omega) (by omega) (by omega) (by omega) (by omega) (by omega)) id
      · rfl
    · split
      · split
        · exact absurd (g 3 (by omega) (by omega) (by omega) (by omega) (by omega) (by omega) (by omega)) id
        · rfl
      · split
        · split
          · exact absurd (g 4 (by omega) (by omega) (by omega) (by omega) (by omega) (by omega) (by omega)) id
          · rfl
        · rfl
end Go.Proofs.YthpbiliajcameaaDoor
