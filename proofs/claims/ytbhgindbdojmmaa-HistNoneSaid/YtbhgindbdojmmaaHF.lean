import Derived.Test.YtbhgindbdojmmaaH4
import Derived.Test.YtbhgindbdojmmaaShelf
import Derived.Lib.IndexMore
import Derived.Lib.LastIndexLaws
set_option linter.unusedVariables false
set_option maxRecDepth 4000
namespace Go.Proofs.Ytbhgindbdojmmaa
open Go Go.Fw Go.Proofs Go.RowKit
/-! ### What a search finds in a line -/
abbrev Txt := List UInt8
def fnd (x t : Txt) (back begins : Bool) : Int := if begins = true then (if Lib.hasPrefix x t = true then 0 else -1) else if back = true then Lib.lastIndex x t else Lib.index x t
def hasT (x t : Txt) (begins : Bool) : Bool := if begins = true then Lib.hasPrefix x t else Lib.contains x t
theorem last_cases (x t : Txt) : (Lib.lastIndex x t = -1 ∧ ∀ j, j + t.length ≤ x.length → Lib.occAt x t j = false) ∨ ∃ i : Nat, Lib.lastIndex x t = i ∧ i + t.length ≤ x.length ∧ Lib.occAt x t i = true := by
  unfold Lib.lastIndex
  by_cases h : t.length ≤ x.length
  · rw [if_pos h]
    rcases Lib.lastOcc_spec x t (x.length - t.length + 1) with ⟨h1, h2⟩ | ⟨i, h1, h2, h3, _⟩
    · exact .inl ⟨h1, fun j hj => h2 j (by omega)⟩
    · exact .inr ⟨i, h2, by omega, h3⟩
  · rw [if_neg h]
    exact .inl ⟨rfl, fun j hj => by omega⟩
theorem occ_len {x t : Txt} {i : Nat} (h : Lib.occAt x t i = true) (hi : i ≤ x.length) : i + t.length ≤ x.length := by
  unfold Lib.occAt at h
  have := (List.isPrefixOf_iff_prefix.1 h).length_le
  rw [List.length_drop] at this
  omega
theorem fnd_ge (x t : Txt) (back begins : Bool) : -1 ≤ fnd x t back begins := by
  unfold fnd
  split
  · split <;> omega
  · split
    · rcases last_cases x t with ⟨h, _⟩ | ⟨i, h, _⟩ <;> rw [h] <;> omega
    · exact Lib.index_ge x t
theorem fnd_has (x t : Txt) (back begins : Bool) : decide (0 ≤ fnd x t back begins) = hasT x t begins := by
  unfold fnd hasT
  cases begins with
  | true =>
    simp only [if_true]
    cases Lib.hasPrefix x t <;> simp
  | false =>
    simp only [Bool.false_eq_true, if_false]
    cases back with
    | false => rfl
    | true =>
      simp only [if_true]
      unfold Lib.contains
      rcases Lib.index_spec x t with ⟨h1, h2⟩ | ⟨i, h1, h2, h3, _⟩
      · rcases last_cases x t with ⟨h4, _⟩ | ⟨j, h4, h5, h6⟩
        · rw [h1, h4]
        · have := h2 j (by omega)
          rw [h6] at this; cases this
      · rcases last_cases x t with ⟨h4, h5⟩ | ⟨j, h4, h5, h6⟩
        · have := h5 i (occ_len h3 h2)
          rw [h3] at this; cases this
        · rw [h1, h4, decide_eq_true (by omega), decide_eq_true (by omega)]
theorem fnd_at {x t : Txt} {back begins : Bool} (h : 0 ≤ fnd x t back begins) : ∃ i : Nat, fnd x t back begins = i ∧ i ≤ x.length ∧ Lib.hasPrefix (x.drop i) t = true ∧ (begins = true → i = 0) := by
  unfold fnd at *
  cases begins with
  | true =>
    simp only [if_true] at h ⊢
    cases hp : Lib.hasPrefix x t with
    | true => rw [if_pos rfl]; exact ⟨0, rfl, Nat.zero_le _, by simpa using hp, fun _ => rfl⟩
    | false => rw [hp] at h; simp at h
  | false =>
    simp only [Bool.false_eq_true, if_false] at h ⊢
    cases back with
    | true =>
      simp only [if_true] at h ⊢
      rcases last_cases x t with ⟨h1, _⟩ | ⟨i, h1, h2, h3⟩
      · rw [h1] at h; omega
      · exact ⟨i, h1, by omega, h3, fun h => h.elim⟩
    | false =>
      simp only [Bool.false_eq_true, if_false] at h ⊢
      rcases Lib.index_spec x t with ⟨h1, _⟩ | ⟨i, h1, h2, h3, _⟩
      · rw [h1] at h; omega
      · exact ⟨i, h1, h2, h3, fun h => h.elim⟩
/-- A search: from the place i on, d more steps. -/
def goS (l : List HL) (t : Txt) (back begins : Bool) : Nat → Int → Int × Int × Bool
  | 0, _ => (0, 0, false)
  | d + 1, i => if 0 ≤ i ∧ i < l.length then (if 0 ≤ fnd ((l[i.toNat]?).getD ([], 0)).1 t back begins then (i, fnd ((l[i.toNat]?).getD ([], 0)).1 t back begins, true) else goS l t back begins d (if back = true then i - 1 else i + 1)) else (0, 0, false)
def startS (l : List HL) (from_ : Int) (back : Bool) : Int := if back = true then min from_ ((l.length : Int) - 1) else max from_ 0
def srch (l : List HL) (from_ : Int) (t : Txt) (back begins : Bool) : Int × Int × Bool := goS l t back begins (l.length + 1) (startS l from_ back)
/-- How many steps are left. -/
def leftS (l : List HL) (back : Bool) (i : Int) : Int := if back = true then i + 1 else l.length - i
theorem goS_more (l : List HL) (t : Txt) (back begins : Bool) : ∀ (d e : Nat) (i : Int), leftS l back i < d → leftS l back i < e → goS l t back begins d i = goS l t back begins e i
  | 0, e, i, h1, h2 => by
    cases e with
    | zero => rfl
    | succ e =>
      unfold goS
      rw [if_neg]
      unfold leftS at h1
      cases back <;> simp at h1 <;> omega
  | d + 1, 0, i, h1, h2 => by
    unfold goS
    rw [if_neg]
    unfold leftS at h2
    cases back <;> simp at h2 <;> omega
  | d + 1, e + 1, i, h1, h2 => by
    unfold goS
    split
    · split
      · rfl
      · refine goS_more l t back begins d e _ ?_ ?_
        · unfold leftS at *
          cases back <;> simp at * <;> omega
        · unfold leftS at *
          cases back <;> simp at * <;> omega
    · rfl
section
variable {w : World} {K : Value → World → Prop}
theorem data_str (l : Txt) : (⟨l.toArray⟩ : ByteArray).data.toList = l := by simp
theorem hasPrefix_ {x t : Txt} (k : K (.bool (Lib.hasPrefix x t)) w) : S.call Try.prog 30 [strV x, strV t] K w := by
  refine Calls.mono (Try.strings_HasPrefix ⟨x.toArray⟩ ⟨t.toArray⟩ w) ?_
  rintro e w' ⟨rfl, rfl⟩
  rw [data_str, data_str]
  exact k
theorem contains_ {x t : Txt} {m : Int} (hx : x.length ≤ 16384) (hm : w.cell? ⟨0, 0, none⟩ = some (.int .i64 m)) (k : K (.bool (Lib.contains x t)) w) : S.call Try.prog 31 [strV x, strV t] K w := by
  refine Calls.mono (Try.strings_Contains ⟨x.toArray⟩ ⟨t.toArray⟩ m w (by rw [size_str]; omega) hm) ?_
  rintro e w' ⟨rfl, rfl⟩
  rw [data_str, data_str]
  exact k
theorem index_ {x t : Txt} {m : Int} (hx : x.length ≤ 16384) (hm : w.cell? ⟨0, 0, none⟩ = some (.int .i64 m)) (k : K (I64 (Lib.index x t)) w) : S.call Try.prog 52 [strV x, strV t] K w := by
  refine Calls.mono (Try.strings_Index ⟨x.toArray⟩ ⟨t.toArray⟩ m w (by rw [size_str]; omega) hm) ?_
  rintro e w' ⟨rfl, rfl⟩
  rw [data_str, data_str]
  exact k
theorem lastIndex_ {x t : Txt} (hx : x.length ≤ 16384) (k : K (I64 (Lib.lastIndex x t)) w) : S.call Try.prog 65 [strV x, strV t] K w := by
  refine Calls.mono (Try.strings_LastIndex ⟨x.toArray⟩ ⟨t.toArray⟩ (by rw [size_str]; omega) w) ?_
  rintro e w' ⟨rfl, rfl⟩
  rw [data_str, data_str]
  exact k
theorem found_ {x t : Txt} {m : Int} {back begins : Bool} (hx : x.length ≤ 16384) (hm : w.cell? ⟨0, 0, none⟩ = some (.int .i64 m)) (k : K (I64 (fnd x t back begins)) w) : S.call Try.prog 53 [strV x, strV t, .bool back, .bool begins] K w := by
  refine F53_link ?_
  unfold F53
  unfold fnd at k
  cases begins with
  | true =>
    rw [if_pos rfl] at k
    rw [br_true]
    refine hasPrefix_ ?_
    cases hp : Lib.hasPrefix x t with
    | true => rw [hp, if_pos rfl] at k; rw [br_true]; exact k
    | false => rw [hp, if_neg (by simp)] at k; rw [br_false, br_true]; exact k
  | false =>
    rw [if_neg (by simp)] at k
    rw [br_false, br_false]
    cases back with
    | true => rw [if_pos rfl] at k; rw [br_true]; exact lastIndex_ hx k
    | false => rw [if_neg (by simp)] at k; rw [br_false]; exact index_ hx hm k
theorem search_ {b : Nat} {l : List HL} {base most : Int} {L : List Nat} {m from_ : Int} {t : Txt} {back begins : Bool} (h : HAt w b l base most L) (hb : base ≠ 0) (hl : l.length ≤ 4096) (hx : ∀ x ∈ l, x.1.length ≤ 16384) (hm : w.cell? ⟨0, 0, none⟩ = some (.int .i64 m))
    (hf : -9223372036854775808 ≤ from_ ∧ from_ ≤ 9223372036854775807)
    (k : K (.tuple #[I64 (srch l from_ t back begins).1, I64 (srch l from_ t back begins).2.1, .bool (srch l from_ t back begins).2.2]) w) : S.call Try.prog 32 [PT b, I64 from_, strV t, .bool back, .bool begins] K w := by
  refine F32_link ?_
  unfold F32
  refine len_ h hb ?_
  refine seq_ok fun J hJ => ?_
  have hj : ∀ v2, J [I64 (startS l from_ back), I64 (if back = true then -1 else 1), v2] w := by
    intro v2
    refine hJ _ _ ?_
    obtain ⟨lv, Ll, h1, h2, h5⟩ := h.ex
    have h2' := h2
    obtain ⟨A, c, rfl, hc1, hc2⟩ := Own.shape h2
    intro I hC
    have key : ∀ (d : Nat) (i : Int) (x10 x11 x12 x16 x33 x51 : Value), leftS l back i < d → -9223372036854775808 ≤ i → i ≤ 9223372036854775807 → (back = true → i < 4611686018427387904) → (back = false → -1 ≤ i) →
        K (.tuple #[I64 (goS l t back begins d i).1, I64 (goS l t back begins d i).2.1, .bool (goS l t back begins d i).2.2]) w → I [x10, x11, x12, I64 i, x16, x33, x51] w := by
      intro d
      induction d with
      | zero =>
        intro i x10 x11 x12 x16 x33 x51 hd hi1 hi2 hb1 hb2 kk
        refine hC _ _ _ _ _ _ _ _ ?_
        unfold leftS at hd
        rw [ge_v]
        refine br_dec _ _ _ (fun hge => ?_) (fun hge => ?_)
        · rw [lt_v, decide_eq_false (by cases back <;> simp at hd <;> omega), br_false]
          exact kk
        · exact kk
      | succ d ih =>
        intro i x10 x11 x12 x16 x33 x51 hd hi1 hi2 hb1 hb2 kk
        refine hC _ _ _ _ _ _ _ _ ?_
        rw [ge_v]
        refine br_dec _ _ _ (fun hge => ?_) (fun hge => ?_)
        · rw [lt_v]
          refine br_dec _ _ _ (fun hlt => ?_) (fun hlt => ?_)
          · obtain ⟨j, rfl⟩ := Int.eq_ofNat_of_zero_le hge
            have hjl : j < l.length := by omega
            have hget : l[j]? = some l[j] := List.getElem?_eq_getElem hjl
            rw [nilC_v, fa_v fo87_0, fa_v fo85_0, ld_v sc28 (cells3 h1).1, ixf_v (j := j) el28 fo36_0 sc9 (LS.rl h2') (by omega) rfl hjl (lines_0 hget)]
            refine found_ (hx _ (List.getElem_mem hjl)) hm ?_
            unfold goS at kk
            rw [if_pos ⟨hge, hlt⟩, Int.toNat_natCast, hget, Option.getD_some] at kk
            rw [ge_v]
            refine br_dec _ _ _ (fun h0 => ?_) (fun h0 => ?_)
            · rw [if_pos h0] at kk; exact kk
            · rw [if_neg h0] at kk
              have hval : IntKind.i64.wrap ((j : Int) + (if back = true then -1 else 1)) = if back = true then (j : Int) - 1 else (j : Int) + 1 := by
                cases back
                · simp only [Bool.false_eq_true, if_false]; rw [wrap_i64 (by omega) (by omega)]
                · simp only [if_true]; rw [wrap_i64 (by omega) (by omega)]; omega
              rw [nth_succ, nth_zero, add_v, hval]
              refine ih _ _ _ _ _ _ _ ?_ ?_ ?_ ?_ ?_ kk
              · unfold leftS at *; cases back <;> simp at * <;> omega
              · cases back <;> simp <;> omega
              · cases back <;> simp <;> omega
              · intro hb'; subst hb'; simp; omega
              · intro hb'; subst hb'; simp; omega
          · unfold goS at kk
            rw [if_neg (by omega)] at kk
            exact kk
        · unfold goS at kk
          rw [if_neg (by omega)] at kk
          exact kk
    rw [nth_zero]
    refine key (l.length + 1) _ _ _ _ _ _ _ ?_ ?_ ?_ ?_ ?_ k
    · unfold leftS startS; cases back <;> simp <;> omega
    · unfold startS; cases back <;> simp <;> omega
    · unfold startS; cases back <;> simp <;> omega
    · intro hb'; subst hb'; unfold startS; simp; omega
    · intro hb'; subst hb'; unfold startS; simp; omega
  clear hJ
  cases back with
  | true =>
    rw [br_true, sub_v, wrap_i64 (by omega) (by omega), v_eq (run_min ..)]
    exact hj _
  | false =>
    rw [br_false, v_eq (run_max ..)]
    exact hj _
end
end Go.Proofs.Ytbhgindbdojmmaa
