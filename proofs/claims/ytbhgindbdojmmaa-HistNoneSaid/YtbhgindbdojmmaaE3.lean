import Derived.Test.YtbhgindbdojmmaaE2
import Derived.Test.YtbhgindbdojmmaaW6
set_option linter.unusedVariables false
set_option maxRecDepth 4000
namespace Go.Proofs.Ytbhgindbdojmmaa
open Go Go.Fw Go.Proofs Go.RowKit
/-! ### The rest of the reference's history -/
theorem occ_eq (x t : Txt) (k : Nat) : decide (((x.drop k).take t.length) = t) = Lib.occAt x t k := by
  unfold Lib.occAt
  rw [Bool.eq_iff_iff, decide_eq_true_iff, List.isPrefixOf_iff_prefix, List.prefix_iff_eq_take]
  exact ⟨fun h => h.symm, fun h => h.symm⟩
section
variable {w : World} {K : Value → World → Prop}
theorem run_sub_str (x : Txt) (i j : Nat) (hij : i ≤ j) (hj : j ≤ x.length) (w : World) : (Instr.sliceAt 9 (strV x) (some (I64 i)) (some (I64 j)) none).run Try.prog w = .ok (strV ((x.drop i).take (j - i))) w := by
  unfold strV
  rw [run_sliceAt_string _ _ _ _ _ _ und9, run_slice_string w 9 ⟨x.toArray⟩ .i64 .i64 (i : Int) (j : Int) und9 (by omega) (by omega) (by rw [size_str]; omega)]
  congr 2
  rw [Int.toNat_natCast, Int.toNat_natCast]
  apply ByteArray.ext
  apply Array.ext'
  simp [List.drop_take]
theorem rlast_ {x t : Txt} (hx : x.length ≤ 16384) (ht : t.length ≤ 9223372036854775807) (k : K (I64 (Lib.lastIndex x t)) w) : S.call Try.prog 67 [strV x, strV t] K w := by
  refine F67_link ?_
  unfold F67
  rw [lenS_v und9, lenS_v und9, sub_v, wrap_i64 (by omega) (by omega)]
  intro I hC
  have miss : ∀ (x4 x12 x23 : Value) (z : Int), z < 0 → Lib.lastIndex x t = -1 → I [x4, I64 z, x12, x23] w := by
    intro x4 x12 x23 z hz he
    refine hC _ _ _ _ _ ?_
    rw [ge_v, decide_eq_false (by omega), br_false]
    rw [he] at k
    exact k
  have key : ∀ (d : Nat) (x4 x12 x23 : Value), d + t.length ≤ x.length → Lib.lastIndex x t = Lib.lastOcc x t (d + 1) → I [x4, I64 d, x12, x23] w := by
    intro d
    induction d with
    | zero =>
      intro x4 x12 x23 hd he
      refine hC _ _ _ _ _ ?_
      rw [ge_v, decide_eq_true (by omega), br_true, lenS_v und9, add_v, wrap_i64 (by omega) (by omega), show ((0 : Nat) : Int) + (t.length : Int) = ((0 + t.length : Nat) : Int) from by omega,
        v_eq (run_sub_str x 0 (0 + t.length) (by omega) (by omega) w), show 0 + t.length - 0 = t.length from by omega, eqs_v, occ_eq]
      cases ho : Lib.occAt x t 0 with
      | true =>
        rw [br_true]
        rw [he, Lib.lastOcc_hit x t 0 ho] at k
        exact k
      | false =>
        rw [br_false, sub_v, wrap_i64 (by omega) (by omega)]
        rw [Lib.lastOcc_miss x t 0 ho] at he
        exact miss _ _ _ _ (by omega) he
    | succ d ih =>
      intro x4 x12 x23 hd he
      refine hC _ _ _ _ _ ?_
      rw [ge_v, decide_eq_true (by omega), br_true, lenS_v und9, add_v, wrap_i64 (by omega) (by omega), show ((d + 1 : Nat) : Int) + (t.length : Int) = ((d + 1 + t.length : Nat) : Int) from by omega,
        v_eq (run_sub_str x (d + 1) (d + 1 + t.length) (by omega) (by omega) w), show d + 1 + t.length - (d + 1) = t.length from by omega, eqs_v, occ_eq]
      cases ho : Lib.occAt x t (d + 1) with
      | true =>
        rw [br_true]
        rw [he, Lib.lastOcc_hit x t (d + 1) ho] at k
        exact k
      | false =>
        rw [br_false, sub_v, wrap_i64 (by omega) (by omega), show ((d + 1 : Nat) : Int) - 1 = (d : Int) from by omega]
        rw [Lib.lastOcc_miss x t (d + 1) ho] at he
        exact ih _ _ _ (by omega) he
  by_cases hle : t.length ≤ x.length
  · rw [show (x.length : Int) - (t.length : Int) = ((x.length - t.length : Nat) : Int) from by omega]
    exact key _ _ _ _ (by omega) (by unfold Lib.lastIndex; rw [if_pos hle])
  · exact miss _ _ _ _ (by omega) (by unfold Lib.lastIndex; rw [if_neg hle])
theorem rfirst_ {x t : Txt} (hx : x.length ≤ 16384) (ht : t.length ≤ 9223372036854775807) (k : K (I64 (Lib.index x t)) w) : S.call Try.prog 68 [strV x, strV t] K w := by
  refine F68_link ?_
  unfold F68
  intro I hC
  have key : ∀ (d i : Nat) (x4 x12 x23 : Value), x.length + 1 - i ≤ d → (i ≤ x.length + 1) → (∀ j, j < i → Lib.occAt x t j = false) → I [x4, I64 i, x12, x23] w := by
    intro d
    induction d with
    | zero =>
      intro i x4 x12 x23 hd hi hall
      refine hC _ _ _ _ _ ?_
      rw [lenS_v und9, lenS_v und9, sub_v, wrap_i64 (by omega) (by omega), le_v, decide_eq_false (by omega), br_false]
      rcases Lib.index_spec x t with ⟨h1, h2⟩ | ⟨j, h1, h2, h3, h4⟩
      · rw [h1] at k; exact k
      · have := hall j (by omega)
        rw [h3] at this; cases this
    | succ d ih =>
      intro i x4 x12 x23 hd hi hall
      refine hC _ _ _ _ _ ?_
      rw [lenS_v und9, lenS_v und9, sub_v, wrap_i64 (by omega) (by omega), le_v]
      refine br_dec _ _ _ (fun hle => ?_) (fun hle => ?_)
      · rw [lenS_v und9, add_v, wrap_i64 (by omega) (by omega), show (i : Int) + (t.length : Int) = ((i + t.length : Nat) : Int) from by omega,
          v_eq (run_sub_str x i (i + t.length) (by omega) (by omega) w), show i + t.length - i = t.length from by omega, eqs_v, occ_eq]
        cases ho : Lib.occAt x t i with
        | true =>
          rw [br_true]
          rcases Lib.index_spec x t with ⟨h1, h2⟩ | ⟨j, h1, h2, h3, h4⟩
          · have := h2 i (by omega)
            rw [ho] at this; cases this
          · have e : j = i := by
              rcases Nat.lt_trichotomy j i with h | h | h
              · have := hall j h
                rw [h3] at this; cases this
              · exact h
              · have := h4 i h
                rw [ho] at this; cases this
            subst e
            rw [h1] at k
            exact k
        | false =>
          rw [br_false, add_v, wrap_i64 (by omega) (by omega), show (i : Int) + 1 = ((i + 1 : Nat) : Int) from by omega]
          refine ih (i + 1) _ _ _ (by omega) (by omega) (fun j hj => ?_)
          by_cases e : j = i
          · subst e; exact ho
          · exact hall j (by omega)
      · rcases Lib.index_spec x t with ⟨h1, h2⟩ | ⟨j, h1, h2, h3, h4⟩
        · rw [h1] at k; exact k
        · have hol := occ_len h3 h2
          have := hall j (by omega)
          rw [h3] at this; cases this
  exact key (x.length + 1) 0 _ _ _ (by omega) (by omega) (fun j hj => by omega)
theorem ris_ {b : Nat} {l : List HL} {base most : Int} {L : List Nat} (h : LAt w b l base most L) (i : Int) (k : K (.bool (decide (0 ≤ i ∧ i < l.length))) w) : S.call Try.prog 66 [PT b, I64 i] K w := by
  obtain ⟨lv, Ll, h1, h2, h5⟩ := h.ex
  obtain ⟨A, c, rfl, _⟩ := Own.shape h2
  refine F66_link ?_
  unfold F66
  rw [ge_v]
  refine br_dec _ _ _ (fun hge => ?_) (fun hge => ?_)
  · rw [nilC_v, fa_v fo81_0, ld_v sc28 (cells3 h1).1, len_v el28, lt_v]
    have e : decide (0 ≤ i ∧ i < l.length) = decide (i < (l.length : Int)) := by
      by_cases h : i < (l.length : Int)
      · rw [decide_eq_true h, decide_eq_true ⟨hge, h⟩]
      · rw [decide_eq_false h, decide_eq_false (fun hh => h hh.2)]
    rw [e] at k
    exact k
  · rw [decide_eq_false (fun hh => hge hh.1)] at k
    exact k
theorem rstifle_ {b : Nat} {l : List HL} {base most : Int} {L : List Nat} {m : Int} (h : LAt w b l base most L) (hl : l.length ≤ 5864062014806) (hbase : 0 ≤ base ∧ base ≤ 2305843009213693952)
    (k1 : (m < 0 ∨ 4096 < m) → K (I64 1) w)
    (k2 : ∀ n : Nat, m = n → n ≤ 4096 → ∀ w', LAt w' b (l.drop (l.length - n)) (base + ((l.length - n : Nat) : Int)) n L → Ch L w w' → K (I64 0) w') : S.call Try.prog 54 [PT b, I64 m] K w := by
  refine F54_link ?_
  unfold F54
  rw [lt_v]
  refine br_dec _ _ _ (fun h => k1 (.inl h)) (fun hm0 => ?_)
  rw [gt_v]
  refine br_dec _ _ _ (fun h => k1 (.inr h)) (fun hm1 => ?_)
  obtain ⟨n, rfl⟩ := Int.eq_ofNat_of_zero_le (show 0 ≤ m by omega)
  obtain ⟨lv, Ll, h1, h2, h5⟩ := h.ex
  obtain ⟨A, c, rfl, _⟩ := Own.shape h2
  have hnd := h.nodup
  subst h5
  have hbL : b ∉ Ll := (List.nodup_cons.1 hnd).1
  rw [nilC_v, fa_v fo81_2]
  refine st sc3 h1 (by simp) rfl fun w1 hb1 hc1 hs1 => ?_
  have hq1 : LAt w1 b l base n (b :: Ll) := ⟨⟨_, Ll, hb1, Own.ch h2 hc1 (by grind), rfl⟩, hnd⟩
  refine rcut_ (by omega) _ l base w1 _ _ rfl hq1 hl (by omega) fun w2 hq2 hc2 => ?_
  exact k2 n rfl (by omega) w2 hq2 ((hc1.mono (by grind)).trans hc2 (fun x hx => .inl hx))
theorem rat_ {b : Nat} {l : List HL} {base most : Int} {L : List Nat} (h : LAt w b l base most L) (i : Int)
    (k1 : (i < 0 ∨ (l.length : Int) ≤ i) → ∀ w', Ch [] w w' → K (.tuple #[hlV ([], 0), .bool false]) w') (k2 : ∀ (j : Nat) x, i = j → l[j]? = some x → ∀ w', Ch [] w w' → K (.tuple #[hlV x, .bool true]) w') : S.call Try.prog 55 [PT b, I64 i] K w := by
  refine F55_link ?_
  unfold F55
  refine Go.Fw.al z36 fun w1 hb1 hc1 hs1 => ?_
  have h1 := h.ch hc1 (by simp)
  refine ris_ h1 i ?_
  rw [not_v]
  by_cases hin : 0 ≤ i ∧ i < l.length
  · rw [decide_eq_true hin, show (!true) = false from rfl, br_false]
    obtain ⟨j, rfl⟩ := Int.eq_ofNat_of_zero_le hin.1
    have hlt : j < l.length := by omega
    have hget : l[j]? = some l[j] := List.getElem?_eq_getElem hlt
    obtain ⟨lv, Ll, h11, h2, h5⟩ := h1.ex
    rw [nilC_v, fa_v fo81_0, ld_v sc28 (cells3 h11).1, ixa_v (j := j) el28 ag36 (LS.rl h2) (by omega) rfl hlt (lines_el hget)]
    refine stw ag36 hb1 rfl rfl (by simp [Value.oneCell', strV]) fun w2 hb2 hc2 hs2 => ?_
    rw [ldR_p ag36 hb2 rfl]
    exact k2 j _ rfl hget w2 (hc1.trans hc2 (by simp))
  · rw [decide_eq_false hin, show (!false) = true from rfl, br_true, v_eq (build36z w1)]
    refine stw ag36 hb1 rfl rfl (by simp [Value.oneCell', strV]) fun w2 hb2 hc2 hs2 => ?_
    rw [ldR_p ag36 hb2 rfl]
    exact k1 (by omega) w2 (hc1.trans hc2 (by simp))
theorem rnumber_ {b : Nat} {l : List HL} {base most : Int} {L : List Nat} (h : LAt w b l base most L) (hb : 1 ≤ base) (hb2 : base ≤ 4611686018427387904) (n : Int) (hn : -9223372036854775808 ≤ n ∧ n < 9223372036854775808)
    (k1 : (n < base ∨ base + l.length ≤ n) → ∀ w', Ch [] w w' → K (.tuple #[hlV ([], 0), .bool false]) w') (k2 : ∀ (j : Nat) x, n = base + j → l[j]? = some x → ∀ w', Ch [] w w' → K (.tuple #[hlV x, .bool true]) w') : S.call Try.prog 56 [PT b, I64 n] K w := by
  refine F56_link ?_
  unfold F56
  refine Go.Fw.al z36 fun w1 hb1 hc1 hs1 => ?_
  refine drawn_ok fun w2 hc2 hs2 => ?_
  have hc02 : Ch [] w w2 := hc1.trans hc2 (by simp)
  have hb2' := hc2.at_ hb1 (by simp)
  obtain ⟨lv, Ll, h11, hls, h5⟩ := (h.ch hc02 (by simp)).ex
  have hls' := hls
  obtain ⟨A, c, rfl, hcc1, hcc2⟩ := Own.shape hls
  have hlm : l.length ≤ 9223372036854775807 := by simp only [maxLen] at hcc2; omega
  rw [nilC_p, fa_p fo81_1, ld_p sc2 (cells3 h11).2.1, lt_p]
  refine br_dec _ _ _ (fun hlt => ?_) (fun hlt => ?_)
  · rw [v_eq (build36z w2)]
    refine stw ag36 hb2' rfl rfl (by simp [Value.oneCell', strV]) fun w3 hb3 hc3 hs3 => ?_
    rw [ldR_p ag36 hb3 rfl]
    exact k1 (.inl hlt) w3 (hc02.trans hc3 (by simp))
  rw [nilC_p, fa_p fo81_1, ld_p sc2 (cells3 h11).2.1, sub_p, wrap_i64 (by omega) (by omega), nilC_p, fa_p fo81_0, ld_p sc28 (cells3 h11).1, len_p el28, ge_p]
  refine br_dec _ _ _ (fun hge => ?_) (fun hge => ?_)
  · rw [v_eq (build36z w2)]
    refine stw ag36 hb2' rfl rfl (by simp [Value.oneCell', strV]) fun w3 hb3 hc3 hs3 => ?_
    rw [ldR_p ag36 hb3 rfl]
    exact k1 (.inr (by omega)) w3 (hc02.trans hc3 (by simp))
  obtain ⟨j, hj⟩ := Int.eq_ofNat_of_zero_le (show 0 ≤ n - base by omega)
  have hlt2 : j < l.length := by omega
  have hget : l[j]? = some l[j] := List.getElem?_eq_getElem hlt2
  refine drawn_ok fun w3 hc3 hs3 => ?_
  have hc03 : Ch [] w w3 := hc02.trans hc3 (by simp)
  have h13 := hc3.at_ h11 (by simp)
  rw [nilC_p, fa_p fo81_0, ld_p sc28 (cells3 h13).1, nilC_p, fa_p fo81_1, ld_p sc2 (cells3 h13).2.1, sub_p, wrap_i64 (by omega) (by omega),
    ixa_p (j := j) el28 ag36 (LS.rl (Own.ch hls' hc3 (by simp))) (by omega) hj hlt2 (lines_el hget)]
  refine stw ag36 (hc3.at_ hb2' (by simp)) rfl rfl (by simp [Value.oneCell', strV]) fun w4 hb4 hc4 hs4 => ?_
  rw [ldR_p ag36 hb4 rfl]
  exact k2 j _ (by omega) hget w4 (hc03.trans hc4 (by simp))
end
end Go.Proofs.Ytbhgindbdojmmaa
