import Derived.Test.YtbhgindbdojmmaaH2
set_option linter.unusedVariables false
set_option maxRecDepth 4000
namespace Go.Proofs.Ytbhgindbdojmmaa
open Go Go.Fw Go.Proofs Go.RowKit
section
variable {w : World} {K : Value → World → Prop}
theorem number_ {b : Nat} {l : List HL} {base most : Int} {L : List Nat} (h : HAt w b l base most L) (hb : 1 ≤ base) (hb2 : base ≤ 4611686018427387904) (n : Int) (hn : -9223372036854775808 ≤ n ∧ n < 9223372036854775808)
    (k1 : (n < base ∨ base + l.length ≤ n) → ∀ w', Ch [] w w' → K (.tuple #[hlV ([], 0), .bool false]) w') (k2 : ∀ (j : Nat) x, n = base + j → l[j]? = some x → ∀ w', Ch [] w w' → K (.tuple #[hlV x, .bool true]) w') : S.call Try.prog 15 [PT b, I64 n] K w := by
  refine F15_link ?_
  unfold F15
  refine al z36 fun w1 hb1 hc1 hs1 => ?_
  refine drawn_ok fun w2 hc2 hs2 => ?_
  have hc02 : Ch [] w w2 := hc1.trans hc2 (by simp)
  have h2 := h.ch hc02 (by simp)
  have hb2' := hc2.at_ hb1 (by simp)
  refine ⟨fun w' => w' = w2, rfl, ?_⟩
  refine hnone h2 (by omega) ⟨rfl, ?_⟩
  rw [br_false]
  obtain ⟨lv, Ll, h11, hls, h5⟩ := h2.ex
  have hls' := hls
  obtain ⟨A, c, rfl, hcc1, hcc2⟩ := Own.shape hls
  have hlm : l.length ≤ 9223372036854775807 := by simp only [maxLen] at hcc2; omega
  refine h_ok (x := PT b) (fun w' hw => by subst hw; exact run_nilC _) ?_
  refine h_ok (x := PT b) (fun w' hw => by subst hw; exact run_fa fo87_0) ?_
  refine h_ok (x := .pointer (some ⟨b, 1, none⟩)) (fun w' hw => by subst hw; exact run_fa fo85_1) ?_
  refine h_ok (x := I64 base) (fun w' hw => by subst hw; exact run_ld sc2 (cells3 h11).2.1) ?_
  refine h_ok (x := .bool (decide (n < base))) (fun w' hw => run_lt ..) ?_
  refine br_dec _ _ _ (fun hlt => ?_) (fun hlt => ?_)
  · rw [v_eq (build36z w2)]
    refine stw ag36 hb2' rfl rfl (by simp [Value.oneCell', strV]) fun w3 hb3 hc3 hs3 => ?_
    rw [ldR_p ag36 hb3 rfl]
    exact k1 (.inl hlt) w3 (hc02.trans hc3 (by simp))
  refine h_ok (x := PT b) (fun w' hw => by subst hw; exact run_nilC _) ?_
  refine h_ok (x := PT b) (fun w' hw => by subst hw; exact run_fa fo87_0) ?_
  refine h_ok (x := .pointer (some ⟨b, 1, none⟩)) (fun w' hw => by subst hw; exact run_fa fo85_1) ?_
  refine h_ok (x := I64 base) (fun w' hw => by subst hw; exact run_ld sc2 (cells3 h11).2.1) ?_
  refine h_ok (x := I64 (n - base)) (fun w' hw => by rw [run_sub, wrap_i64 (by omega) (by omega)]) ?_
  refine h_ok (x := PT b) (fun w' hw => by subst hw; exact run_nilC _) ?_
  refine h_ok (x := PT b) (fun w' hw => by subst hw; exact run_fa fo87_0) ?_
  refine h_ok (x := PT b) (fun w' hw => by subst hw; exact run_fa fo85_0) ?_
  refine h_ok (x := .slice A l.length c) (fun w' hw => by subst hw; exact run_ld sc28 (cells3 h11).1) ?_
  refine h_ok (x := I64 l.length) (fun w' hw => run_len el28 _ _ rfl ..) ?_
  refine h_ok (x := .bool (decide ((l.length : Int) ≤ n - base))) (fun w' hw => run_ge ..) ?_
  refine br_dec _ _ _ (fun hge => ?_) (fun hge => ?_)
  · rw [v_eq (build36z w2)]
    refine stw ag36 hb2' rfl rfl (by simp [Value.oneCell', strV]) fun w3 hb3 hc3 hs3 => ?_
    rw [ldR_p ag36 hb3 rfl]
    exact k1 (.inr (by omega)) w3 (hc02.trans hc3 (by simp))
  obtain ⟨j, hj⟩ := Int.eq_ofNat_of_zero_le (show 0 ≤ n - base by omega)
  have hlt2 : j < l.length := by omega
  have hget : l[j]? = some l[j] := List.getElem?_eq_getElem hlt2
  refine drawn_ok fun w3 hc3 hs3 => ?_
  have hc03 : Ch [] w w3 := hc02.trans hc3 (by simp)
  have h13 := hc3.at_ h11 (by simp)
  rw [nilC_p, fa_p fo87_0, fa_p fo85_0, ld_p sc28 (cells3 h13).1, nilC_p, fa_p fo87_0, fa_p fo85_1, ld_p sc2 (cells3 h13).2.1, sub_p, wrap_i64 (by omega) (by omega),
    ixa_p (j := j) el28 ag36 (LS.rl (Own.ch hls' hc3 (by simp))) (by omega) hj hlt2 (lines_el hget)]
  refine stw ag36 (hc3.at_ hb2' (by simp)) rfl rfl (by simp [Value.oneCell', strV]) fun w4 hb4 hc4 hs4 => ?_
  rw [ldR_p ag36 hb4 rfl]
  exact k2 j _ (by omega) hget w4 (hc03.trans hc4 (by simp))
theorem from_ {B : Nat} {v : Value} {l : List HL} {most : Nat} (hr : RL w B v l) (hB : B ≤ w.heap.size) (hl : l.length * 24 ≤ 140737488355328) (hm : most ≤ 4096)
    (k1 : may l ≠ 0 → ∀ w', Ch [] w w' → K (.tuple #[.pointer none, I64 (may l)]) w')
    (k2 : may l = 0 → ∀ w' b L', HAt w' b (l.drop (l.length - most)) (1 + ((l.length - most : Nat) : Int)) most L' → Ch [] w w' → (∀ x, x ∈ L' → w.heap.size ≤ x) → K (.tuple #[PT b, I64 0]) w') : S.call Try.prog 16 [I64 most, v] K w := by
  refine F16_link ?_
  unfold F16
  refine new_ (fun h => absurd h (by omega)) (fun _ _ w1 hq1 hc1 hs1 => ?_)
  rw [x20, x21, ne_v, decide_eq_false (by simp), br_false]
  refine add_ hq1 (hr.ch hc1) (by omega) (by simp; omega) (by omega) hm (fun hn w2 hq2 hc2 => ?_) (fun hn w2 L2 hq2 hc2 hl2 => ?_)
  · rw [ne_v, decide_eq_true hn, br_true]
    exact k1 hn w2 (hc1.trans hc2 (by simp))
  · rw [ne_v, decide_eq_false (by simp), br_false]
    simp only [List.nil_append, List.length_nil, Nat.zero_add] at hq2
    refine k2 hn w2 _ L2 hq2 (hc1.trans hc2 (by simp)) (fun x hx => ?_)
    rcases hl2 x hx with h | h
    · simp at h; omega
    · omega
theorem bs3 (w : World) (a b c d e f : Value) : (Instr.buildSlice 28 3 #[(0, .agg #[a, b]), (1, .agg #[c, d]), (2, .agg #[e, f])]).run Try.prog w = .ok (.slice (some ⟨w.heap.size, 0, none⟩) 3 3) (w.alloc (.cells #[a, b, c, d, e, f] 36)) := by kernel_rfl
theorem strVn (l : List UInt8) : Value.string ⟨l.toArray⟩ = strV l := rfl
theorem begun_ (k : ∀ w', Ch [] w w' → K (.bool true) w') : S.call Try.prog 10 [] K w := by
  refine F10_link ?_
  unfold F10
  rw [v_eq (build36 w _), v_eq (build36 w _), v_eq (build36 w _), v_eq (bs3 w _ _ _ _ _ _)]
  have hls : LS (w.alloc (.cells #[strV [97], I64 0, strV [98], I64 0, strV [99], I64 0] 36)) (.slice (some ⟨w.heap.size, 0, none⟩) 3 3) [([97], 0), ([98], 0), ([99], 0)] [w.heap.size] :=
    Own.fresh (n := 3) (sz := 2) (heap_alloc_new w _) rfl (by simp [maxLen])
  have hc1 := ch_alloc w (.cells #[strV [97], I64 0, strV [98], I64 0, strV [99], I64 0] 36)
  refine from_ (most := 2) (LS.rl hls) (Nat.le_refl _) (by simp) (by omega) (fun h => absurd h (by decide)) (fun _ w2 b L2 hq2 hc2 hl2 => ?_)
  have hc02 := hc1.trans hc2 (by simp)
  rw [x20, x21, eqn_v pt23, Option.isNone_some, br_false, ne_v, decide_eq_false (by simp), br_false]
  refine len_ hq2 (by simp) ?_
  rw [ne_v, decide_eq_false (by simp), br_false]
  refine base_ hq2 (by simp) ?_
  rw [ne_v, decide_eq_false (by simp), br_false]
  refine at__ hq2 (by simp) 0 (fun h => absurd h (by simp)) (fun j x hj hx w3 hc3 => ?_)
  have hc03 := hc02.trans hc3 (by simp)
  obtain rfl : j = 0 := by omega
  have hx' : x = ([98], 0) := by simpa using hx.symm
  subst hx'
  rw [x20, x21]
  refine al z36 fun w4 hb4 hc4 hs4 => ?_
  refine stw ag36 hb4 rfl rfl (by simp [Value.oneCell', strV]) fun w5 hb5 hc5 hs5 => ?_
  have hc05 : Ch [] w w5 := (hc03.trans hc4 (by simp)).trans hc5 (by have := hc03.size; simp; omega)
  rw [br_true, fa_v fo36_0, ld_v sc9 (cells2 hb5).1, strVn, eqs_v, decide_eq_true rfl]
  exact k _ hc05
end
end Go.Proofs.Ytbhgindbdojmmaa
