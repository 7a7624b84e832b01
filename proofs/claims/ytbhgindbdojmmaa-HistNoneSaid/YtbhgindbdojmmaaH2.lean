import Derived.Test.YtbhgindbdojmmaaH
set_option linter.unusedVariables false
set_option maxRecDepth 4000
namespace Go.Proofs.Ytbhgindbdojmmaa
open Go Go.Fw Go.Proofs Go.RowKit
/-- The iterator of slices.All over a slice that lies in block c. -/
abbrev AllV (c : Nat) : Value := .func (.func 61) #[] #[PT c]
/-- What the iterator reads: the slice r in block c; the blocks lie from lo on, below B. -/
structure It (w : World) (lo B c : Nat) (r : Value) (l : List HL) : Prop where
  at_ : w.heap[c]? = some (.cells #[r] 28 (0, 0))
  own : ∃ Lr, LS w r l Lr ∧ ∀ x, x ∈ Lr → lo ≤ x ∧ x < B
  lt : lo ≤ c ∧ c < B
theorem It.ch {w w' : World} {lo B c : Nat} {r : Value} {l : List HL} {M : List Nat} (h : It w lo B c r l) (hc : Ch M w w') (hd : ∀ x, x ∈ M → x < lo ∨ B ≤ x) : It w' lo B c r l := by
  obtain ⟨Lr, h1, h2⟩ := h.own
  have h3 := h.lt
  exact ⟨hc.at_ h.at_ (fun hm => by have := hd c hm; omega), ⟨Lr, Own.ch h1 hc (fun x hx hm => by have := hd x hm; have := h2 x hx; omega), h2⟩, h3⟩
theorem It.rl {w : World} {lo B c : Nat} {r : Value} {l : List HL} (h : It w lo B c r l) : RL w w.heap.size r l := by
  obtain ⟨Lr, h1, _⟩ := h.own
  exact LS.rl h1
section
variable {w : World} {K : Value → World → Prop}
theorem all_ {b : Nat} {l : List HL} {base most : Int} {L : List Nat} (h : HAt w b l base most L) (hb : base ≠ 0) (hl : l.length * 24 ≤ 140737488355328)
    (k : ∀ w' c r, It w' w.heap.size w'.heap.size c r l → Ch [] w w' → w.heap.size ≤ c → K (AllV c) w') : S.call Try.prog 14 [PT b] K w := by
  obtain ⟨lv, Ll, h1, h2, h5⟩ := h.ex
  refine F14_link ?_
  unfold F14
  refine seq_ok fun J hJ => ?_
  refine hnone h hb ?_
  rw [not_v, show (!false) = true from rfl, br_true, nilC_v, fa_v fo87_0, fa_v fo85_0, ld_v sc28 (cells3 h1).1]
  refine clone_ (LS.rl h2) (Nat.le_refl _) hl fun r w1 L1 hls1 hcw1 hl1 => ?_
  refine hJ _ _ ?_
  clear hJ
  rw [nth_zero]
  refine F46_link ?_
  unfold F46
  obtain ⟨A, c, rfl, _⟩ := Own.shape hls1
  refine bx fun w2 hb2 hc2 hs2 => ?_
  rw [mf_v]
  have hsz := hcw1.size
  refine k w2 _ _ ⟨hb2, ⟨L1, Own.ch hls1 hc2 (by simp), fun x hx => ⟨hl1 x hx, by have := Own.lt hls1 x hx; omega⟩⟩, by omega⟩ (hcw1.trans hc2 (by simp)) hsz
theorem iter_ {lo B c : Nat} {r : Value} {l : List HL} {yv : Value} {J : Nat → World → Prop} {E : World → Prop} (hB : B ≤ w.heap.size) (hsz : l.length ≤ 9223372036854775807)
    (hJ : ∀ i w', J i w' → It w' lo B c r l) (hst : ∀ i w1 w2, J i w1 → Ch [] w1 w2 → J i w2)
    (hy : ∀ i x w', l[i]? = some x → J i w' → S.nx Try.prog (S.callV yv [I64 i, hlV x]) (fun b w'' => (b = .bool true ∧ J (i + 1) w'') ∨ (b = .bool false ∧ E w'')) w')
    (h0 : J 0 w) (k1 : ∀ w', J l.length w' → K (.tuple #[]) w') (k2 : ∀ w', E w' → K (.tuple #[]) w') : S.call Try.prog 61 [yv, PT c] K w := by
  have hnxmono : ∀ {s : Sem Next} {K K' : Value → World → Prop} {w : World}, S.nx Try.prog s K w → (∀ x w', K x w' → K' x w') → S.nx Try.prog s K' w := fun {s K K' w} h hk => by
    unfold S.nx at *
    generalize s.run Try.prog w = r at h ⊢
    cases r with
    | halt x w' => exact h
    | ok n w' =>
      have hr : ∀ e w, retP K e w → retP K' e w := fun e w he => by
        cases e with
        | returned x => exact hk x w he
        | panicked c => exact he
        | outgrown => exact he
      cases n <;> first
        | exact hk _ _ h
        | exact Calls.mono h hr
        | exact RoundIn.mono h hr
        | exact h
  refine F61_link ?_
  unfold F61
  have hc0 := (hJ 0 w h0).at_
  have hr0 := (hJ 0 w h0).rl
  have hr0' := hr0
  obtain ⟨A, cp, rfl, hc1, hc2, _⟩ := hr0.form
  rw [ld_v sc28 (cells1 hc0), len_v el28]
  intro I hC
  have key : ∀ (d i : Nat) (x3 x4 x8 x16 : Value) (w' : World), i + d = l.length → J i w' → I [x3, x4, I64 i, x8, x16] w' := by
    intro d
    induction d with
    | zero =>
      intro i x3 x4 x8 x16 w1 hi hj
      have hr1 := (hJ i w1 hj).rl
      refine hC _ _ _ _ _ _ ?_
      rw [lt_v, decide_eq_false (by omega), br_false]
      have : i = l.length := by omega
      subst this
      exact k1 w1 hj
    | succ d ih =>
      intro i x3 x4 x8 x16 w1 hi hj
      have hr1 := (hJ i w1 hj).rl
      refine hC _ _ _ _ _ _ ?_
      have hlt : i < l.length := by omega
      have hget : l[i]? = some l[i] := List.getElem?_eq_getElem hlt
      rw [lt_v, decide_eq_true (by omega), br_true, ixa_v (j := i) el28 ag36 hr1 (by omega) rfl hlt (lines_el hget)]
      refine al z36 fun w2 hb2 hc2 hs2 => ?_
      refine stw ag36 hb2 rfl rfl (by simp [Value.oneCell', strV]) fun w3 hb3 hc3 hs3 => ?_
      have hc13 : Ch [] w1 w3 := hc2.trans hc3 (by simp)
      rw [ldw_v ag36 hb3 rfl]
      have hj3 := hst i w1 w3 hj hc13
      refine hnxmono (hy i l[i] w3 hget hj3) fun bv w4 hbv => ?_
      rcases hbv with ⟨rfl, hj4⟩ | ⟨rfl, he⟩
      · rw [not_v, show (!true) = false from rfl, br_false, add_v, wrap_i64 (by omega) (by omega)]
        have := ih (i + 1) (I64 i) (PT w1.heap.size) (.bool true) (.bool false) w4 (by omega) hj4
        rw [show ((i + 1 : Nat) : Int) = (i : Int) + 1 from by omega] at this
        exact this
      · rw [not_v, show (!false) = true from rfl, br_true]
        exact k2 w4 he
  exact key l.length 0 undef undef undef undef w (by omega) h0
/-- 'for i, x := range h.All()'. -/
theorem rng_ {lo c : Nat} {r : Value} {l : List HL} {rnd : ((World → Prop) → World → Prop) → (Option Code → World → Prop) → List Value → World → Prop} {nrm rt : Nat → World → Prop}
    (hsz : l.length ≤ 9223372036854775807) (hit : It w lo w.heap.size c r l) {J : Nat → World → Prop} {E : World → Prop}
    (hJ : ∀ i w', J i w' → It w' lo w.heap.size c r l) (hst : ∀ i w1 w2 M, J i w1 → Ch M w1 w2 → (∀ x, x ∈ M → x = w.heap.size ∨ x = w.heap.size + 1) → J i w2)
    (h0 : ∀ w1, Ch [] w w1 → w1.heap.size = w.heap.size + 2 → J 0 w1)
    (hE : ∀ w1 w2, E w1 → Ch [w.heap.size + 1] w1 w2 → E w2)
    (hy : ∀ (R0 Rb : Obj) (bg : (World → Prop) → World → Prop) (dn : Option Code → World → Prop) i x w1, l[i]? = some x → J i w1 → w.heap.size + 2 ≤ w1.heap.size → w1.heap[w.heap.size]? = some (.deferred (some [])) → w1.heap[w.heap.size + 1]? = some R0 →
      (∀ K w2, w2.heap[w.heap.size + 1]? = some R0 → (∀ w3, Ch [w.heap.size + 1] w2 w3 → w3.heap.size = w2.heap.size → w3.heap[w.heap.size + 1]? = some Rb → K w3) → bg K w2) →
      (∀ w2, w2.heap[w.heap.size + 1]? = some Rb → w2.heap[w.heap.size]? = some (.deferred (some [])) → w.heap.size + 2 ≤ w2.heap.size → J (i + 1) w2 → dn none w2) →
      (∀ w2, w2.heap[w.heap.size + 1]? = some Rb → w2.heap[w.heap.size]? = some (.deferred (some [])) → w.heap.size + 2 ≤ w2.heap.size → E w2 → dn (some .ret) w2) →
      rnd bg dn [I64 i, hlV x] w1)
    (k1 : ∀ w1 w2, J l.length w1 → w1.heap[w.heap.size]? = some (.deferred (some [])) → w.heap.size + 2 ≤ w1.heap.size → Ch [w.heap.size + 1] w1 w2 → nrm w.heap.size w2)
    (k2 : ∀ w1 w2, E w1 → w1.heap[w.heap.size]? = some (.deferred (some [])) → w.heap.size + 2 ≤ w1.heap.size → Ch [w.heap.size + 1] w1 w2 → rt w.heap.size w2) :
    S.rng Try.prog (AllV c) 2 rnd nrm rt w := by
  intro yv Rj Rb Rx w1 hD hL hc1 hs1 hyv
  refine ent_func (first := []) (cap := [PT c]) (f := 61) Try.func61 (by decide) rfl ?_
  refine iter_ (w := w1) (lo := lo) (B := w.heap.size) (r := r) (l := l)
    (J := fun i w' => J i w' ∧ w'.heap[w.heap.size]? = some (.deferred (some [])) ∧ w'.heap[w.heap.size + 1]? = some (Rj none) ∧ w.heap.size + 2 ≤ w'.heap.size)
    (E := fun w' => E w' ∧ w'.heap[w.heap.size]? = some (.deferred (some [])) ∧ w'.heap[w.heap.size + 1]? = some (Rj (some .ret)) ∧ w.heap.size + 2 ≤ w'.heap.size)
    (by omega) hsz (fun i w' h => hJ i w' h.1) (fun i wa wb h hc => ⟨hst i wa wb [] h.1 hc (by simp), hc.at_ h.2.1 (by simp), hc.at_ h.2.2.1 (by simp), by have := hc.size; omega⟩) ?_ ⟨h0 w1 hc1 hs1, hD, hL, by omega⟩ ?_ ?_
  · intro i x w' hx ⟨hj, hd, hl, hs⟩
    refine hyv [I64 i, hlV x] _ w' rfl hl ?_
    refine hy (Rj none) Rb _ _ i x w' hx hj hs hd hl (fun K w2 h2 hk => ⟨h2, fun w3 h3 hc3 hs3 => hk w3 hc3 hs3 h3⟩) (fun w2 h2 hd2 hs2 hj2 => ?_) (fun w2 h2 hd2 hs2 he2 => ?_)
    · exact ⟨h2, fun w3 h3 hc3 hs3 => .inl ⟨rfl, hst _ w2 w3 _ hj2 hc3 (by simp), hc3.at_ hd2 (by simp), h3, by omega⟩⟩
    · exact ⟨h2, fun w3 h3 hc3 hs3 => .inr ⟨rfl, hE w2 w3 he2 hc3, hc3.at_ hd2 (by simp), h3, by omega⟩⟩
  · intro w' ⟨hj, hd, hl, hs⟩
    exact ⟨none, hl, fun w2 _ hc2 _ => k1 w' w2 hj hd hs hc2⟩
  · intro w' ⟨he, hd, hl, hs⟩
    exact ⟨some .ret, hl, fun w2 _ hc2 _ => k2 w' w2 he hd hs hc2⟩
theorem at__ {b : Nat} {l : List HL} {base most : Int} {L : List Nat} (h : HAt w b l base most L) (hb : base ≠ 0) (i : Int)
    (k1 : (i < 0 ∨ (l.length : Int) ≤ i) → ∀ w', Ch [] w w' → K (.tuple #[hlV ([], 0), .bool false]) w') (k2 : ∀ (j : Nat) x, i = j → l[j]? = some x → ∀ w', Ch [] w w' → K (.tuple #[hlV x, .bool true]) w') : S.call Try.prog 21 [PT b, I64 i] K w := by
  refine F21_link ?_
  unfold F21
  refine al z36 fun w1 hb1 hc1 hs1 => ?_
  have h1 := h.ch hc1 (by simp)
  rw [lt_v]
  refine br_dec _ _ _ (fun hn => ?_) (fun hn => ?_)
  · rw [v_eq (build36z w1)]
    refine stw ag36 hb1 rfl rfl (by simp [Value.oneCell', strV]) fun w2 hb2 hc2 hs2 => ?_
    rw [ldR_p ag36 hb2 rfl]
    exact k1 (.inl hn) w2 (hc1.trans hc2 (by simp))
  · refine len_ h1 hb ?_
    rw [ge_v]
    refine br_dec _ _ _ (fun hn2 => ?_) (fun hn2 => ?_)
    · rw [v_eq (build36z w1)]
      refine stw ag36 hb1 rfl rfl (by simp [Value.oneCell', strV]) fun w2 hb2 hc2 hs2 => ?_
      rw [ldR_p ag36 hb2 rfl]
      exact k1 (.inr hn2) w2 (hc1.trans hc2 (by simp))
    · obtain ⟨j, rfl⟩ := Int.eq_ofNat_of_zero_le (show 0 ≤ i by omega)
      have hlt : j < l.length := by omega
      have hget : l[j]? = some l[j] := List.getElem?_eq_getElem hlt
      obtain ⟨lv, Ll, h11, h2, h5⟩ := h1.ex
      rw [nilC_v, fa_v fo87_0, fa_v fo85_0, ld_v sc28 (cells3 h11).1, ixa_v (j := j) el28 ag36 (LS.rl h2) (by omega) rfl hlt (lines_el hget)]
      refine stw ag36 hb1 rfl rfl (by simp [Value.oneCell', strV]) fun w2 hb2 hc2 hs2 => ?_
      rw [ldR_p ag36 hb2 rfl]
      exact k2 j _ rfl hget w2 (hc1.trans hc2 (by simp))
end
end Go.Proofs.Ytbhgindbdojmmaa
