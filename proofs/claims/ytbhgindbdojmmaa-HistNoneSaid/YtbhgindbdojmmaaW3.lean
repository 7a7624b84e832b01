import Derived.Test.YtbhgindbdojmmaaW2
set_option linter.unusedVariables false
set_option maxRecDepth 4000
namespace Go.Proofs.Ytbhgindbdojmmaa
open Go Go.Fw Go.Proofs Go.RowKit
/-- The places below n that are changed. -/
def chgTo (was now : List Str) : Nat → List (Nat × Str)
  | 0 => []
  | n + 1 => chgTo was now n ++ (match was[n]?, now[n]? with
    | some a, some b => if b ≠ a then [(n, b)] else []
    | _, _ => [])
def chg (was now : List Str) : List (Nat × Str) := chgTo was now was.length
theorem chgTo_len (was now : List Str) : ∀ n, (chgTo was now n).length ≤ n
  | 0 => by simp [chgTo]
  | n + 1 => by
    have ih := chgTo_len was now n
    simp only [chgTo, List.length_append]
    have : (match was[n]?, now[n]? with
      | some a, some b => if b ≠ a then [(n, b)] else []
      | _, _ => ([] : List (Nat × Str))).length ≤ 1 := by
      split
      · split <;> simp
      · simp
    omega
def ints (l : List Nat) : List Value := l.map fun n : Nat => Value.int .i64 (n : Int)
theorem ints_append (a b : List Nat) : ints (a ++ b) = ints a ++ ints b := by simp [ints]
theorem ints_length (a : List Nat) : (ints a).length = a.length := by simp [ints]
theorem one_ints {l : List Nat} : ∀ u ∈ ints l, u.oneCell' = true := by
  intro u hu
  obtain ⟨x, _, rfl⟩ := List.mem_map.1 hu
  rfl
def IS (w : World) (v : Value) (l : List Nat) (L : List Nat) : Prop := Own w 3 1 v l.length (ints l) L
/-- What the iterator of Changed reads. -/
structure Ic (w : World) (lo B c1 c2 : Nat) (iv : Value) (l : List (Nat × Str)) : Prop where
  ex : ∃ sv L1 L2, w.heap[c1]? = some (.cells #[iv] 102 (0, 0)) ∧ w.heap[c2]? = some (.cells #[sv] 62 (0, 0)) ∧ IS w iv (l.map (·.1)) L1 ∧ SS w sv (l.map (·.2)) L2 ∧ (∀ x, x ∈ L1 → lo ≤ x ∧ x < B) ∧ (∀ x, x ∈ L2 → lo ≤ x ∧ x < B)
  lt : lo ≤ c1 ∧ c1 < B ∧ lo ≤ c2 ∧ c2 < B
theorem Ic.ch {w w' : World} {lo B c1 c2 : Nat} {iv : Value} {l : List (Nat × Str)} {M : List Nat} (h : Ic w lo B c1 c2 iv l) (hc : Ch M w w') (hd : ∀ x, x ∈ M → x < lo ∨ B ≤ x) : Ic w' lo B c1 c2 iv l := by
  obtain ⟨sv, L1, L2, h1, h2, h3, h4, h5, h6⟩ := h.ex
  have h7 := h.lt
  exact ⟨⟨sv, L1, L2, hc.at_ h1 (fun hm => by have := hd c1 hm; omega), hc.at_ h2 (fun hm => by have := hd c2 hm; omega), Own.ch h3 hc (fun x hx hm => by have := hd x hm; have := h5 x hx; omega), Own.ch h4 hc (fun x hx hm => by have := hd x hm; have := h6 x hx; omega), h5, h6⟩, h7⟩
abbrev ChV (c1 c2 : Nat) : Value := .func (.func 49) #[] #[PT c1, PT c2]
section
variable {w : World} {K : Value → World → Prop}
theorem nx_mono {s : Sem Next} {K K' : Value → World → Prop} {w : World} (h : S.nx Try.prog s K w) (hk : ∀ x w', K x w' → K' x w') : S.nx Try.prog s K' w := by
  unfold S.nx at *
  generalize s.run Try.prog w = r at h ⊢
  cases r with
  | halt x w' => exact h
  | ok n w' =>
    have hr : ∀ e w, retP K e w → retP K' e w := fun e w he => by
      cases e with
      | returned x => exact hk x w he
      | panicked c => exact he
      | outgrown => exact he
    cases n <;> first
      | exact hk _ _ h
      | exact Calls.mono h hr
      | exact RoundIn.mono h hr
      | exact h
theorem iterC_ {lo B c1 c2 : Nat} {iv : Value} {l : List (Nat × Str)} {yv : Value} {J : Nat → World → Prop} {E : World → Prop} (hsz : l.length ≤ 9223372036854775807)
    (hJ : ∀ i w', J i w' → Ic w' lo B c1 c2 iv l)
    (hy : ∀ i x w', l[i]? = some x → J i w' → S.nx Try.prog (S.callV yv [I64 x.1, strV x.2]) (fun b w'' => (b = .bool true ∧ J (i + 1) w'') ∨ (b = .bool false ∧ E w'')) w')
    (h0 : J 0 w) (k1 : ∀ w', J l.length w' → K (.tuple #[]) w') (k2 : ∀ w', E w' → K (.tuple #[]) w') : S.call Try.prog 49 [yv, PT c1, PT c2] K w := by
  refine F49_link ?_
  unfold F49
  obtain ⟨sv, L1, L2, g1, g2, g3, g4, g5, g6⟩ := (hJ 0 w h0).ex
  obtain ⟨A, cp, rfl, hc1, hc2⟩ := Own.shape g3
  rw [List.length_map] at *
  rw [ld_v sc102 (cells1 g1), len_v el102]
  intro I hC
  have key : ∀ (d i : Nat) (x4 x5 x9 x20 : Value) (w' : World), i + d = l.length → J i w' → I [x4, x5, I64 i, x9, x20] w' := by
    intro d
    induction d with
    | zero =>
      intro i x4 x5 x9 x20 w1 hi hj
      refine hC _ _ _ _ _ _ ?_
      rw [lt_v, decide_eq_false (by omega), br_false]
      have : i = l.length := by omega
      subst this
      exact k1 w1 hj
    | succ d ih =>
      intro i x4 x5 x9 x20 w1 hi hj
      refine hC _ _ _ _ _ _ ?_
      have hlt : i < l.length := by omega
      have hget : l[i]? = some l[i] := List.getElem?_eq_getElem hlt
      obtain ⟨sv', M1, M2, g1', g2', g3', g4', _, _⟩ := (hJ i w1 hj).ex
      have r1 : Rd w1 w1.heap.size 1 (.slice A l.length cp) l.length (ints (l.map (·.1))) := by have := Own.rd g3'; rwa [List.length_map] at this
      have r2 : Rd w1 w1.heap.size 1 sv' l.length (strs (l.map (·.2))) := by have := Own.rd g4'; rwa [List.length_map] at this
      rw [lt_v, decide_eq_true (by omega), br_true, ixr_v (j := i) (u := I64 l[i].1) el102 sc3 r1 rfl (by simp [ints, hget]), ld_v sc62 (cells1 g2'), ixr_v (j := i) (u := strV l[i].2) el62 sc9 r2 rfl (by simp [strs, hget])]
      refine nx_mono (hy i l[i] w1 hget hj) fun bv w4 hbv => ?_
      rcases hbv with ⟨rfl, hj4⟩ | ⟨rfl, he⟩
      · rw [not_v, show (!true) = false from rfl, br_false, add_v, wrap_i64 (by omega) (by omega)]
        have := ih (i + 1) (I64 i) (I64 l[i].1) (.bool true) (.bool false) w4 (by omega) hj4
        rw [show ((i + 1 : Nat) : Int) = (i : Int) + 1 from by omega] at this
        exact this
      · rw [not_v, show (!false) = true from rfl, br_true]
        exact k2 w4 he
  exact key l.length 0 undef undef undef undef w (by omega) h0
/-- 'for i, s := range w.Changed()'. -/
theorem rngC_ {lo c1 c2 : Nat} {iv : Value} {l : List (Nat × Str)} {rnd : ((World → Prop) → World → Prop) → (Option Code → World → Prop) → List Value → World → Prop} {nrm rt : Nat → World → Prop}
    (hsz : l.length ≤ 9223372036854775807) {J : Nat → World → Prop} {E : World → Prop}
    (hJ : ∀ i w', J i w' → Ic w' lo w.heap.size c1 c2 iv l) (hst : ∀ i w1 w2 M, J i w1 → Ch M w1 w2 → (∀ x, x ∈ M → x = w.heap.size ∨ x = w.heap.size + 1) → J i w2)
    (h0 : ∀ w1, Ch [] w w1 → w1.heap.size = w.heap.size + 2 → J 0 w1)
    (hE : ∀ w1 w2, E w1 → Ch [w.heap.size + 1] w1 w2 → E w2)
    (hy : ∀ (R0 Rb : Obj) (bg : (World → Prop) → World → Prop) (dn : Option Code → World → Prop) i x w1, l[i]? = some x → J i w1 → w.heap.size + 2 ≤ w1.heap.size → w1.heap[w.heap.size]? = some (.deferred (some [])) → w1.heap[w.heap.size + 1]? = some R0 →
      (∀ K w2, w2.heap[w.heap.size + 1]? = some R0 → (∀ w3, Ch [w.heap.size + 1] w2 w3 → w3.heap.size = w2.heap.size → w3.heap[w.heap.size + 1]? = some Rb → K w3) → bg K w2) →
      (∀ w2, w2.heap[w.heap.size + 1]? = some Rb → w2.heap[w.heap.size]? = some (.deferred (some [])) → w.heap.size + 2 ≤ w2.heap.size → J (i + 1) w2 → dn none w2) →
      (∀ w2, w2.heap[w.heap.size + 1]? = some Rb → w2.heap[w.heap.size]? = some (.deferred (some [])) → w.heap.size + 2 ≤ w2.heap.size → E w2 → dn (some .ret) w2) →
      rnd bg dn [I64 x.1, strV x.2] w1)
    (k1 : ∀ w1 w2, J l.length w1 → w1.heap[w.heap.size]? = some (.deferred (some [])) → w.heap.size + 2 ≤ w1.heap.size → Ch [w.heap.size + 1] w1 w2 → nrm w.heap.size w2)
    (k2 : ∀ w1 w2, E w1 → w1.heap[w.heap.size]? = some (.deferred (some [])) → w.heap.size + 2 ≤ w1.heap.size → Ch [w.heap.size + 1] w1 w2 → rt w.heap.size w2) :
    S.rng Try.prog (ChV c1 c2) 2 rnd nrm rt w := by
  intro yv Rj Rb Rx w1 hD hL hc1 hs1 hyv
  refine ent_func (first := []) (cap := [PT c1, PT c2]) (f := 49) Try.func49 (by decide) rfl ?_
  refine iterC_ (w := w1) (lo := lo) (B := w.heap.size) (iv := iv) (l := l)
    (J := fun i w' => J i w' ∧ w'.heap[w.heap.size]? = some (.deferred (some [])) ∧ w'.heap[w.heap.size + 1]? = some (Rj none) ∧ w.heap.size + 2 ≤ w'.heap.size)
    (E := fun w' => E w' ∧ w'.heap[w.heap.size]? = some (.deferred (some [])) ∧ w'.heap[w.heap.size + 1]? = some (Rj (some .ret)) ∧ w.heap.size + 2 ≤ w'.heap.size)
    hsz (fun i w' h => hJ i w' h.1) ?_ ⟨h0 w1 hc1 hs1, hD, hL, by omega⟩ ?_ ?_
  · intro i x w' hx ⟨hj, hd, hl, hs⟩
    refine hyv [I64 x.1, strV x.2] _ w' rfl hl ?_
    refine hy (Rj none) Rb _ _ i x w' hx hj hs hd hl (fun K w2 h2 hk => ⟨h2, fun w3 h3 hc3 hs3 => hk w3 hc3 hs3 h3⟩) (fun w2 h2 hd2 hs2 hj2 => ?_) (fun w2 h2 hd2 hs2 he2 => ?_)
    · exact ⟨h2, fun w3 h3 hc3 hs3 => .inl ⟨rfl, hst _ w2 w3 _ hj2 hc3 (by simp), hc3.at_ hd2 (by simp), h3, by omega⟩⟩
    · exact ⟨h2, fun w3 h3 hc3 hs3 => .inr ⟨rfl, hE w2 w3 he2 hc3, hc3.at_ hd2 (by simp), h3, by omega⟩⟩
  · intro w' ⟨hj, hd, hl, hs⟩
    exact ⟨none, hl, fun w2 _ hc2 _ => k1 w' w2 hj hd hs hc2⟩
  · intro w' ⟨he, hd, hl, hs⟩
    exact ⟨some .ret, hl, fun w2 _ hc2 _ => k2 w' w2 he hd hs hc2⟩
end
end Go.Proofs.Ytbhgindbdojmmaa
