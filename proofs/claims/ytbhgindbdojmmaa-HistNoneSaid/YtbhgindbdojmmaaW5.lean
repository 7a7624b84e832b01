import Derived.Test.YtbhgindbdojmmaaW4
set_option linter.unusedVariables false
set_option maxRecDepth 4000
namespace Go.Proofs.Ytbhgindbdojmmaa
open Go Go.Fw Go.Proofs Go.RowKit
/-! ### The reference's history -/
structure LAt (w : World) (b : Nat) (l : List HL) (base most : Int) (L : List Nat) : Prop where
  ex : ∃ lv Ll, w.heap[b]? = some (.cells #[lv, .int .i64 base, .int .i64 most] 81 (0, 0)) ∧ LS w lv l Ll ∧ L = b :: Ll
  nodup : L.Nodup
theorem LAt.ch {w w' : World} {b : Nat} {l : List HL} {base most : Int} {L M : List Nat} (h : LAt w b l base most L) (hc : Ch M w w') (hd : ∀ x, x ∈ L → x ∉ M) : LAt w' b l base most L := by
  obtain ⟨lv, Ll, h1, h2, h5⟩ := h.ex
  subst h5
  exact ⟨⟨lv, Ll, hc.at_ h1 (hd b (by simp)), Own.ch h2 hc (fun x hx => hd x (by simp [hx])), rfl⟩, h.nodup⟩
theorem LAt.lt {w : World} {b : Nat} {l : List HL} {base most : Int} {L : List Nat} (h : LAt w b l base most L) : ∀ x, x ∈ L → x < w.heap.size := by
  obtain ⟨lv, Ll, h1, h2, h5⟩ := h.ex
  subst h5
  intro x hx
  simp only [List.mem_cons] at hx
  rcases hx with rfl | hx
  · exact lt_of_heap h1
  · exact Own.lt h2 x hx
theorem build81 (w : World) (m : Int) : (Instr.build 81 #[(1, .int .i64 1), (2, .int .i64 m)]).run Try.prog w = .ok (.agg #[.slice none 0 0, .int .i64 1, .int .i64 m]) w := by kernel_rfl
section
variable {w : World} {K : Value → World → Prop}
theorem rnew_ {most : Int} (k1 : (most < 0 ∨ 4096 < most) → K (.tuple #[.pointer none, I64 1]) w)
    (k2 : 0 ≤ most → most ≤ 4096 → ∀ w', LAt w' w.heap.size [] 1 most [w.heap.size] → Ch [] w w' → w'.heap.size = w.heap.size + 1 → K (.tuple #[PT w.heap.size, I64 0]) w') : S.call Try.prog 33 [I64 most] K w := by
  refine F33_link ?_
  unfold F33
  rw [lt_v]
  refine br_dec _ _ _ (fun h => k1 (.inl h)) (fun h => ?_)
  rw [gt_v]
  refine br_dec _ _ _ (fun h2 => k1 (.inr h2)) (fun h2 => ?_)
  rw [v_eq (build81 w most)]
  refine bx fun w' hb hc hs => k2 (by omega) (by omega) w' ⟨⟨_, [], hb, Own.nil _ _ _, rfl⟩, by simp⟩ hc hs
theorem lines_1 {l : List HL} {i : Nat} {x : HL} (h : l[i]? = some x) : (lines l)[i * 2 + 1]? = some (.int .i64 x.2) := by
  have := lines_el h
  have h2 : (((lines l).drop (i * 2)).take 2)[1]? = some (.int .i64 x.2) := by rw [this]; rfl
  rw [List.getElem?_take_of_lt (by omega), List.getElem?_drop] at h2
  exact h2
theorem rmay_ {B : Nat} {v : Value} {l : List HL} (h : RL w B v l) (k : K (I64 (may l)) w) : S.call Try.prog 62 [v] K w := by
  have h' := h
  obtain ⟨A, c, rfl, hc1, hc2, h4, _⟩ := h.form
  have hcm : c ≤ 9223372036854775807 := by simp only [maxLen] at hc2; omega
  refine F62_link ?_
  unfold F62
  intro I hC
  have key : ∀ (d i : Nat) (x8 x17 : Value), i + d = l.length → (∀ x ∈ l.take i, ¬ 16384 < x.1.length) → I [I64 0, I64 i, x8, x17] w := by
    intro d
    induction d with
    | zero =>
      intro i x8 x17 hi hall
      refine hC _ _ _ _ _ ?_
      rw [len_v el28, lt_v, decide_eq_false (by omega), br_false]
      rw [List.take_of_length_le (by omega)] at hall
      have h3 : l.any (fun x => decide (16384 < x.1.length)) = false := by
        rw [List.any_eq_false]; intro x hx; simpa using hall x hx
      intro I1 hC1
      have key1 : ∀ (d j : Nat) (x21 x29 : Value), j + d = l.length → (∀ x ∈ l.take j, ¬ x.2 < 0) → I1 [I64 0, I64 j, x21, x29] w := by
        intro d
        induction d with
        | zero =>
          intro j x21 x29 hj hall2
          refine hC1 _ _ _ _ _ ?_
          rw [len_v el28, lt_v, decide_eq_false (by omega), br_false]
          rw [List.take_of_length_le (by omega)] at hall2
          have h1 : l.any (fun x => decide (x.2 < 0)) = false := by
            rw [List.any_eq_false]; intro x hx; simpa using hall2 x hx
          have := k
          unfold may at this
          rw [h3, h1] at this
          exact this
        | succ d ih =>
          intro j x21 x29 hj hall2
          refine hC1 _ _ _ _ _ ?_
          have hlt : j < l.length := by omega
          have hget : l[j]? = some l[j] := List.getElem?_eq_getElem hlt
          rw [len_v el28, lt_v, decide_eq_true (by omega), br_true, ixf_v (j := j) el28 fo36_1 sc2 h' (by omega) rfl hlt (lines_1 hget), lt_v]
          refine br_dec _ _ _ (fun hn => ?_) (fun hn => ?_)
          · have h1 : l.any (fun x => decide (x.2 < 0)) = true := List.any_eq_true.2 ⟨l[j], List.getElem_mem hlt, by simpa using hn⟩
            have := k
            unfold may at this
            rw [h3, h1] at this
            exact this
          · rw [add_v, wrap_i64 (by omega) (by omega)]
            have := ih (j + 1) (.bool true) (.bool false) (by omega) (by
              intro x hx
              rw [List.take_succ_eq_append_getElem hlt, List.mem_append] at hx
              rcases hx with hx | hx
              · exact hall2 x hx
              · simp at hx; rw [hx]; exact hn)
            rw [show ((j + 1 : Nat) : Int) = (j : Int) + 1 from by omega] at this
            rw [decide_eq_false hn]
            exact this
      exact key1 l.length 0 undef undef (by omega) (by simp)
    | succ d ih =>
      intro i x8 x17 hi hall
      refine hC _ _ _ _ _ ?_
      have hlt : i < l.length := by omega
      have hget : l[i]? = some l[i] := List.getElem?_eq_getElem hlt
      rw [len_v el28, lt_v, decide_eq_true (by omega), br_true, ixf_v (j := i) el28 fo36_0 sc9 h' (by omega) rfl hlt (lines_0 hget), lenS_v und9, gt_v]
      refine br_dec _ _ _ (fun hn => ?_) (fun hn => ?_)
      · have h1 : l.any (fun x => decide (16384 < x.1.length)) = true := List.any_eq_true.2 ⟨l[i], List.getElem_mem hlt, by simp; omega⟩
        have := k
        unfold may at this
        rw [h1] at this
        exact this
      · rw [add_v, wrap_i64 (by omega) (by omega)]
        have := ih (i + 1) (.bool true) (.bool false) (by omega) (by
          intro x hx
          rw [List.take_succ_eq_append_getElem hlt, List.mem_append] at hx
          rcases hx with hx | hx
          · exact hall x hx
          · simp at hx; rw [hx]; omega)
        rw [show ((i + 1 : Nat) : Int) = (i : Int) + 1 from by omega] at this
        rw [decide_eq_false hn]
        exact this
  exact key l.length 0 undef undef (by omega) (by simp)
theorem rcut_ {b : Nat} {most : Nat} (hm : most ≤ 4096) : ∀ (d : Nat) (l : List HL) (base : Int) (w : World) (L : List Nat) (K : Value → World → Prop), l.length - most = d → LAt w b l base most L → l.length ≤ 5864062014806 → (0 ≤ base ∧ base + d ≤ 4611686018427387904) →
    (∀ w', LAt w' b (l.drop (l.length - most)) (base + ((l.length - most : Nat) : Int)) most L → Ch L w w' → K (.tuple #[]) w') → S.call Try.prog 63 [PT b] K w := by
  intro d l base w L K hd h hl hbase k
  refine F63_link ?_
  unfold F63
  intro I hC
  have key : ∀ (d : Nat) (l : List HL) (base : Int) (w' : World) (x11 : Value), l.length - most = d → LAt w' b l base most L → l.length ≤ 5864062014806 → (0 ≤ base ∧ base + d ≤ 4611686018427387904) →
      (∀ w'', LAt w'' b (l.drop (l.length - most)) (base + ((l.length - most : Nat) : Int)) most L → Ch L w' w'' → K (.tuple #[]) w'') → I [x11] w' := by
    intro d
    induction d with
    | zero =>
      intro l base w1 x11 hd h hl hbase k
      refine hC _ _ ?_
      obtain ⟨lv, Ll, h1, h2, h5⟩ := h.ex
      obtain ⟨A, c, rfl, _⟩ := Own.shape h2
      refine drawn_ok fun w2 hc2 hs2 => ?_
      have h12 := hc2.at_ h1 (by simp)
      rw [nilC_p, fa_p fo81_0, ld_p sc28 (cells3 h12).1, len_p el28, nilC_p, fa_p fo81_2, ld_p sc3 (cells3 h12).2.2, gt_p, decide_eq_false (by omega), br_false]
      refine k w2 ?_ hc2.nil
      have e : l.length - most = 0 := hd
      rw [e]
      simpa using h.ch hc2 (by simp)
    | succ d ih =>
      intro l base w1 x11 hd h hl hbase k
      refine hC _ _ ?_
      obtain ⟨lv, Ll, h1, h2, h5⟩ := h.ex
      have h2' := h2
      have hnd := h.nodup
      subst h5
      obtain ⟨A, c, rfl, hc1, hc2'⟩ := Own.shape h2
      refine drawn_ok fun w2 hc2 hs2 => ?_
      have h12 := hc2.at_ h1 (by simp)
      rw [nilC_p, fa_p fo81_0, ld_p sc28 (cells3 h12).1, len_p el28, nilC_p, fa_p fo81_2, ld_p sc3 (cells3 h12).2.2, gt_p, decide_eq_true (by omega), br_true, nilC_v, fa_v fo81_0, ld_v sc28 (cells3 h12).1, cutl_v (i := 1) el28 1 rfl (by omega) hc1, nilC_v, fa_v fo81_0]
      have hbL : b ∉ Ll := (List.nodup_cons.1 hnd).1
      have hcut := Own.cut (Own.ch h2' hc2 (by simp)) (l := 1) (u := l.length) (by omega) (Nat.le_refl _)
      have e : ((lines l).drop (1 * 2)).take ((l.length - 1) * 2) = lines (l.drop 1) := by
        rw [lines_drop, List.take_of_length_le (by rw [lines_length, List.length_drop]; omega)]
      rw [e] at hcut
      have hcut' : LS w2 (cutS 2 A c 1 l.length) (l.drop 1) Ll := by unfold LS; rw [List.length_drop]; exact hcut
      have hcut0 := hcut'
      obtain ⟨A2, c2, hA2, _⟩ := Own.shape hcut0
      rw [hA2] at hcut' ⊢
      refine st sc28 h12 (by simp) rfl fun w3 hb3 hc3 hs3 => ?_
      rw [nilC_v, fa_v fo81_1, ld_v sc2 (cells3 hb3).2.1, add_v, wrap_i64 (by omega) (by omega), nilC_v, fa_v fo81_1]
      refine st sc2 hb3 (by simp) rfl fun w4 hb4 hc4 hs4 => ?_
      have hc14 : Ch (b :: Ll) w1 w4 := ((hc2.nil (L := b :: Ll)).trans hc3 (by simp)).trans hc4 (by simp)
      have hq : LAt w4 b (l.drop 1) (base + 1) most (b :: Ll) := ⟨⟨_, Ll, hb4, Own.ch (Own.ch hcut' hc3 (fun x hx hm => by simp at hm; exact hbL (hm ▸ hx))) hc4 (fun x hx hm => by simp at hm; exact hbL (hm ▸ hx)), rfl⟩, hnd⟩
      refine ih (l.drop 1) (base + 1) w4 (.bool true) (by rw [List.length_drop]; omega) hq (by rw [List.length_drop]; omega) (by omega) fun w5 hw5 hc5 => ?_
      refine k w5 ?_ (hc14.trans hc5 (fun x hx => .inl hx))
      rw [List.drop_drop, List.length_drop] at hw5
      have e1 : 1 + (l.length - 1 - most) = l.length - most := by omega
      have e2 : base + 1 + ((l.length - 1 - most : Nat) : Int) = base + ((l.length - most : Nat) : Int) := by omega
      rw [e1, e2] at hw5
      exact hw5
  exact key d l base w undef hd h hl hbase k
end
end Go.Proofs.Ytbhgindbdojmmaa
