import Derived.Test.YtbhgindbdojmmaaE6
import Derived.Test.YtbhgindbdojmmaaW8
set_option linter.unusedVariables false
set_option maxRecDepth 4000
namespace Go.Proofs.Ytbhgindbdojmmaa
open Go Go.Fw Go.Proofs Go.RowKit
section
variable {w : World} {K : Value → World → Prop}
theorem equal_ {b r : Nat} {l : List HL} {base most : Int} {LH LR : List Nat} (hH : HAt w b l base most LH) (hR : LAt w r l base most LR) (hb : base ≠ 0) (hl : l.length ≤ 4096)
    (k : ∀ w', Ch [] w w' → K (.bool true) w') : S.call Try.prog 35 [PT b, PT r] K w := by
  refine F35_link ?_
  unfold F35
  refine bx fun w1 hb1 hc1 hs1 => ?_
  refine Go.Fw.al z4w fun w2 hb2 hc2 hs2 => ?_
  have hc02 : Ch [] w w2 := hc1.trans hc2 (by simp)
  refine all_ (hH.ch hc02 (by simp)) hb (by omega) fun w3 c rr hit hc3 hcc => ?_
  have hc03 : Ch [] w w3 := hc02.trans hc3 (by simp)
  have hsz3 := hc3.size
  have hb13 : w3.heap[w.heap.size]? = some (.cells #[PT r] 55 (0, 0)) := (hc2.trans hc3 (by simp)).at_ hb1 (by simp)
  have hb23 : w3.heap[w1.heap.size]? = some (.cells #[.bool false] 4 (0, 0)) := hc3.at_ hb2 (by simp)
  intro I hC
  have key : ∀ (d i : Nat) (xm x6 x12 x13 x47 : Value) (w' : World), i + d = 2 → (marksOf xm).Nodup → (∀ x ∈ marksOf xm, w'.heap[x]? = some (.deferred (some [])) ∧ w3.heap.size ≤ x) → w'.heap[w.heap.size]? = some (.cells #[PT r] 55 (0, 0)) →
      w'.heap[w1.heap.size]? = some (.cells #[.bool false] 4 (0, 0)) → It w' w2.heap.size w3.heap.size c rr l → Ch [] w w' → w3.heap.size ≤ w'.heap.size → I [xm, x6, I64 i, x12, x13, x47] w' := by
    intro d
    induction d with
    | zero =>
      intro i xm x6 x12 x13 x47 w4 hi hnd hmk hv hb4 hic hc4 hs4
      refine hC _ _ _ _ _ _ _ ?_
      rw [lt_v, decide_eq_false (by omega), br_false]
      refine drawn_ok fun w5 hc5 hs5 => ?_
      have hc05 := hc4.trans hc5 (by simp)
      have hv5 := hc5.at_ hv (by simp)
      have hb5 := hc5.at_ hb4 (by simp)
      have hH5 := hH.ch hc05 (by simp)
      obtain ⟨lv, Ll, h1, h2, h5⟩ := (hR.ch hc05 (by simp)).ex
      obtain ⟨A, cp, rfl, _⟩ := Own.shape h2
      refine ⟨fun w' => w' = w5, rfl, ?_⟩
      rw [h_p, ld_p sc55 (cells1 hv5), h_p, nilC_p, h_p, fa_p fo81_0, h_p, ld_p sc28 (cells3 h1).1, h_p, len_p el28]
      refine len_ hH5 hb ⟨rfl, ?_⟩
      rw [h_p, eq_p, decide_eq_true rfl, br_true, h_p, ld_p sc55 (cells1 hv5), h_p, nilC_p, h_p, fa_p fo81_1, h_p, ld_p sc2 (cells3 h1).2.1]
      refine base_ hH5 hb ⟨rfl, ?_⟩
      rw [h_p, eq_p, decide_eq_true rfl, br_true, h_p, ld_p sc55 (cells1 hv5), h_p, nilC_p, h_p, fa_p fo81_2, h_p, ld_p sc3 (cells3 h1).2.2]
      refine most_ hH5 hb ⟨rfl, ?_⟩
      rw [h_p, eq_p, decide_eq_true rfl]
      refine st sc4 hb5 (by simp) rfl fun w6 hb6 hc6 hs6 => ?_
      have hmk5 : ∀ x ∈ marksOf xm, w5.heap[x]? = some (.deferred (some [])) ∧ w3.heap.size ≤ x := fun x hx => ⟨hc5.at_ (hmk x hx).1 (by simp), (hmk x hx).2⟩
      refine closes_ok _ w6 hnd (fun x hx => hc6.at_ (hmk5 x hx).1 (by have := (hmk5 x hx).2; simp; omega)) fun w7 hc7 hs7 => ?_
      rw [ldRs_p sc4 (cells1 (hc7.at_ hb6 (fun hm => by have := (hmk5 _ hm).2; omega)))]
      exact k w7 ((hc05.trans hc6 (by simp; omega)).trans hc7 (fun x hx => by have := (hmk5 x hx).2; have := hc03.size; right; omega))
    | succ d ih =>
      intro i xm x6 x12 x13 x47 w4 hi hnd hmk hv hb4 hic hc4 hs4
      refine hC _ _ _ _ _ _ _ ?_
      rw [lt_v, decide_eq_true (by omega), br_true]
      refine Go.Fw.al z3w fun w5 hb5 hc5 hs5 => ?_
      refine st sc3 hb5 (by simp [Value.cells]) rfl fun w6 hb6 hc6 hs6 => ?_
      have hc46 : Ch [] w4 w6 := hc5.trans hc6 (by simp)
      have hsz4 := hc4.size
      have hsz03 := hc03.size
      have hit6 : It w6 w2.heap.size w6.heap.size c rr l := by
        have h := hic.ch hc46 (by simp)
        have h3 := h.lt
        obtain ⟨Lr, o1, o2⟩ := h.own
        exact ⟨h.at_, ⟨Lr, o1, fun x hx => ⟨(o2 x hx).1, by have := (o2 x hx).2; omega⟩⟩, by omega⟩
      have hct := hic.lt
      refine rng_ (lo := w2.heap.size) (c := c) (r := rr) (l := l) (by omega) hit6 (E := fun _ => False)
        (J := fun i w' => w'.heap[w4.heap.size]? = some (.cells #[I64 i] 3 (0, 0)) ∧ (∀ x ∈ marksOf xm, w'.heap[x]? = some (.deferred (some []))) ∧ w'.heap[w.heap.size]? = some (.cells #[PT r] 55 (0, 0)) ∧ w'.heap[w1.heap.size]? = some (.cells #[.bool false] 4 (0, 0)) ∧ It w' w2.heap.size w3.heap.size c rr l ∧ Ch [] w w')
        (fun j w' hj => ?_) ?_ ?_ (fun _ _ h => h.elim) ?_ ?_ (fun _ _ h => h.elim)
      · obtain ⟨_, _, _, _, j5, _⟩ := hj
        have h3 := j5.lt
        obtain ⟨Lr, o1, o2⟩ := j5.own
        exact ⟨j5.at_, ⟨Lr, o1, fun x hx => ⟨(o2 x hx).1, by have := (o2 x hx).2; omega⟩⟩, by omega⟩
      · intro j wa wb M ⟨j1, j2, j3, j4, j5, j6⟩ hcM hM
        have hml : ∀ x, x ∈ marksOf xm → x < w4.heap.size := fun x hx => lt_of_heap (hmk x hx).1
        exact ⟨hcM.at_ j1 (fun hm => by rcases hM _ hm with h | h <;> omega), fun x hx => hcM.at_ (j2 x hx) (fun hm => by have := hml x hx; rcases hM _ hm with h | h <;> omega), hcM.at_ j3 (fun hm => by rcases hM _ hm with h | h <;> omega), hcM.at_ j4 (fun hm => by rcases hM _ hm with h | h <;> omega),
          j5.ch hcM (fun x hx => by rcases hM x hx with h | h <;> omega), j6.trans hcM (fun x hx => by rcases hM x hx with h | h <;> (right; omega))⟩
      · intro w7 hc7 hs7
        have hc47 := hc46.trans hc7 (by simp)
        exact ⟨hc7.at_ hb6 (by simp), fun x hx => hc47.at_ (hmk x hx).1 (by simp), hc47.at_ hv (by simp), hc47.at_ hb4 (by simp), hic.ch hc47 (by simp), hc4.trans hc47 (by simp)⟩
      · intro R0 Rb bg dn j x w8 hx ⟨j1, j2, j3, j4, j5, j6⟩ hs hd hl2 hbg hnone hret
        have hin : j < l.length := (List.getElem?_eq_some_iff.1 hx).1
        have hml : ∀ x, x ∈ marksOf xm → x < w4.heap.size := fun x hx => lt_of_heap (hmk x hx).1
        refine Go.Fw.al z36 fun w9 hb9 hc9 hs9 => ?_
        rw [nth_succ, nth_zero]
        refine stw (vs := #[strV x.1, .int .i64 x.2]) ag36 hb9 rfl rfl (by simp [Value.oneCell', strV]) fun w10 hb10 hc10 hs10 => ?_
        have hc810 : Ch [] w8 w10 := hc9.trans hc10 (by simp)
        have hz810 := hc810.size
        refine hbg _ w10 (hc810.at_ hl2 (by simp)) fun w11 hc11 hs11 hrb => ?_
        refine drawn_ok fun w12 hc12 hs12 => ?_
        have hc1012 : Ch [w6.heap.size + 1] w10 w12 := hc11.trans hc12 (by simp)
        have hc812 : Ch [w6.heap.size + 1] w8 w12 := hc810.nil.trans hc1012 (by simp)
        have q1 := hc812.at_ j1 (by simp; omega)
        have q3 := hc812.at_ j3 (by simp; omega)
        have q4 := hc812.at_ j4 (by simp; omega)
        have q8 := hc1012.at_ hb10 (by simp; omega)
        have hc012 : Ch [] w w12 := j6.trans hc812 (by simp; omega)
        obtain ⟨lv, Ll, h1, h2, h5⟩ := (hR.ch hc012 (by simp)).ex
        have h2' := h2
        obtain ⟨A, cp, rfl, _⟩ := Own.shape h2
        rw [ld_p sc3 (cells1 q1), nth_zero, ne_p, decide_eq_false (by simp), br_false, ld_p sc3 (cells1 q1), ld_p sc55 (cells1 q3), nilC_p, fa_p fo81_0, ld_p sc28 (cells3 h1).1, len_p el28, ge_p, decide_eq_false (by omega), br_false,
          ldw_p ag36 q8 rfl, ld_p sc55 (cells1 q3), nilC_p, fa_p fo81_0, ld_p sc28 (cells3 h1).1, ld_p sc3 (cells1 q1), ixa_p (j := j) el28 ag36 (LS.rl h2') (by omega) rfl hin (lines_el hx)]
        rw [p_eq (run_ne36 _ _ _ x x), decide_eq_false (by simp), br_false, ld_v sc3 (cells1 q1), add_v, wrap_i64 (by omega) (by omega)]
        refine st sc3 q1 (by simp) rfl fun w13 hb13 hc13 hs13 => ?_
        have hc813 : Ch [w6.heap.size + 1, w4.heap.size] w8 w13 := (hc812.mono (L' := [w6.heap.size + 1, w4.heap.size]) (by simp)).trans hc13 (by simp)
        have hszw := hc813.size
        refine hnone w13 (hc13.at_ (hc12.at_ hrb (by simp)) (by simp; omega)) (hc813.at_ hd (by simp; omega)) (by omega) ⟨?_, fun y hy => hc813.at_ (j2 y hy) (by have := hml y hy; simp; omega), hc813.at_ j3 (by simp; omega), hc813.at_ j4 (by simp; omega), j5.ch hc813 (by simp; omega), j6.trans hc813 (by simp; omega)⟩
        have : ((j + 1 : Nat) : Int) = (j : Int) + 1 := by omega
        rw [this]
        exact hb13
      · intro wa wb ⟨j1, j2, j3, j4, j5, j6⟩ hd hs hcb
        have hml : ∀ x, x ∈ marksOf xm → x < w4.heap.size := fun x hx => lt_of_heap (hmk x hx).1
        refine drawn_ok fun wc hcc' hsc => ?_
        have hcbc : Ch [w6.heap.size + 1] wa wc := hcb.trans hcc' (by simp)
        have q1 := hcbc.at_ j1 (by simp; omega)
        have q3 := hcbc.at_ j3 (by simp; omega)
        have hszb := hcbc.size
        have hc0c : Ch [] w wc := j6.trans hcbc (by simp; omega)
        obtain ⟨lv, Ll, h1, h2, h5⟩ := (hR.ch hc0c (by simp)).ex
        obtain ⟨A, cp, rfl, _⟩ := Own.shape h2
        rw [ld_p sc3 (cells1 q1), ld_p sc55 (cells1 q3), nilC_p, fa_p fo81_0, ld_p sc28 (cells3 h1).1, len_p el28, ne_p, decide_eq_false (by simp), br_false, add_v, wrap_i64 (by omega) (by omega)]
        have := ih (i + 1) (addMark w6.heap.size xm) (PT w4.heap.size) (.bool true) (AllV c) (.bool false) wc (by omega) (by
            rw [marks_add, List.nodup_cons]
            exact ⟨fun hm => by have := hml _ hm; omega, hnd⟩)
          (by
            intro x hx
            rw [marks_add, List.mem_cons] at hx
            rcases hx with rfl | hx
            · exact ⟨hcbc.at_ hd (by simp), by omega⟩
            · exact ⟨hcbc.at_ (j2 x hx) (by have := hml x hx; simp; omega), (hmk x hx).2⟩)
          q3 (hcbc.at_ j4 (by simp; omega)) (j5.ch hcbc (by simp; omega)) hc0c (by omega)
        rw [show ((i + 1 : Nat) : Int) = (i : Int) + 1 from by omega] at this
        exact this
  exact key 2 0 undef undef undef undef undef w3 (by omega) (by simp [marksOf, marksL, undef]) (by simp [marksOf, marksL, undef]) hb13 hb23 hit hc03 (Nat.le_refl _)
end
end Go.Proofs.Ytbhgindbdojmmaa
