import Derived.Test.YtbhgindbdojmmaaW6
set_option linter.unusedVariables false
set_option maxRecDepth 4000
namespace Go.Proofs.Ytbhgindbdojmmaa
open Go Go.Fw Go.Proofs Go.RowKit
section
variable {w : World} {K : Value → World → Prop}
theorem rnewwalk_ {b : Nat} {l : List HL} {base most : Int} {L : List Nat} (h : LAt w b l base most L) (hl : l.length ≤ 4096)
    (k : ∀ w' b' L', RWAt w' b' (l.map (·.1) ++ [[]]) (l.map (·.1) ++ [[]]) l.length L' → Ch [] w w' → (∀ x, x ∈ L' → w.heap.size ≤ x) → K (PT b') w') : S.call Try.prog 23 [PT b] K w := by
  refine F23_link ?_
  unfold F23
  obtain ⟨lv, Ll, h1, h2, h5⟩ := h.ex
  have h2' := h2
  have hltb := lt_of_heap h1
  obtain ⟨A, c, rfl, hcp1, hcp2⟩ := Own.shape h2
  rw [nilC_v, fa_v fo81_0, ld_v sc28 (cells3 h1).1, len_v el28, v_eq (build64 w _)]
  refine bx fun w1 hb1 hc1 hs1 => ?_
  intro I hC
  have key : ∀ (d i : Nat) (x18 : Value) (w' : World) (wv : Value) (M : List Nat), i + d = l.length → w'.heap[w.heap.size]? = some (.cells #[wv, .slice none 0 0, I64 l.length] 64 (0, 0)) → SS w' wv ((l.map (·.1)).take i) M →
      (w.heap.size :: M).Nodup → (∀ x, x ∈ M → w.heap.size ≤ x) → Ch [] w w' → I [I64 i, x18] w' := by
    intro d
    induction d with
    | zero =>
      intro i x18 w2 wv M hi hb2 hM hnd hfr hc2
      refine hC _ _ _ ?_
      have hbM : w.heap.size ∉ M := (List.nodup_cons.1 hnd).1
      have h12 := hc2.at_ h1 (by simp)
      rw [nilC_v, fa_v fo81_0, ld_v sc28 (cells3 h12).1, len_v el28, lt_v, decide_eq_false (by omega), br_false, nilC_v, fa_v fo64_0, ld_v sc62 (cells3 hb2).1]
      have htk : (l.map (·.1)).take i = l.map (·.1) := List.take_of_length_le (by simp; omega)
      rw [htk] at hM
      refine bs1 sl62 rfl rfl fun w3 ho3 hc3 hs3 => ?_
      have hss : Own w3 9 1 wv (l.map (fun z : HL => z.1)).length (strs (l.map (fun z : HL => z.1))) M := Own.ch hM hc3 (by simp)
      refine ap (m := 1) (news := [strV []]) sl62 hss ho3.rd (by simp [strV, Value.oneCell']) (by simp; omega) (by simp; omega) fun v4 w4 L4 ho4 hc4 hl4 => ?_
      have hc24 : Ch M w2 w4 := (hc3.nil).trans hc4 (fun x hx => .inl hx)
      have hlM := Own.lt hM
      have hs24 := hc24.size
      have f4 : ∀ x, x ∈ L4 → x ∈ M ∨ w2.heap.size ≤ x := fun x hx => by
        rcases hl4 x hx with h | h
        · exact .inl h
        · right; omega
      have hlt2 := lt_of_heap hb2
      have hb4 : w.heap.size ∉ L4 := fun hm => by
        rcases f4 _ hm with h | h
        · exact hbM h
        · omega
      have ho4s : SS w4 v4 (l.map (fun z : HL => z.1) ++ [[]]) L4 := by
        unfold SS
        rw [List.length_append, strs_append]
        exact ho4
      have ho4' := ho4s
      obtain ⟨A4, c4, rfl, _⟩ := ho4s.shape
      rw [nilC_v, fa_v fo64_0]
      refine st sc62 (hc24.at_ hb2 hbM) (by simp) rfl fun w5 hb5 hc5 hs5 => ?_
      have ho5 := Own.ch ho4' hc5 (fun x hx hm => by simp at hm; exact hb4 (hm ▸ hx))
      rw [nilC_v, fa_v fo64_0]
      have hb5' := hb5
      rw [ld_v sc62 (cells3 hb5).1]
      refine ap (m := (l.map (fun z : HL => z.1) ++ [[]]).length) (news := strs (l.map (fun z : HL => z.1) ++ [[]])) sl62 (Own.nil _ _ _) (Own.rd ho5) one_strs (by simp; omega) (by simp; omega) fun v6 w6 L6 ho6 hc6 hl6 => ?_
      rw [List.nil_append, Nat.zero_add] at ho6
      have f6 : ∀ x, x ∈ L6 → w5.heap.size ≤ x := fun x hx => by simpa using hl6 x hx
      have hb6 := hc6.at_ hb5' (by simp)
      have ho6' := ho6
      obtain ⟨A6, c6, rfl, _⟩ := ho6.shape
      rw [nilC_v, fa_v fo64_1]
      refine st sc62 hb6 (by simp) rfl fun w7 hb7 hc7 hs7 => ?_
      have l4lt := Own.lt ho5
      have hsz5 := hc5.size
      have hsz6 := hc6.size
      have hf4 : ∀ x, x ∈ L4 → w.heap.size ≤ x := fun x hx => by
        rcases f4 x hx with h | h
        · exact hfr x h
        · have := hc2.size; omega
      refine k w7 _ (w.heap.size :: (L4 ++ L6)) ⟨⟨_, _, L4, L6, hb7, ?_, ?_, rfl⟩, ?_⟩ ?_ ?_
      · exact Own.ch (Own.ch ho5 hc6 (by simp)) hc7 (fun x hx hm => by simp at hm; exact hb4 (hm ▸ hx))
      · exact Own.ch ho6' hc7 (fun x hx hm => by simp at hm; have := f6 x hx; omega)
      · simp only [List.nodup_cons, List.mem_append, not_or, List.nodup_append]
        refine ⟨⟨hb4, fun hm => by have := f6 _ hm; omega⟩, ho4'.nodup, ho6.nodup, fun x hx y hy e => ?_⟩
        have := l4lt x hx
        have := f6 y hy
        omega
      · exact (((hc2.trans hc24 (fun x hx => .inr (hfr x hx))).trans hc5 (by simp)).trans hc6 (by simp)).trans hc7 (by simp)
      · intro x hx
        simp only [List.mem_cons, List.mem_append] at hx
        rcases hx with rfl | hx | hx
        · exact Nat.le_refl _
        · exact hf4 x hx
        · have := f6 x hx; have := hc2.size; omega
    | succ d ih =>
      intro i x18 w2 wv M hi hb2 hM hnd hfr hc2
      refine hC _ _ _ ?_
      have hbM : w.heap.size ∉ M := (List.nodup_cons.1 hnd).1
      have h12 := hc2.at_ h1 (by simp)
      have hlt : i < l.length := by omega
      have hget : l[i]? = some l[i] := List.getElem?_eq_getElem hlt
      rw [nilC_v, fa_v fo81_0, ld_v sc28 (cells3 h12).1, len_v el28, lt_v, decide_eq_true (by omega), br_true]
      refine drawn_ok fun w3 hc3 hs3 => ?_
      have hb3 := hc3.at_ hb2 (by simp)
      have h13 := hc3.at_ h12 (by simp)
      have hM3 := Own.ch hM hc3 (by simp)
      have hls3 : LS w3 (.slice A l.length c) l Ll := Own.ch (Own.ch h2' hc2 (by simp)) hc3 (by simp)
      obtain ⟨g, off, cn, hA, hLg, _⟩ := Own.some_ hls3 (by omega)
      injection hA with hA _ hA2
      subst hA hA2
      have hgM : g ∉ M := fun hm => by
        have := hfr g hm
        have := Own.lt h2' g (by simp [hLg])
        omega
      have hbbM : b ∉ M := fun hm => by have := hfr b hm; omega
      refine ⟨fun w' => Ch M w3 w', Ch.refl _ _, ?_⟩
      refine h_ok (x := PT w.heap.size) (fun w' hw => run_nilC _) ?_
      refine h_ok (x := PT w.heap.size) (fun w' hw => run_fa fo64_0) ?_
      refine h_ok (x := wv) (fun w' hw => run_ld sc62 (cells3 (hw.at_ hb3 hbM)).1) ?_
      refine h_ok (x := PT b) (fun w' hw => run_nilC _) ?_
      refine h_ok (x := PT b) (fun w' hw => run_fa fo81_0) ?_
      refine h_ok (x := .slice (some ⟨g, off, none⟩) l.length c) (fun w' hw => run_ld sc28 (cells3 (hw.at_ h13 hbbM)).1) ?_
      refine h_ok (x := .pointer (some ⟨g, off + i * 2, none⟩)) (fun w' hw => by
        have := run_ia (P := Try.prog) (w := w') (g := g) (off := off) (c := c) el28 .i64 (i : Int) (n := l.length) (by omega) (by omega)
        rwa [Int.toNat_natCast] at this) ?_
      refine h_ok (x := .pointer (some ⟨g, off + i * 2 + 0, none⟩)) (fun w' hw => run_fa fo36_0) ?_
      refine h_ok (x := strV l[i].1) (fun w' hw => run_ld sc9 (by
        rw [Nat.add_assoc]
        exact hw.cell (Own.cell hls3 (lines_0 hget)) hgM)) ?_
      refine bs1 sl62 rfl rfl fun w4 ho4 hc4 hs4 => ⟨hc4.nil, ?_⟩
      have hlen : ((l.map (fun z : HL => z.1)).take i).length = i := by simp; omega
      refine ap (m := 1) (news := [strV l[i].1]) sl62 (Own.ch hM3 hc4 (by simp)) ho4.rd (by simp [strV, Value.oneCell']) (by omega) (by omega) fun v5 w5 L5 ho5 hc5 hl5 => ⟨(hc4.nil).trans hc5 (fun x hx => .inl hx), ?_⟩
      have hc35 : Ch M w3 w5 := (hc4.nil).trans hc5 (fun x hx => .inl hx)
      obtain ⟨A5, c5, rfl, _⟩ := ho5.shape
      rw [nilC_v, fa_v fo64_0]
      refine st sc62 (hc35.at_ hb3 hbM) (by simp) rfl fun w6 hb6 hc6 hs6 => ?_
      have hlt2 := lt_of_heap hb3
      have hs35 := hc35.size
      have f5 : ∀ x, x ∈ L5 → x ∈ M ∨ w3.heap.size ≤ x := fun x hx => by
        rcases hl5 x hx with h | h
        · exact .inl h
        · right; omega
      have hb5 : w.heap.size ∉ L5 := fun hm => by
        rcases f5 _ hm with h | h
        · exact hbM h
        · omega
      have hsz2 := hc2.size
      rw [add_v, wrap_i64 (by omega) (by omega)]
      have := ih (i + 1) (.bool true) w6 _ L5 (by omega) hb6 (by
          have ht := take_succ_map (fun z : HL => z.1) hget
          rw [ht]
          unfold SS
          rw [List.length_append, strs_append]
          exact ho5.ch hc6 (fun y hy hm => by simp at hm; exact hb5 (hm ▸ hy))) (List.nodup_cons.2 ⟨hb5, ho5.nodup⟩)
        (fun x hx => by
          rcases f5 x hx with h | h
          · exact hfr x h
          · omega)
        (((hc2.trans hc3 (by simp)).trans hc35 (fun x hx => .inr (hfr x hx))).trans hc6 (by simp))
      rw [show ((i + 1 : Nat) : Int) = (i : Int) + 1 from by omega] at this
      exact this
  refine key l.length 0 undef w1 _ [] (by omega) hb1 (Own.nil _ _ _) (by simp) (by simp) hc1
end
end Go.Proofs.Ytbhgindbdojmmaa
