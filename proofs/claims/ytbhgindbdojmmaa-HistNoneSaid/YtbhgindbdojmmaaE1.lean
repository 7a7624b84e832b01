import Derived.Test.YtbhgindbdojmmaaHF
set_option linter.unusedVariables false
set_option maxRecDepth 4000
namespace Go.Fw
open Go.RowKit
section
variable {P : Program} {w : World}
/-- 'append' where there is room: in place. -/
theorem apIn {t ty e sz bytes : Nat} {z : Value} (T : SlT P t e sz bytes z) {A : Option Addr} {n c : Nat} {src : Value} {m B : Nat} {xs news : List Value} {L : List Nat} {K : Value → World → Prop} (h : Own w e sz (.slice A n c) n xs L) (hs : Rd w B sz src m news)
    (h1 : ∀ u ∈ news, u.oneCell' = true) (hroom : n + m ≤ c) (hA : A ≠ none)
    (k : ∀ w', Own w' e sz (.slice A (n + m) c) (n + m) (xs ++ news) L → Ch L w w' → w'.heap.size = w.heap.size → K (.slice A (n + m) c) w') : S.v P (Builtin.append_ #[t, t] ty #[.slice A n c, src]) K w := by
  obtain ⟨i, hi, rfl, rfl, hz⟩ := T.info
  have hlen : (xs ++ news).length = (n + m) * i.size := by rw [List.length_append, h.len, hs.len, Nat.add_mul]
  have hf := hs.first (P := P)
  obtain ⟨A', sc, rfl, hsc, hsm, hs4, hs5⟩ := hs.form
  rcases h.form with ⟨h0, h0', h0''⟩ | ⟨g, off, cap, cur, hv, rfl, hg, hnc, hcm, hfit, hx⟩
  · injection h0 with h0 _; exact absurd h0 hA
  · simp only [Value.slice.injEq] at hv
    obtain ⟨rfl, _, rfl⟩ := hv
    have hle : (n + m) * i.size ≤ c * i.size := Nat.mul_le_mul_right _ hroom
    rw [Nat.add_mul] at hle
    have hst := run_storeCells_at P g (off + n * i.size) e news 0 cur w hg (by rw [hs.len]; omega) h1
    simp only [Nat.add_zero] at hst
    refine v_ok (w' := w.setRow g (cur.toList.take (off + n * i.size) ++ news ++ cur.toList.drop (off + n * i.size + news.length)).toArray) (x := .slice (some ⟨g, off, none⟩) (n + m) c) ?_
      (k _ ⟨hlen, .inr ⟨g, off, c, _, rfl, rfl, setRow_heap w g cur _ e _ hg, hroom, hcm, ?_, ?_⟩⟩ (ch_setRow w g _) (by simp))
    · simp [Builtin.append_, run_underlying T.und, sizeOf, typeInfo, hi, Builtin.lenOf, hroom, hf, add_mk, hst]
    · simp only [List.size_toArray, List.length_append, List.length_take, List.length_drop, Array.length_toList]
      omega
    · have hl1 : (cur.toList.take (off + n * i.size)).length = off + n * i.size := by simp; omega
      simp only [List.append_assoc]
      rw [List.drop_append_of_le_length (by omega), List.drop_take]
      have : off + n * i.size - off = n * i.size := by omega
      rw [this, hx, ← List.append_assoc, ← hlen, List.take_left]
theorem one_zeroCells {zs : Array Value} (hz : ∀ u ∈ zs.toList, u.oneCell' = true) (h0 : 0 < zs.size) (n : Nat) : ∀ u ∈ (Builtin.zeroCells zs n).toList, u.oneCell' = true := by
  intro u hu
  unfold Builtin.zeroCells at hu
  simp only [Array.toList_map, List.mem_map] at hu
  obtain ⟨i, _, rfl⟩ := hu
  have hlt : i % zs.size < zs.size := Nat.mod_lt _ h0
  apply hz
  rw [getElem!_pos zs _ hlt]
  exact Array.getElem_mem_toList hlt
/-- 'clear' of what stands behind the elements. -/
theorem clr {t ty e sz bytes : Nat} {z : Value} (T : SlT P t e sz bytes z) {A : Option Addr} {n c l u : Nat} {xs : List Value} {L : List Nat} {K : Value → World → Prop} (h : Own w e sz (.slice A n c) n xs L) (hl : n ≤ l) (hlu : l ≤ u) (hu : u ≤ c)
    (hz1 : ∀ u ∈ z.cells.toList, u.oneCell' = true) (k : ∀ w', Own w' e sz (.slice A n c) n xs L → Ch L w w' → w'.heap.size = w.heap.size → K (.tuple #[]) w') : S.v P (Builtin.clear_ #[t] ty #[cutS sz A c l u]) K w := by
  obtain ⟨i, hi, rfl, rfl, hz⟩ := T.info
  rcases h.form with ⟨h0, h0', h0''⟩ | ⟨g, off, cap, cur, hv, rfl, hg, hnc, hcm, hfit, hx⟩
  · simp only [Value.slice.injEq] at h0
    obtain ⟨rfl, _, rfl⟩ := h0
    obtain rfl : u = 0 := by omega
    obtain rfl : l = 0 := by omega
    refine v_ok (w' := w) ?_ (k w h (Ch.refl _ _) rfl)
    simp [Builtin.clear_, cutS, run_underlying T.und, go_sem]
  · simp only [Value.slice.injEq] at hv
    obtain ⟨rfl, _, rfl⟩ := hv
    by_cases hul : u = l
    · subst hul
      refine v_ok (w' := w) ?_ (k w h (Ch.refl _ _) rfl)
      unfold cutS
      rw [Nat.sub_self]
      by_cases hc : c = u
      · simp [Builtin.clear_, run_underlying T.und, go_sem, hc]
      · simp [Builtin.clear_, run_underlying T.und, go_sem, hc]
    · have hsz : (Builtin.zeroCells z.cells (u - l)).toList.length = (u - l) * i.size := by rw [Array.length_toList, size_zeroCells, T.zs]
      have m1 : n * i.size ≤ l * i.size := Nat.mul_le_mul_right _ hl
      have m2 : (l + (u - l)) * i.size ≤ c * i.size := Nat.mul_le_mul_right _ (by omega)
      rw [Nat.add_mul] at m2
      have hst := run_storeCells_at P g (off + l * i.size) e (Builtin.zeroCells z.cells (u - l)).toList 0 cur w hg (by rw [hsz]; omega) (one_zeroCells hz1 (by rw [T.zs]; exact T.pos) _)
      simp only [Nat.add_zero] at hst
      obtain ⟨d, hd⟩ : ∃ d, u - l = d + 1 := ⟨u - l - 1, by omega⟩
      refine v_ok (x := .tuple #[]) (w' := w.setRow g (cur.toList.take (off + l * i.size) ++ (Builtin.zeroCells z.cells (u - l)).toList ++ cur.toList.drop (off + l * i.size + (Builtin.zeroCells z.cells (u - l)).toList.length)).toArray) ?_
        (k _ ⟨h.len, .inr ⟨g, off, c, _, rfl, rfl, setRow_heap w g cur _ e _ hg, hnc, hcm, ?_, ?_⟩⟩ (ch_setRow w g _) (by simp))
      · unfold cutS
        rw [if_neg (by omega)]
        rw [hd] at hst ⊢
        simp only [Option.map_some, add_mk]
        simp [Value.cells] at hst
        simp [Builtin.clear_, run_underlying T.und, go_sem, zeroValue, typeInfo, hi, hz]
        simp [hst]
      · simp only [List.size_toArray, List.length_append, List.length_take, List.length_drop, Array.length_toList] at hsz ⊢
        omega
      · have hl1 : (cur.toList.take (off + l * i.size)).length = off + l * i.size := by simp; omega
        simp only [List.append_assoc]
        rw [List.drop_append_of_le_length (by omega), List.drop_take, List.take_append_of_le_length (by rw [List.length_take, List.length_drop, Array.length_toList]; omega), List.take_take, Nat.min_eq_left (by omega), hx]
/-- A slice with three bounds. -/
theorem run_cutlu3 {t e sz : Nat} (h : elT P t = some (e, sz)) {A : Option Addr} {n c : Nat} {k k' k2 : IntKind} {l u m : Nat} (h0 : l ≤ u) (h1 : u ≤ m) (h2 : m ≤ c) :
    (Instr.sliceAt t (.slice A n c) (some (.int k (l : Int))) (some (.int k' (u : Int))) (some (.int k2 (m : Int)))).run P w = .ok (.slice (if m = l then A else A.map (·.add (l * sz))) (u - l) (m - l)) w := by
  obtain ⟨hu, j, hj, hs⟩ := elT_spec h
  have hb : ∀ (k : IntKind) (i y : Nat) (code : BoundsCode), i ≤ y → (Instr.sliceBound (.int k (i : Int)) y code).run P w = .ok i w := fun k i y code hi => by
    unfold Instr.sliceBound
    have : (i : Int) ≤ (y : Int) := by omega
    simp [asIntOf, this, go_sem]
  unfold Instr.sliceAt Instr.slice Instr.sliceBounds
  simp [run_underlying hu, sizeOf, typeInfo, hj, hs, hb _ _ _ _ h2, hb _ _ _ _ h1, hb _ _ _ _ h0, h0, h1, go_sem]
/-- An element that is a struct is written. -/
theorem stoA {t sz e : Nat} {g off n c j : Nat} {xs : List Value} {L : List Nat} {vs : Array Value} {K : World → Prop} (h : aggSz P t = some sz) (ho : Own w e sz (.slice (some ⟨g, off, none⟩) n c) n xs L) (hj : j < n) (hl : vs.size = sz) (h1 : ∀ u ∈ vs.toList, u.oneCell' = true)
    (k : ∀ w', Own w' e sz (.slice (some ⟨g, off, none⟩) n c) n (xs.take (j * sz) ++ (vs.toList ++ xs.drop ((j + 1) * sz))) L → Ch L w w' → w'.heap.size = w.heap.size → K w') : S.u P (Instr.storeAt t (.pointer (some ⟨g, off + j * sz, none⟩)) (.agg vs)) K w := by
  rcases ho.form with ⟨h0, h0', h0''⟩ | ⟨g', off', cap, cur, hv, rfl, hg, hnc, hcm, hfit, hx⟩
  · omega
  · simp only [Value.slice.injEq, Option.some.injEq, Addr.mk.injEq] at hv
    obtain ⟨⟨rfl, rfl, _⟩, _, rfl⟩ := hv
    have hvl : vs.toList.length = sz := by simpa using hl
    have hm1 : (j + 1) * sz ≤ n * sz := Nat.mul_le_mul_right _ hj
    have hm2 : n * sz ≤ c * sz := Nat.mul_le_mul_right _ hnc
    have hm0 : (j + 1) * sz = j * sz + sz := by rw [Nat.add_mul, Nat.one_mul]
    have hst := run_storeCells_at P g (off + j * sz) e vs.toList 0 cur w hg (by rw [Array.length_toList, hl]; omega) h1
    simp only [Nat.add_zero] at hst
    have hlen : (xs.take (j * sz) ++ (vs.toList ++ xs.drop ((j + 1) * sz))).length = n * sz := by
      rw [List.length_append, List.length_append, List.length_take, List.length_drop, ho.len, Array.length_toList, hl]; omega
    refine u_ok (w' := w.setRow g (cur.toList.take (off + j * sz) ++ vs.toList ++ cur.toList.drop (off + j * sz + vs.toList.length)).toArray) ?_
      (k _ ⟨hlen, .inr ⟨g, off, c, _, rfl, rfl, setRow_heap w g cur _ e _ hg, hnc, hcm, ?_, ?_⟩⟩ (ch_setRow w g _) (by simp))
    · unfold Instr.storeAt storeVar
      have hcells : (Value.agg vs).cells = vs := rfl
      simp only [Instr.sureAddr, Sem.run_bind, Sem.run_pure, Result.andThen_ok, run_sizeOf_agg h, hcells]
      rw [if_neg (by omega)]
      exact hst
    · simp only [List.size_toArray, List.length_append, List.length_take, List.length_drop, Array.length_toList, hl]
      omega
    · have hl1 : (cur.toList.take (off + j * sz)).length = off + j * sz := by simp; omega
      simp only [List.append_assoc]
      rw [List.drop_append_of_le_length (by omega), List.drop_take, ← hx, List.take_take, Nat.min_eq_left (by omega), List.drop_take, List.drop_drop, hvl, List.take_append, List.take_append, hvl, List.length_take, List.length_drop, Array.length_toList]
      rw [List.take_of_length_le (by rw [List.length_take, List.length_drop, Array.length_toList]; omega)]
      rw [Nat.min_eq_left (by omega), List.take_of_length_le (l := vs.toList) (by rw [hvl]; omega), show off + j * sz - off = j * sz from by omega, show off + (j + 1) * sz = off + j * sz + sz from by omega,
        show n * sz - j * sz - sz = n * sz - (j + 1) * sz from by omega]
end
end Go.Fw
namespace Go.Proofs.Ytbhgindbdojmmaa
open Go Go.Fw Go.Proofs Go.RowKit
section
variable {w : World} {K : Value → World → Prop}
theorem lines_eraseIdx (l : List HL) (i : Nat) : lines (l.eraseIdx i) = lines (l.take i) ++ lines (l.drop (i + 1)) := by
  rw [List.eraseIdx_eq_take_drop_succ, lines_append]
theorem delete_ {v : Value} {l : List HL} {L : List Nat} {i : Nat} (h : LS w v l L) (hi : i < l.length) (k : ∀ r w', LS w' r (l.eraseIdx i) L → Ch L w w' → K r w') : S.call Try.prog 60 [v, I64 i, I64 ((i : Int) + 1)] K w := by
  obtain ⟨A, c, rfl, hc1, hc2⟩ := Own.shape h
  have hcm : c ≤ 9223372036854775807 := by simp only [maxLen] at hc2; omega
  have hA : A ≠ none := by
    obtain ⟨g, off, c', hv, _⟩ := Own.some_ h (by omega)
    injection hv with hv _
    rw [hv]; simp
  have hi1 : ((i : Int) + 1) = ((i + 1 : Nat) : Int) := by omega
  refine F60_link ?_
  unfold F60
  rw [len_v el28, hi1, v_eq (run_cutlu3 el28 (by omega) (by omega) hc1), eq_v, decide_eq_false (by omega), br_false, len_v el28]
  refine drawn_ok fun w1 hc1' hs1 => ?_
  have h1 : LS w1 (.slice A l.length c) l L := Own.ch h hc1' (by simp)
  rw [cutu_p el28 i rfl (by omega), cutl_p el28 (i + 1) rfl (by omega) hc1]
  have hcu := Own.cut h1 (l := 0) (u := i) (by omega) (by omega)
  have hcd := Rd.cut (Own.rd h1) (l := i + 1) (u := l.length) (by omega) (Nat.le_refl _) (by omega)
  have e1 : ((lines l).drop (0 * 2)).take ((i - 0) * 2) = lines (l.take i) := by rw [Nat.zero_mul, List.drop_zero, Nat.sub_zero, lines_take]
  have e2 : ((lines l).drop ((i + 1) * 2)).take ((l.length - (i + 1)) * 2) = lines (l.drop (i + 1)) := by
    rw [lines_drop, List.take_of_length_le (by rw [lines_length, List.length_drop]; omega)]
  rw [e1] at hcu
  rw [e2] at hcd
  have ecu : cutS 2 A c 0 i = .slice A i c := by
    unfold cutS
    have : A.map (·.add (0 * 2)) = A := by cases A <;> simp [Addr.add]
    rw [this]
    simp
  rw [ecu] at hcu ⊢
  rw [Nat.sub_zero] at hcu
  refine apIn sl28 hcu hcd one_lines (by omega) hA fun w2 ho2 hc2 hs2 => ?_
  rw [len_v el28]
  have hn1 : i + (l.length - (i + 1)) = l.length - 1 := by omega
  rw [hn1] at ho2 ⊢
  rw [← lines_eraseIdx] at ho2
  rw [cutlu_v el28 (l.length - 1) l.length rfl rfl (by omega) hc1]
  refine clr sl28 ho2 (Nat.le_refl _) (by omega) hc1 (by simp [Value.cells, Value.oneCell']) fun w3 ho3 hc3 hs3 => ?_
  have hlen : (l.eraseIdx i).length = l.length - 1 := List.length_eraseIdx_of_lt hi
  refine k _ w3 ?_ (((hc1'.nil (L := L)).trans hc2 (fun x hx => .inl hx)).trans hc3 (fun x hx => .inl hx))
  unfold LS
  rw [hlen]
  exact ho3
end
end Go.Proofs.Ytbhgindbdojmmaa
