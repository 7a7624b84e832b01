import Derived.Test.YtjaoeipfiodnfaaDoorB9
set_option linter.unusedVariables false
set_option maxRecDepth 4000
namespace Go.Proofs.YtjaoeipfiodnfaaDoor
open Go Go.Fw Go.Proofs Go.RowKit
/-! ### append of a string -/
theorem first_str (s : List UInt8) (W : World) : (Builtin.firstCells 1 s.length (strV s)).run Tryd.prog W = .ok (bytesV s).toArray W := by
  have he : (⟨s.toArray⟩ : ByteArray).extract 0 s.length = ⟨s.toArray⟩ := by
    apply ByteArray.ext
    simp
  simp [strV, Builtin.firstCells, go_sem, he, bytesV]
  intro a _
  rfl
section
variable {w : World} {K : Value → World → Prop}
theorem run_append_s {ty : TypeId} {v : Value} {n : Nat} {xs : List Value} {s : List UInt8} {L : List Nat} (h : Own w 5 1 v n xs L) (hm : n + s.length ≤ 1000000) :
    ∃ v' w' L', (Builtin.append_ #[71, 9] ty #[v, strV s]).run Tryd.prog w = .ok v' w' ∧ Own w' 5 1 v' (n + s.length) (xs ++ bytesV s) L' ∧ Ch L w w' ∧ ∀ x, x ∈ L' → x ∈ L ∨ w.heap.size ≤ x := by
  obtain ⟨i, hi, hsz, hby, hz⟩ := sl71.info
  have hb : ∀ old, old < n + s.length → Builtin.nextslicecap (n + s.length) old * i.bytes ≤ 281474976710656 := fun old ho => growslice_fits ho (by rw [hby]; omega)
  generalize hmm : s.length = m at *
  have hlen : (xs ++ bytesV s).length = (n + m) * 1 := by rw [List.length_append, h.len, length_bytesV]; omega
  have hml : n + m ≤ maxLen := by simp only [maxLen]; omega
  have hf : ∀ W : World, (Builtin.firstCells 1 m (strV s)).run Tryd.prog W = .ok (bytesV s).toArray W := fun W => by rw [← hmm]; exact first_str s W
  have hlo : ∀ W : World, (Builtin.lenOf (strV s)).run Tryd.prog W = .ok m W := fun W => by
    show (pure (⟨s.toArray⟩ : ByteArray).size : Sem Nat).run Tryd.prog W = _
    rw [size_str, hmm]
    rfl
  have h1 : ∀ u ∈ bytesV s, u.oneCell' = true := one_bytesV
  have hnl : (bytesV s).length = m := by rw [length_bytesV, hmm]
  generalize bytesV s = news at *
  have room : ∀ (g off cap : Nat) (cur : Array Value), v = .slice (some ⟨g, off, none⟩) n cap → L = [g] → w.heap[g]? = some (.cells cur 5 (0, 0)) → n + m ≤ cap → cap ≤ maxLen → off + cap * 1 ≤ cur.size → (cur.toList.drop off).take (n * 1) = xs →
      ∃ v' w' L', (Builtin.append_ #[71, 9] ty #[v, strV s]).run Tryd.prog w = .ok v' w' ∧ Own w' 5 1 v' (n + m) (xs ++ news) L' ∧ Ch L w w' ∧ ∀ x, x ∈ L' → x ∈ L ∨ w.heap.size ≤ x := by
    intro g off cap cur hv hL hg hroom hcm hfit hx
    subst hv hL
    have hst := run_storeCells_at Tryd.prog g (off + n * 1) 5 news 0 cur w hg (by rw [hnl]; omega) h1
    simp only [Nat.add_zero] at hst
    refine ⟨.slice (some ⟨g, off, none⟩) (n + m) cap, w.setRow g (cur.toList.take (off + n * 1) ++ news ++ cur.toList.drop (off + n * 1 + news.length)).toArray, [g], ?_, ⟨hlen, .inr ⟨g, off, cap, _, rfl, rfl, setRow_heap w g cur _ 5 _ hg, hroom, hcm, ?_, ?_⟩⟩, ch_setRow w g _, fun x hx => .inl hx⟩
    · have hst' := hst
      rw [Nat.mul_one] at hst'
      simp [Builtin.append_, run_underlying Tryd.underlying71, run_underlying Tryd.underlying9, sizeOf, typeInfo, hi, hsz, hlo, hroom, hf, add_mk, hst']
    · simp only [List.size_toArray, List.length_append, List.length_take, List.length_drop, Array.length_toList]
      omega
    · have hl1 : (cur.toList.take (off + n * 1)).length = off + n * 1 := by simp; omega
      simp only [List.append_assoc]
      rw [List.drop_append_of_le_length (by omega), List.drop_take]
      have : off + n * 1 - off = n * 1 := by omega
      rw [this, hx, ← List.append_assoc, ← hlen, List.take_left]
  have grow : ∀ (old : List Value) (cap : Nat), (Builtin.firstCells 1 n v).run Tryd.prog w.drew = .ok old.toArray w.drew → old = xs → (∃ A', v = .slice A' n cap) → cap < n + m →
      ∃ v' w' L', (Builtin.append_ #[71, 9] ty #[v, strV s]).run Tryd.prog w = .ok v' w' ∧ Own w' 5 1 v' (n + m) (xs ++ news) L' ∧ Ch L w w' ∧ ∀ x, x ∈ L' → x ∈ L ∨ w.heap.size ≤ x := by
    intro old cap hfo hold ⟨A', hv⟩ hc
    subst hold hv
    have hn : ¬ (n + m ≤ cap) := by omega
    have h63' : ¬ (9223372036854775807 < ((n : Int) + (m : Int))) := by omega
    have h48 := hb cap hc
    have h48' : ¬ (281474976710656 < Builtin.nextslicecap (n + m) cap * i.bytes) := by omega
    have hge := grownCap_ge w (n + m) cap 5
    have hcm := grownCap_le_maxLen w (n + m) cap 5 hml
    refine ⟨.slice (some ⟨w.heap.size, 0, none⟩) (n + m) (grownCap w (n + m) cap 5), w.drew.alloc (.cells (old.toArray ++ news.toArray ++ Builtin.zeroCells (Value.int .u8 0).cells (grownCap w (n + m) cap 5 - (n + m))) 5), [w.heap.size], ?_,
      ⟨hlen, .inr ⟨w.heap.size, 0, _, _, rfl, rfl, heap_alloc_new w.drew _, hge, hcm, ?_, ?_⟩⟩, ((Ch.drew w).trans (ch_alloc w.drew _) (by simp)).nil, fun x hx => .inr (by simp at hx; omega)⟩
    · simp [Builtin.append_, run_underlying Tryd.underlying71, run_underlying Tryd.underlying9, sizeOf, typeInfo, zeroValue, hi, hsz, hz, hlo, hn, h63', h48', Question.forced, newRow, grownCap, hfo]
      simp [hf]
      congr 2
      apply Array.ext'
      simp
    · simp only [Array.size_append, List.size_toArray, size_zeroCells, h.len, hnl]
      have : (Value.int .u8 0).cells.size = 1 := rfl
      rw [this]
      omega
    · simp only [Array.toList_append, List.append_assoc, List.drop_zero]
      rw [← List.append_assoc, ← hlen]
      exact List.take_left
  rcases h.form with ⟨rfl, rfl, rfl⟩ | ⟨g, off, cap, cur, rfl, rfl, hg, hnc, hcm, hfit, hx⟩
  · have hx : xs = [] := List.eq_nil_of_length_eq_zero (by simpa using h.len)
    subst hx
    by_cases hm0 : m = 0
    · have hn : news = [] := List.eq_nil_of_length_eq_zero (by omega)
      subst hn
      refine ⟨.slice none 0 0, w, [], ?_, by rw [hm0]; exact Own.nil w 5 1, Ch.refl _ _, by simp⟩
      have := hf w
      rw [hm0] at this hlo
      simp [Builtin.append_, run_underlying Tryd.underlying71, run_underlying Tryd.underlying9, sizeOf, typeInfo, hi, hsz, hlo, this]
    · exact grow [] 0 (by simp [Builtin.firstCells, go_sem]) rfl ⟨none, rfl⟩ (by omega)
  · by_cases hroom : n + m ≤ cap
    · exact room g off cap cur rfl rfl hg hroom hcm hfit hx
    · refine grow xs cap ?_ rfl ⟨_, rfl⟩ (by omega)
      have := (h.ch (Ch.drew w) (by simp)).rd.first (P := Tryd.prog)
      exact this
theorem aps {ty : TypeId} {v : Value} {n : Nat} {xs : List Value} {s : List UInt8} {L : List Nat} (h : Own w 5 1 v n xs L) (hm : n + s.length ≤ 1000000)
    (k : ∀ v' w' L', Own w' 5 1 v' (n + s.length) (xs ++ bytesV s) L' → Ch L w w' → (∀ x, x ∈ L' → x ∈ L ∨ w.heap.size ≤ x) → K v' w') : S.v Tryd.prog (Builtin.append_ #[71, 9] ty #[v, strV s]) K w := by
  obtain ⟨v', w', L', hr, h1, h2, h3⟩ := run_append_s (ty := ty) h hm
  exact v_ok hr (k v' w' L' h1 h2 h3)
end
/-! ### The machine -/
structure MS where
  ps : List Par
  st : List Par
  out : List UInt8
  f : UInt8 → Option Par
def mC (bv : Nat) (ps : List Par) (sv ov : Value) : Array Value := (PT bv :: (parsC ps ++ [sv, ov])).toArray
structure MAt (w : World) (bm bv mm : Nat) (s : MS) (L : List Nat) : Prop where
  n9 : s.ps.length = 9
  ex : ∃ sv ov Ls Lo, w.heap[bm]? = some (.cells (mC bv s.ps sv ov) 73 (0, 0)) ∧ w.heap[bv]? = some (.cells #[.map (some mm)] 61 (0, 0)) ∧ VM w mm s.f ∧
    Own w 36 3 sv s.st.length (parsC s.st.reverse) Ls ∧ Own w 5 1 ov s.out.length (bytesV s.out) Lo ∧ L = bm :: mm :: (Ls ++ Lo) ∧ (bv :: L).Nodup
theorem mC_size {bv : Nat} {ps : List Par} {sv ov : Value} (h : ps.length = 9) : (mC bv ps sv ov).size = 30 := by
  have := parsC_len ps
  simp [mC, this, h]
theorem mC_28 {bv : Nat} {ps : List Par} {sv ov : Value} (h : ps.length = 9) : (mC bv ps sv ov)[28]? = some sv := by
  have := parsC_len ps
  unfold mC
  rw [List.getElem?_toArray, List.getElem?_cons_succ, List.getElem?_append_right (by omega), this, h]
  rfl
theorem mC_29 {bv : Nat} {ps : List Par} {sv ov : Value} (h : ps.length = 9) : (mC bv ps sv ov)[29]? = some ov := by
  have := parsC_len ps
  unfold mC
  rw [List.getElem?_toArray, List.getElem?_cons_succ, List.getElem?_append_right (by omega), this, h]
  rfl
theorem mC_set28 {bv : Nat} {ps : List Par} {sv ov x : Value} (h : ps.length = 9) : (mC bv ps sv ov).setIfInBounds 28 x = mC bv ps x ov := by
  have := parsC_len ps
  apply Array.ext'
  unfold mC
  simp only [Array.toList_setIfInBounds]
  rw [List.set_cons_succ, List.set_append_right _ _ (by omega), this, h]
  rfl
theorem mC_set29 {bv : Nat} {ps : List Par} {sv ov x : Value} (h : ps.length = 9) : (mC bv ps sv ov).setIfInBounds 29 x = mC bv ps sv x := by
  have := parsC_len ps
  apply Array.ext'
  unfold mC
  simp only [Array.toList_setIfInBounds]
  rw [List.set_cons_succ, List.set_append_right _ _ (by omega), this, h]
  rfl
/-- What a step may turn, and what comes of it. -/
def MGo (w : World) (bm bv mm : Nat) (L : List Nat) (s' : MS) (k : World → Prop) : Prop := ∀ w' L', MAt w' bm bv mm s' L' → Ch L w w' → (∀ x, x ∈ L' → x ∈ L ∨ w.heap.size ≤ x) → k w'
theorem MAt.ch {w w' : World} {bm bv mm : Nat} {s : MS} {L M : List Nat} (h : MAt w bm bv mm s L) (hc : Ch M w w') (hd : ∀ x, x ∈ bv :: L → x ∉ M) : MAt w' bm bv mm s L := by
  obtain ⟨sv, ov, Ls, Lo, h1, h2, h3, h4, h5, h6, h7⟩ := h.ex
  subst h6
  exact ⟨h.n9, sv, ov, Ls, Lo, hc.at_ h1 (hd bm (by simp)), hc.at_ h2 (hd bv (by simp)), h3.ch hc (hd mm (by simp)), h4.ch hc (fun x hx => hd x (by simp [hx])), h5.ch hc (fun x hx => hd x (by simp [hx])), rfl, h7⟩
theorem MAt.lt {w : World} {bm bv mm : Nat} {s : MS} {L : List Nat} (h : MAt w bm bv mm s L) : ∀ x, x ∈ bv :: L → x < w.heap.size := by
  obtain ⟨sv, ov, Ls, Lo, h1, h2, h3, h4, h5, h6, h7⟩ := h.ex
  subst h6
  intro x hx
  simp only [List.mem_cons, List.mem_append] at hx
  rcases hx with rfl | rfl | rfl | hx | hx
  · exact lt_of_heap h2
  · exact lt_of_heap h1
  · exact h3.lt
  · exact h4.lt x hx
  · exact h5.lt x hx
def popR (s : MS) : Par × MS := match s.st with
  | [] => ({}, s)
  | p :: r => (p, { s with st := r })
theorem bs22 (w : World) (a b c : Value) : (Instr.buildSlice 22 1 #[(0, .agg #[a, b, c])]).run Tryd.prog w = .ok (.slice (some ⟨w.heap.size, 0, none⟩) 1 1) (w.alloc (.cells #[a, b, c] 36)) := by kernel_rfl
section
variable {w : World} {K : Value → World → Prop}
set_option maxHeartbeats 1000000
theorem pop_ {bm bv mm : Nat} {s : MS} {L : List Nat} (h : MAt w bm bv mm s L) (hst : s.st.length ≤ 64) (k : MGo w bm bv mm L (popR s).2 (K (parV (popR s).1))) : S.call Tryd.prog 52 [PT bm] K w := by
  refine F52_link ?_
  unfold F52
  have hlt := h.lt
  refine al z36 fun w1 hb1 hc1 hs1 => ?_
  generalize hg : w.heap.size = g at *
  have h1 := h.ch hc1 (by simp)
  have hn9 := h.n9
  obtain ⟨sv, ov, Ls, Lo, a1, a2, a3, a4, a5, a6, a7⟩ := h1.ex
  subst a6
  have hgL : g ∉ bv :: bm :: mm :: (Ls ++ Lo) := fun hm => by have := hlt g hm; omega
  obtain ⟨A, c, rfl, hc1', hc2'⟩ := Own.shape a4
  rw [nilC_v, fa_v fo73_2, ldb_v sc22 a1 (mC_28 hn9), len_v el22, sub_v, wrap_i64 (by omega) (by omega), lt_v]
  unfold popR at k
  cases hs : s.st with
  | nil =>
    rw [hs] at k a4
    simp only at k
    rw [decide_eq_true (by simp), br_true, v_eq (bd36 _)]
    refine stw (vs := #[I32 0, strV [], .bool false]) ag36 hb1 rfl rfl (by intro u hu; simp at hu; rcases hu with rfl | rfl | rfl <;> rfl) fun w2 hb2 hc2 hs2 => ?_
    rw [ldR_p ag36 hb2 rfl]
    exact k w2 _ (h1.ch hc2 (by intro x hx hm; simp at hm; exact hgL (hm ▸ hx))) ((hc1.nil).trans hc2 (by simp; omega)) (fun x hx => .inl hx)
  | cons p r =>
    rw [hs] at k a4
    simp only [List.length_cons, List.reverse_cons] at k a4
    have hxs : (parsC (r.reverse ++ [p])).drop (r.length * 3) = parC p := by
      rw [parsC_drop, List.drop_left' (by simp)]
      simp [parsC]
    have hhd : (s.st.length : Int) - 1 = (r.length : Int) := by rw [hs]; simp
    rw [show ((p :: r).length : Int) - 1 = (r.length : Int) from by simp, decide_eq_false (by omega), br_false, nilC_v, fa_v fo73_2, ldb_v sc22 a1 (mC_28 hn9), hs]
    simp only [List.length_cons]
    rw [ixa_v el22 ag36 a4.rd (by omega) rfl (show r.length < r.length + 1 by omega) (ys := parC p) (by rw [hxs]; rfl)]
    refine al z36 fun w2 hb2 hc2 hs2 => ?_
    refine stw (vs := (parC p).toArray) ag36 hb2 rfl rfl (by simpa using one_par (p := p)) fun w3 hb3 hc3 hs3 => ?_
    have hc13 : Ch [] w1 w3 := (hc2.nil.trans hc3 (fun x hx => .inl hx)).mono (by simp)
    have hne2 : g ≠ w1.heap.size := by omega
    have b1 := hc13.at_ a1 (by simp)
    have hb13 := hc13.at_ hb1 (by simp)
    have a43 := a4.ch hc13 (by simp)
    rw [nilC_v, fa_v fo73_2, ldb_v sc22 b1 (mC_28 hn9), hs]
    simp only [List.length_cons]
    rw [cutu_v el22 r.length rfl (by simp only [hs, List.length_cons] at hc1'; omega), nilC_v, fa_v fo73_2]
    refine st sc22 b1 (by rw [mC_size hn9]; omega) rfl fun w4 hb4 hc4 hs4 => ?_
    rw [mC_set28 hn9] at hb4
    have hbne : bm ≠ w1.heap.size := by
      have := hlt bm (by simp)
      omega
    rw [ldw_v ag36 (hc4.at_ hb3 (by simp; exact fun e => hbne e.symm)) rfl]
    have hgbm : g ≠ bm := fun e => hgL (by simp [e])
    refine stw (vs := (parC p).toArray) ag36 (hc4.at_ hb13 (by simpa using hgbm)) rfl rfl (by simpa using one_par (p := p)) fun w5 hb5 hc5 hs5 => ?_
    rw [ldR_p ag36 hb5 rfl]
    have hc35 : Ch [bm, g] w3 w5 := (hc4.mono (by simp)).trans hc5 (by simp)
    have hd : ∀ x, x ∈ bv :: mm :: (Ls ++ Lo) → x ∉ [bm, g] := by
      intro x hx
      simp only [List.nodup_cons, List.mem_cons, List.mem_append] at a7 hx hgL
      simp only [List.mem_cons, List.not_mem_nil, or_false]
      grind
    have hcut := Own.cut a43 (l := 0) (u := r.length) (by omega) (by omega)
    have hcx : ((parsC (r.reverse ++ [p])).drop (0 * 3)).take ((r.length - 0) * 3) = parsC r.reverse := by
      rw [Nat.zero_mul, List.drop_zero, Nat.sub_zero, parsC_take, List.take_left' (by simp)]
    rw [hcx, Nat.sub_zero] at hcut
    refine k w5 (bm :: mm :: (Ls ++ Lo)) ⟨hn9, _, ov, Ls, Lo, hc5.at_ hb4 (by simpa using hgbm.symm), hc35.at_ (hc13.at_ a2 (by simp)) (hd bv (by simp)), (a3.ch hc13 (by simp)).ch hc35 (hd mm (by simp)), hcut.ch hc35 (fun x hx => hd x (by simp [hx])), (a5.ch hc13 (by simp)).ch hc35 (fun x hx => hd x (by simp [hx])), rfl, a7⟩ ?_ (fun x hx => .inl hx)
    exact ((hc1.trans hc13 (by simp)).nil.trans hc35 (by simp; omega))
end
end Go.Proofs.YtjaoeipfiodnfaaDoor
