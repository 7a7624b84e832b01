import Derived.Test.YtbhgindbdojmmaaW
set_option linter.unusedVariables false
set_option maxRecDepth 4000
namespace Go.Proofs.Ytbhgindbdojmmaa
open Go Go.Fw Go.Proofs Go.RowKit
theorem z42 : zeroT Try.prog 42 = some (.pointer none) := by kernel_rfl
theorem build96 (w : World) (n : Int) : (Instr.build 96 #[(2, .int .i64 n)]).run Try.prog w = .ok (.agg #[.slice none 0 0, .slice none 0 0, .int .i64 n]) w := by kernel_rfl
theorem closesM {b : Nat} {k : World → Prop} {w : World} : S.closes (marksOf (addMark b undef)) k w = S.setO b (.deferred (some [])) (.deferred none) k w := rfl
theorem take_succ_map {α β : Type} {l : List α} {i : Nat} {x : α} (f : α → β) (h : l[i]? = some x) : (l.map f).take (i + 1) = (l.map f).take i ++ [f x] := by
  obtain ⟨hi, rfl⟩ := List.getElem?_eq_some_iff.1 h
  rw [List.take_succ_eq_append_getElem (by simpa using hi)]
  simp
section
variable {w : World} {K : Value → World → Prop}
theorem newwalk_ {b : Nat} {l : List HL} {base most : Int} {L : List Nat} (h : HAt w b l base most L) (hb : base ≠ 0) (hl : l.length ≤ 4096)
    (k : ∀ w' b' L', WAt w' b' (l.map (·.1)) (l.map (·.1) ++ [[]]) l.length L' → Ch [] w w' → (∀ x, x ∈ L' → w.heap.size ≤ x) → K (.tuple #[PT b', I64 0]) w') : S.call Try.prog 17 [PT b] K w := by
  refine F17_link ?_
  unfold F17
  refine hnone h hb ?_
  rw [br_false]
  refine len_ h hb ?_
  rw [v_eq (build96 w _)]
  refine bx fun w1 hb1 hc1 hs1 => ?_
  refine Go.Fw.al z42 fun w2 hb2 hc2 hs2 => ?_
  refine st sc42 hb2 (by simp [Value.cells]) rfl fun w3 hb3 hc3 hs3 => ?_
  have hc13 : Ch [] w1 w3 := hc2.trans hc3 (by simp)
  have hc03 : Ch [] w w3 := hc1.trans hc13 (by simp)
  refine all_ (h.ch hc03 (by simp)) hb (by omega) fun w4 cc r hit hc4 hle => ?_
  have hc14 : Ch [] w1 w4 := hc13.trans hc4 (by simp)
  have hs14 := hc14.size
  have hsz4 := hc4.size
  refine rng_ (J := fun i w' => ∃ L', WAt w' w.heap.size ((l.map (·.1)).take i) [] l.length L' ∧ w'.heap[w1.heap.size]? = some (.cells #[PT w.heap.size] 42 (0, 0)) ∧ It w' w3.heap.size w4.heap.size cc r l ∧ Ch [] w w' ∧ ∀ x, x ∈ L' → w.heap.size ≤ x ∧ x ≠ w1.heap.size ∧ (x < w3.heap.size ∨ w4.heap.size + 2 ≤ x))
    (E := fun _ => False) (by omega) hit (fun _ _ ⟨_, _, _, h3, _⟩ => h3) ?_ ?_ (fun _ _ h => h.elim) ?_ ?_ (fun _ _ h => h.elim)
  · intro i wa wb M ⟨L', j1, j2, j3, j4, j5⟩ hcM hM
    exact ⟨L', j1.ch hcM (fun x hx hm => by have := j5 x hx; rcases hM x hm with h | h <;> omega), hcM.at_ j2 (fun hm => by rcases hM _ hm with h | h <;> omega), j3.ch hcM (fun x hx => by rcases hM x hx with h | h <;> omega),
      j4.trans hcM (fun x hx => by rcases hM x hx with h | h <;> (right; omega)), j5⟩
  · intro w5 hc5 hs5
    have hc15 := hc14.trans hc5 (by simp)
    refine ⟨[w.heap.size], ⟨⟨_, _, [], [], hc15.at_ hb1 (by simp), Own.nil _ _ _, Own.nil _ _ _, rfl⟩, by simp⟩, (hc4.trans hc5 (by simp)).at_ hb3 (by simp), hit.ch hc5 (by simp), hc1.trans hc15 (by simp), fun x hx => ?_⟩
    simp at hx
    omega
  · intro R0 Rb bg dn i x w10 hx ⟨L', j1, j2, j3, j4, j5⟩ hs hd hl2 hbg hnone hret
    have hin : i < l.length := (List.getElem?_eq_some_iff.1 hx).1
    refine Go.Fw.al z36 fun w11 hb11 hcw11 hs11 => ?_
    rw [nth_succ, nth_zero]
    refine stw (vs := #[strV x.1, .int .i64 x.2]) ag36 hb11 rfl rfl (by simp [Value.oneCell', strV]) fun w12 hb12 hcw12 hs12 => ?_
    have hc1012 : Ch [] w10 w12 := hcw11.trans hcw12 (by simp)
    refine hbg _ w12 (hc1012.at_ hl2 (by simp)) fun w13 hcw13 hs13 hrb => ?_
    refine drawn_ok fun w14 hcw14 hs14' => ?_
    have hc1014 : Ch [w4.heap.size + 1] w10 w14 := (hc1012.nil (L := [w4.heap.size + 1])).trans (hcw13.trans hcw14 (by simp)) (by simp)
    have k1 := j1.ch hc1014 (fun y hy => by have := j5 y hy; simp; omega)
    have k2 := hc1014.at_ j2 (by simp; omega)
    have hx14 := (hcw13.trans hcw14 (by simp)).at_ hb12 (by simp; omega)
    have hrb14 := hcw14.at_ hrb (by simp)
    have hd14 := hc1014.at_ hd (by simp)
    have hsz14 := hc1014.size
    have k1lt := k1.lt
    obtain ⟨wv, nv, L1, L2, h1, h2, h3, h5⟩ := k1.ex
    subst h5
    have hnd := k1.nodup
    refine ⟨fun w' => Ch L1 w14 w', Ch.refl _ _, ?_⟩
    have hbL : w.heap.size ∉ L1 := fun hm => by simp only [List.nodup_cons, List.mem_append] at hnd; exact hnd.1 (.inl hm)
    have ht4 : w1.heap.size ∉ L1 := fun hm => by have := j5 w1.heap.size (by simp [hm]); omega
    have ht6 : w10.heap.size ∉ L1 := fun hm => by have := (j1.lt _ (show w10.heap.size ∈ _ by simp [hm])); omega
    refine h_ok (x := PT w.heap.size) (fun w' hw => run_ld sc42 (cells1 (hw.at_ k2 ht4))) ?_
    refine h_ok (x := PT w.heap.size) (fun w' hw => run_ld sc42 (cells1 (hw.at_ k2 ht4))) ?_
    refine h_ok (x := PT w.heap.size) (fun w' hw => run_nilC _) ?_
    refine h_ok (x := PT w.heap.size) (fun w' hw => run_fa fo96_0) ?_
    refine h_ok (x := wv) (fun w' hw => run_ld sc62 (cells3 (hw.at_ h1 hbL)).1) ?_
    refine h_ok (x := PT w10.heap.size) (fun w' hw => run_fa fo36_0) ?_
    refine h_ok (x := strV x.1) (fun w' hw => run_ld sc9 (cells2 (hw.at_ hx14 ht6)).1) ?_
    refine bs1 sl62 rfl rfl fun w15 ho15 hcw15 hs15 => ⟨hcw15.nil, ?_⟩
    have h2' := Own.ch h2 hcw15 (by simp)
    have hlen : ((l.map (·.1)).take i).length = i := by simp; omega
    refine ap (m := 1) (news := [strV x.1]) sl62 h2' ho15.rd (by simp [strV, Value.oneCell']) (by omega) (by omega) fun v16 w16 L16 ho16 hcw16 hl16 => ⟨(hcw15.nil).trans hcw16 (fun x hx => .inl hx), ?_⟩
    have hc1416 : Ch L1 w14 w16 := (hcw15.nil).trans hcw16 (fun x hx => .inl hx)
    have h116 := hc1416.at_ h1 hbL
    obtain ⟨A16, c16, rfl, _⟩ := ho16.shape
    rw [nilC_v, fa_v fo96_0]
    refine st sc62 h116 (by simp) rfl fun w17 hb17 hcw17 hs17 => ?_
    have hc1417 : Ch (w.heap.size :: (L1 ++ L2)) w14 w17 := (hc1416.mono (L' := w.heap.size :: (L1 ++ L2)) (fun y hy => .inl (by simp [hy]))).trans hcw17 (by simp)
    have hsz1417 := hc1417.size
    have hsz1416 := hc1416.size
    have hsz15 := hcw15.size
    have hnd16 : L16.Nodup := ho16.nodup
    have hlt16 := ho16.lt
    have d12 : ∀ y, y ∈ L1 → y ∉ L2 := fun y h1 h2 => by
      simp only [List.nodup_cons, List.nodup_append] at hnd
      exact hnd.2.2.2 y h1 y h2 rfl
    have hb2 : w.heap.size ∉ L2 := fun hm => by simp only [List.nodup_cons, List.mem_append] at hnd; exact hnd.1 (.inr hm)
    have e16 : ∀ y, y ∈ L16 → y ∈ L1 ∨ w14.heap.size ≤ y := fun y hy => by
      rcases hl16 y hy with h | h
      · exact .inl h
      · right; omega
    have hb16 : w.heap.size ∉ L16 := fun hm => by
      rcases e16 _ hm with h | h
      · exact hbL h
      · omega
    refine hnone w17 (hc1417.at_ hrb14 (fun hm => by have := j5 _ hm; omega)) (hc1417.at_ hd14 (fun hm => by have := j5 _ hm; omega)) (by omega) ⟨w.heap.size :: (L16 ++ L2), ⟨⟨_, nv, L16, L2, hb17, ?_, ?_, rfl⟩, ?_⟩, ?_, ?_, ?_, ?_⟩
    · have ht := take_succ_map (fun z : HL => z.1) hx
      rw [ht]
      unfold SS
      rw [List.length_append, strs_append]
      exact ho16.ch hcw17 (fun y hy => by intro hm; simp at hm; exact hb16 (hm ▸ hy))
    · exact Own.ch (Own.ch h3 hc1416 (fun y hy hm => d12 y hm hy)) hcw17 (fun y hy => by intro hm; simp at hm; exact hb2 (hm ▸ hy))
    · have := nodup_swap (A := [w.heap.size]) (X := L1) (Y := L16) (B := L2) (n := w14.heap.size) (by simpa using hnd) (by simpa using k1lt) hnd16 e16
      simpa using this
    · exact hc1417.at_ k2 (fun hm => by have := j5 _ hm; omega)
    · exact ((j3.ch hc1014 (fun y hy => by simp at hy; omega))).ch hc1417 (fun y hy => by
        have := j5 y hy
        omega)
    · exact (j4.trans hc1014 (fun y hy => by simp at hy; right; omega)).trans hc1417 (fun y hy => .inr (j5 y hy).1)
    · intro y hy
      simp only [List.mem_cons, List.mem_append] at hy
      rcases hy with rfl | hy | hy
      · exact j5 _ (by simp)
      · rcases e16 y hy with h | h
        · exact j5 y (by simp [h])
        · omega
      · exact j5 y (by simp [hy])
  · intro wa wb ⟨L', j1, j2, j3, j4, j5⟩ hd hs hcb
    have htk : (l.map (·.1)).take l.length = l.map (·.1) := List.take_of_length_le (by simp)
    rw [htk] at j1
    have q1 := j1.ch hcb (fun x hx hm => by have := j5 x hx; simp at hm; omega)
    have q2 := hcb.at_ j2 (by simp; omega)
    have qd := hcb.at_ hd (by simp)
    have qc : Ch [] w wb := j4.trans hcb (by simp; omega)
    have hszb := hcb.size
    refine seq_ok fun J hJ => ?_
    have hj : ∀ (w' : World) (L2 : List Nat), WAt w' w.heap.size (l.map (·.1)) (l.map (·.1) ++ [[]]) l.length L2 → Ch L' wb w' → (∀ x, x ∈ L2 → x ∈ L' ∨ wb.heap.size ≤ x) → J [] w' := by
      intro w' L2 hw hc hl2
      refine hJ _ _ ?_
      have r2 := hc.at_ q2 (fun hm => by have := j5 _ hm; omega)
      have rd := hc.at_ qd (fun hm => by have := j5 _ hm; omega)
      have hszc := hc.size
      rw [ld_v sc42 (cells1 r2), closesM]
      have hne : ∀ x, x ∈ L2 → x ≠ w4.heap.size := fun x hx e => by
        rcases hl2 x hx with h | h
        · have := j5 x h; omega
        · omega
      refine ⟨rd, fun wd hdd hcd hsd => ?_⟩
      refine k wd _ L2 (hw.ch hcd (fun x hx => by simpa using hne x hx)) ((qc.trans hc (fun x hx => .inr (j5 x hx).1)).trans hcd (by simp; omega)) (fun x hx => ?_)
      rcases hl2 x hx with h | h
      · exact (j5 x h).1
      · have := qc.size; omega
    clear hJ
    refine drawn_ok fun wc hcc hsc => ?_
    have q1c := q1.ch hcc (by simp)
    have q2c := hcc.at_ q2 (by simp)
    have q1lt := q1c.lt
    have q1nd := q1c.nodup
    obtain ⟨wv, nv, L1, L2, h1, h2, h3, h5⟩ := q1c.ex
    subst h5
    refine ⟨fun w' => Ch [] wc w', Ch.refl _ _, ?_⟩
    refine h_ok (x := PT w.heap.size) (fun w' hw => run_ld sc42 (cells1 (hw.at_ q2c (by simp)))) ?_
    refine h_ok (x := PT w.heap.size) (fun w' hw => run_ld sc42 (cells1 (hw.at_ q2c (by simp)))) ?_
    refine h_ok (x := PT w.heap.size) (fun w' hw => run_nilC _) ?_
    refine h_ok (x := PT w.heap.size) (fun w' hw => run_fa fo96_0) ?_
    refine h_ok (x := wv) (fun w' hw => run_ld sc62 (cells3 (hw.at_ h1 (by simp))).1) ?_
    have hb1L : w.heap.size ∉ L1 := fun hm => by simp only [List.nodup_cons, List.mem_append] at q1nd; exact q1nd.1 (.inl hm)
    have finish : ∀ (w' : World) (v src : Value) (B : Nat) (L3 : List Nat), SS w' v (l.map (·.1)) L3 → (∀ x, x ∈ L3 → wc.heap.size ≤ x) → Ch [] wc w' → Rd w' B 1 src 1 [strV []] →
        S.v Try.prog (Builtin.append_ #[62, 62] 62 #[v, src]) (fun t35 w_1 => Ch [] wc w_1 ∧ S.v Try.prog (S.nilC (PT w.heap.size)) (fun t36 w_2 => S.v Try.prog (Instr.fieldAt 96 t36 1) (fun t37 w_3 => S.u Try.prog (Instr.storeAt 62 t37 t35) (fun w_4 => J [] w_4) w_3) w_2) w_1) w' := by
      intro w' v src B L3 hss hl3 hcw' hrd
      have hss' : Own w' 9 1 v (l.map (fun z : HL => z.1)).length (strs (l.map (fun z : HL => z.1))) L3 := hss
      refine ap (m := 1) (news := [strV []]) sl62 hss' hrd (by simp [strV, Value.oneCell']) (by simp; omega) (by simp; omega) fun v2 w2' L4 ho4 hc4' hl4 => ?_
      have hcc2 : Ch [] wc w2' := hcw'.trans hc4' (fun x hx => .inr (hl3 x hx))
      refine ⟨hcc2, ?_⟩
      have hszw := hcw'.size
      have h14 := hcc2.at_ h1 (by simp)
      have hf4 : ∀ x, x ∈ L4 → wc.heap.size ≤ x := fun x hx => by
        rcases hl4 x hx with h | h
        · exact hl3 x h
        · omega
      obtain ⟨A4, c4, rfl, _⟩ := ho4.shape
      rw [nilC_v, fa_v fo96_1]
      refine st sc62 h14 (by simp) rfl fun w5' hb5' hc5' hs5' => ?_
      have hltb := lt_of_heap h1
      refine hj w5' (w.heap.size :: (L1 ++ L4)) ⟨⟨wv, _, L1, L4, hb5', ?_, ?_, rfl⟩, ?_⟩ ?_ ?_
      · exact Own.ch (Own.ch h2 hcc2 (by simp)) hc5' (fun x hx hm => by simp at hm; exact hb1L (hm ▸ hx))
      · unfold SS
        rw [List.length_append, strs_append]
        exact ho4.ch hc5' (fun x hx hm => by simp at hm; have := hf4 x hx; omega)
      · have := nodup_swap (A := w.heap.size :: L1) (X := L2) (Y := L4) (B := []) (n := wc.heap.size) (by simpa using q1nd) (by simpa using q1lt) ho4.nodup (fun x hx => .inr (hf4 x hx))
        simpa using this
      · exact ((hcc.trans hcc2 (by simp)).nil (L := w.heap.size :: (L1 ++ L2))).trans hc5' (by simp)
      · intro x hx
        simp only [List.mem_cons, List.mem_append] at hx ⊢
        rcases hx with rfl | hx | hx
        · exact .inl (.inl rfl)
        · exact .inl (.inr (.inl hx))
        · right; have := hf4 x hx; have := hcc.size; omega
    refine ⟨?_, ?_⟩
    · refine sclone_ (Own.rd h2) (Nat.le_refl _) (by simp; omega) fun r1 w5 L5 hls5 hc5 hl5 => ⟨hc5, ?_⟩
      refine bs1 sl62 rfl rfl fun w6 ho6 hc6 hs6 => ⟨hc5.trans hc6 (by simp), ?_⟩
      exact finish w6 r1 _ _ L5 (Own.ch hls5 hc6 (by simp)) hl5 (hc5.trans hc6 (by simp)) ho6.rd
    · refine bs1 sl62 rfl rfl fun w5 ho5 hc5 hs5 => ⟨hc5, ?_⟩
      refine sclone_ (Own.rd (Own.ch h2 hc5 (by simp))) (Nat.le_refl _) (by simp; omega) fun r1 w6 L6 hls6 hc6 hl6 => ⟨hc5.trans hc6 (by simp), ?_⟩
      exact finish w6 r1 _ _ L6 hls6 (fun x hx => by have := hl6 x hx; omega) (hc5.trans hc6 (by simp)) (Rd.ch ho5.rd hc6 (by simp))
end
end Go.Proofs.Ytbhgindbdojmmaa
